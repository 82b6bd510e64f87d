/-
  iface: the example, the test of the others, what is seen.
-/
import Derived.Test.YtkaeedffhmlomaaIfB
namespace Go.Proofs.Ytkaeedffhmlomaa
open Go.RowKit

theorem step_v {a b c d e ev : Int} {n : Nat} {A : Option Addr} {cap : Nat} {l : List Cand} {w : World} {B : Nat} (hl : CandsAt w B A l) (hB : B ≤ w.heap.size) (hn : l.length ≤ 2 ^ 30) (hnl : n = l.length)
    {a' b' c' d' e' : Int} (hx : stepI ⟨a, b, c, d, e⟩ ev l = ⟨a', b', c', d', e'⟩) :
    Calls Try.prog 24 #[.agg #[.int .i64 a, .int .i64 b, .int .i64 c, .int .i64 d, .int .i64 e], .int .i64 ev, .slice A n cap] w
      fun r w' => r = .returned (.tuple #[.agg #[.int .i64 a', .int .i64 b', .int .i64 c', .int .i64 d', .int .i64 e'], .bool (unlike ⟨a', b', c', d', e'⟩ ⟨a, b, c, d, e⟩)]) ∧ Below w.heap.size w w' := by
  subst hnl
  have := step_any ⟨a, b, c, d, e⟩ ev A cap l w B hl hB hn
  rw [hx] at this
  exact this
theorem cands_nil (w : World) (B : Nat) (A : Option Addr) : CandsAt w B A [] := ⟨rfl, fun h => absurd h (Nat.lt_irrefl _)⟩

set_option maxHeartbeats 1000000 in
theorem wakes10 (w : World) : Calls Try.prog 22 #[] w fun e w' => e = .returned (.bool true) ∧ Below w.heap.size w w' := by
  have hx : stepI ⟨1, 0, 0, 0, 0⟩ 0 [] = ⟨1, 0, 2, 0, 0⟩ := by decide
  have hE := eqIface
  have Hx := Lib.hid hx
  have hu : unlike ⟨1, 0, 2, 0, 0⟩ ⟨1, 0, 0, 0, 0⟩ = true := by decide
  clear hx
  go_enter Try.func22, Try.ntmps22
  go_wp2_with (go_at_call 24; (with_reducible refine Calls.mono (step_v (l := []) (cands_nil _ _ _) (Nat.le_refl _) (by simp) rfl Hx.out) ?_); rw [hu]; rintro e w1 ⟨rfl, hb1⟩)
  go_ret
  exact ⟨rfl, hb1.alloc hb1.size _⟩

theorem apart_own {w w1 w5 : World} {v : Value} {t : TypeId} {cs : Array Value} {n : Nat} {a b d e : Int} {l : List Cand} {g : Nat} (hb : Below w.heap.size w w1) (hown : w5.ownsRow w1.heap.size 33 4 v (1 + l.length) ((#[.int .i64 a, .int .i64 b, .int .i64 d, .int .i64 e] : Array Value).toList ++ l.flatMap Cand.cells))
    (hg : (w1.alloc (.cells cs t)).grownBy w5 (Value.slice (some ⟨w1.heap.size, 0, none⟩) n g).ownBlock) :
    ∃ A cap, v = .slice A (1 + l.length) cap ∧ CandsAt w5 w5.heap.size A ((⟨a, b, d, e⟩ : Cand) :: l) ∧ Below w.heap.size w w5 := by
  have hO : OwnC w5 w1.heap.size v ((⟨a, b, d, e⟩ : Cand) :: l) := by
    unfold OwnC; rw [show (((⟨a, b, d, e⟩ : Cand) :: l).length) = 1 + l.length by simp; omega]; exact hown
  obtain ⟨A, cap, rfl, hA⟩ := hO.shape
  refine ⟨A, cap, ?_, hA, (hb.alloc hb.size _).grown hg (by have := hb.size; simp; omega) (fun k hk => ?_)⟩
  · rw [show (((⟨a, b, d, e⟩ : Cand) :: l).length) = 1 + l.length by simp; omega]
  · have hk : w1.heap.size = k := Option.some.inj hk
    have := hb.size
    omega
theorem apart_n {n : Nat} {A : Option Addr} {cap : Nat} {l : List Cand} {w : World} {B : Nat} (hl : CandsAt w B A l) (hB : B ≤ w.heap.size) (hn : l.length ≤ maxLen) (hnl : n = l.length) :
    Calls Try.prog 16 #[.slice A n cap] w fun e w' => e = .returned (.bool (apartB l)) ∧ Below w.heap.size w w' := by
  subst hnl; exact apart_any A cap l w B hl hB hn

set_option maxHeartbeats 1000000 in
set_option maxRecDepth 100000 in
theorem apart10 (a b c d e : Int) (A : Option Addr) (cap : Nat) (l : List Cand) (w : World) (B : Nat) (hl : CandsAt w B A l) (hB : B ≤ w.heap.size) (hn : l.length ≤ 2 ^ 30) :
    Calls Try.prog 23 #[.agg #[.int .i64 a, .int .i64 b, .int .i64 c, .int .i64 d, .int .i64 e], .slice A l.length cap] w fun r w' => r = .returned (.bool (apartI ⟨a, b, c, d, e⟩ l)) ∧ Below w.heap.size w w' := by
  obtain ⟨i0, hi, hz0, hz1, hz2⟩ := info_parts infoC'
  have Hl := Lib.hid hl
  have hlen : ((⟨a, b, d, e⟩ : Cand) :: l).length ≤ maxLen := by simp; unfold maxLen; omega
  have Hlen := Lib.hid hlen
  clear hl hlen
  go_enter Try.func23, Try.ntmps23
  go_wp2_with (first
    | (go_at_call 26; (with_reducible refine Calls.mono (own_any _ _ _ _ _ _) ?_); rintro r w1 ⟨rfl, hb1⟩; have hb2 : Below w.heap.size w w1 := ((Below.refl _ _).alloc (Nat.le_refl _) _).trans (hb1.mono (by simp)); have HL1 : Hid (∀ o, Reads (w1.alloc o) B 4 A l.length (l.flatMap Cand.cells)) := Lib.hid (fun o => Reads.below Hl.out ((hb2.alloc hb2.size o).mono hB)); have Hb2 := Lib.hid hb2; clear hb1 hb2)
    | (at_builtin; refine wpList_append_any _ rfl _ _ _ rfl w1.heap.size 33 i0 _ 4 32 Try.underlying22 hi hz0 hz1 hz2 rfl (by decide) _ 1 _ rfl (World.ownsRow_lit w1 #[.int .i64 a, .int .i64 b, .int .i64 d, .int .i64 e] 1 (Nat.le_refl _) (by unfold maxLen; omega) rfl) B A l.length cap (l.flatMap Cand.cells) rfl (HL1.out _) (cells_one l) (by unfold maxLen; omega) (by omega) (by simp) ?_; intro v5 w5 hown5 hg5 hat5; obtain ⟨A', cap', rfl, hAt, hb5⟩ := apart_own Hb2.out hown5 hg5; have HAt := Lib.hid hAt; have Hb5 := Lib.hid hb5; clear hown5 hg5 hat5 hAt hb5)
    | (go_at_call 16; (with_reducible refine Calls.mono (apart_n HAt.out (Nat.le_refl _) Hlen.out (Nat.add_comm _ _)) ?_); rintro r w6 ⟨rfl, hb6⟩))
  go_ret
  exact ⟨rfl, Hb5.out.trans (hb6.mono Hb5.out.size)⟩

def seesB (i : Ifc) (c : Cand) : Bool := i.state == 1 && c.id != 0 && (c.bdr == c.id || (c.dr == c.id && c.bdr == 0))
set_option maxHeartbeats 1000000 in
set_option maxRecDepth 100000 in
theorem sees_any (a b c d e x y z u : Int) (w : World) :
    Calls Try.prog 27 #[.agg #[.int .i64 a, .int .i64 b, .int .i64 c, .int .i64 d, .int .i64 e], .agg #[.int .i64 x, .int .i64 y, .int .i64 z, .int .i64 u]] w fun r w' => r = .returned (.bool (seesB ⟨a, b, c, d, e⟩ ⟨x, y, z, u⟩)) ∧ Below w.heap.size w w' := by
  have hb : ∀ o p, Below w.heap.size w ((w.alloc o).alloc p) := fun o p => (((Below.refl _ _).alloc (Nat.le_refl _) _).alloc (by simp) _)
  have Hb := Lib.hid hb
  clear hb
  by_cases h1 : c = 1
  · subst h1
    by_cases h2 : x = 0
    · subst h2
      go_enter Try.func27, Try.ntmps27
      go_wp2
      all_goals go_ret
      all_goals exact ⟨by simp [seesB], Hb.out _ _⟩
    · by_cases h3 : u = x
      · subst h3
        go_enter Try.func27, Try.ntmps27
        go_wp2
        all_goals go_ret
        all_goals exact ⟨by simp [seesB], Hb.out _ _⟩
      · by_cases h4 : z = x
        · subst h4
          by_cases h5 : u = 0
          · subst h5
            go_enter Try.func27, Try.ntmps27
            go_wp2
            all_goals go_ret
            all_goals exact ⟨by simp [seesB], Hb.out _ _⟩
          · go_enter Try.func27, Try.ntmps27
            go_wp2
            all_goals go_ret
            all_goals exact ⟨by simp [seesB], Hb.out _ _⟩
        · go_enter Try.func27, Try.ntmps27
          go_wp2
          all_goals go_ret
          all_goals exact ⟨by (have e1 : (u == x) = false := (by simp [h3])); (have e2 : (z == x) = false := (by simp [h4])); simp [seesB, e1, e2], Hb.out _ _⟩
  · go_enter Try.func27, Try.ntmps27
    go_wp2
    all_goals go_ret
    all_goals exact ⟨by simp [seesB, h1], Hb.out _ _⟩

end Go.Proofs.Ytkaeedffhmlomaa
