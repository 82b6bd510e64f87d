/-
  The walk of the reference's Go.
-/
import Derived.Test.YtfhikkmgclkcdaaProg
import Derived.Test.YtfhikkmgclkcdaaRefSort
namespace Go.Proofs.Ytfhikkmgclkcdaa
open Go.RowKit

def ref1K (s : List Cand) (k : Nat) : Int × Int := refGo1 (s.take k)
theorem ref1K_succ (s : List Cand) (k : Nat) (h : k < s.length) : ref1K s (k + 1) = refStep1 (ref1K s k) s[k] := by
  unfold ref1K refGo1
  rw [List.take_succ_eq_append_getElem h, List.foldl_append]; rfl

theorem step1_cases (t : Int × Int) (c : Cand) :
    ((c.dr == c.id) = true ∧ (t.1 == 0) = true ∧ refStep1 t c = (c.id, t.2)) ∨
    ((c.dr == c.id) = true ∧ (t.1 == 0) = false ∧ refStep1 t c = (t.1, t.2)) ∨
    ((c.dr == c.id) = false ∧ (c.bdr == c.id) = false ∧ refStep1 t c = (t.1, t.2)) ∨
    ((c.dr == c.id) = false ∧ (c.bdr == c.id) = true ∧ (t.2 == 0) = true ∧ refStep1 t c = (t.1, c.id)) ∨
    ((c.dr == c.id) = false ∧ (c.bdr == c.id) = true ∧ (t.2 == 0) = false ∧ refStep1 t c = (t.1, t.2)) := by
  unfold refStep1
  by_cases h1 : c.dr = c.id <;> by_cases h2 : t.1 = 0 <;> by_cases h3 : c.bdr = c.id <;> by_cases h4 : t.2 = 0 <;> simp [h1, h2, h3, h4]

def ref2K (b : Int) (s : List Cand) (k : Nat) : Int := refGo2 b (s.take k)
theorem ref2K_succ (b : Int) (s : List Cand) (k : Nat) (h : k < s.length) : ref2K b s (k + 1) = refStep2 (ref2K b s k) s[k] := by
  unfold ref2K refGo2
  rw [List.take_succ_eq_append_getElem h, List.foldl_append]; rfl
theorem refGo2_ne (b : Int) (s : List Cand) (h : (b == 0) = false) : refGo2 b s = b := by
  unfold refGo2
  induction s with
  | nil => rfl
  | cons c s ih =>
    rw [List.foldl_cons]
    have : refStep2 b c = b := by unfold refStep2; simp [h]
    rw [this]; exact ih
theorem ref2K_stop (b : Int) (s : List Cand) (k : Nat) (h : (ref2K b s k == 0) = false) : refGo2 b s = ref2K b s k := by
  have e : refGo2 b s = refGo2 (refGo2 b (s.take k)) (s.drop k) := by
    unfold refGo2; rw [← List.foldl_append, List.take_append_drop]
  rw [e]
  exact refGo2_ne _ _ h
theorem refGo_eq {l s : List Cand} (hs : sortedC l = s) {d b : Int} (hd : (ref1K s s.length).1 = d) (hb : refGo2 (ref1K s s.length).2 s = b) : refGo l = (if (d == 0) = true then b else d, b) := by
  unfold ref1K at hd hb
  rw [List.take_length] at hd hb
  simp only [refGo, hs, hd, hb]

set_option maxHeartbeats 4000000 in
set_option maxRecDepth 100000 in
theorem refGo_any (A : Option Addr) (cap : Nat) (l : List Cand) (w : World) (B : Nat) (hl : CandsAt w B A l) (hB : B ≤ w.heap.size) (hn : l.length ≤ 2 ^ 40) :
    Calls Try.prog 102 #[.slice A l.length cap] w fun e w' => e = .returned (.agg #[.int .i64 (refGo l).1, .int .i64 (refGo l).2]) ∧ Below w.heap.size w w' := by
  have hl := hl.more hB
  have hl0 : ∀ o, CandsAt (w.alloc o) (w.alloc o).heap.size A l := fun o => CandsAt.of hl ((Below.refl _ _).alloc (Nat.le_refl _) o) (by simp)
  have Hl := Lib.hid hl0
  have Hn := Lib.hid hn
  have hsl : (sortedC l).length ≤ l.length := by have := length_sortedK l l.length (Nat.le_refl _); simpa [sortedK] using this
  clear hl hB hl0
  go_enter Try.func102, Try.ntmps102
  go_wp2_with (go_at_call 131; (with_reducible refine Calls.mono (sorted_any A cap l _ _ (Hl.out _) (Nat.le_refl _) Hn.out) ?_); rintro e w1 ⟨v, rfl, hown, hb1⟩; obtain ⟨A', cp, rfl, _⟩ := OwnC.shape hown; have Hown := Lib.hid hown; have Hb1 := Lib.hid hb1; clear hown hb1)
  have hn64 : (sortedC l).length ≤ 9223372036854775807 := by have := Hn.out; omega
  generalize hs : sortedC l = s at *
  have Hs := Lib.hid hs
  have hz : w.heap.size < w1.heap.size := by have := Hb1.out.size; simp at this; omega
  have hR : Blk w1 w.heap.size 132 #[.int .i64 0, .int .i64 0] := (Blk.new w _ _).below Hb1.out (by simp)
  have HR := Lib.hid hR
  clear hs hR
  go_loopw [5] (fun i wr => ∃ k : Nat, k ≤ s.length ∧ i = .int .i64 k ∧ Blk wr w1.heap.size 132 #[.int .i64 (ref1K s k).1, .int .i64 (ref1K s k).2] ∧ Below w1.heap.size w1 wr) (fun i _ => s.length - (intOf i).toNat)
  case atStart => exact ⟨0, Nat.zero_le _, rfl, Blk.new _ _ _, (Below.refl _ _).alloc (Nat.le_refl _) _⟩
  case round =>
    obtain ⟨k, hk, rfl, hB, hb⟩ := hrel
    have hsz := hB.lt
    obtain ⟨t0, t1, g0, g1⟩ := hB.cells2
    have HB := Lib.hid hB
    clear hB
    by_cases hlt : k < s.length
    · have hown1 := Hown.out.below hb
      obtain ⟨g, cp', hv, hg1, hg2, c0, c1, c2, c3, _⟩ := hown1.at_ k hlt
      obtain rfl : A' = some ⟨g, 0, none⟩ := by simp only [Value.slice.injEq] at hv; exact hv.1
      clear hv hown1
      have hgw : g < w1.heap.size := by
        obtain ⟨g', cp', hv, _, h, _⟩ := Hown.out.at_ k hlt
        simp only [Value.slice.injEq, Option.some.injEq, Addr.mk.injEq] at hv
        rw [hv.1.1]; exact h
      have hgn1 : ¬ g = w1.heap.size := by omega
      have hgn2 : ¬ w1.heap.size = g := by omega
      have hsucc := ref1K_succ s k hlt
      generalize s[k] = c at *
      generalize ref1K s k = t at *
      rcases c with ⟨ci, cpr, cd, cb⟩
      rcases t with ⟨td, tb⟩
      rcases step1_cases (td, tb) ⟨ci, cpr, cd, cb⟩ with ⟨h1, h2, hx⟩ | ⟨h1, h2, hx⟩ | ⟨h1, h2, hx⟩ | ⟨h1, h2, h3, hx⟩ | ⟨h1, h2, h3, hx⟩
      all_goals
        rw [hx] at hsucc
        have Hsucc := Lib.hid hsucc
        clear hsucc hx
        have hne1 : (cd != ci) = !(cd == ci) := rfl
        rw [h1] at hne1
        simp only [Bool.not_true, Bool.not_false] at hne1
        go_wp2
        go_quiet (fail)
        go_wp2
        go_quiet (fail)
        go_wp2
        go_roundw
        case measure => simp [intOf]; omega
        case rel =>
          first
            | exact ⟨k + 1, hlt, by go_num, by rw [Hsucc.out]; exact HB.out.drewN _, below_drewN hb _⟩
            | exact ⟨k + 1, hlt, by go_num, by rw [Hsucc.out]; exact ((HB.out.drewN _).set_ 0 _).drewN _, below_drewN ((below_drewN hb _).setCell (p := ⟨w1.heap.size, 0, none⟩) (Nat.le_refl _) _) _⟩
            | exact ⟨k + 1, hlt, by go_num, by rw [Hsucc.out]; exact (HB.out.drewN _).set_ 1 _, (below_drewN hb _).setCell (p := ⟨w1.heap.size, 1, none⟩) (Nat.le_refl _) _⟩
    · have : k = s.length := by omega
      subst this
      go_wp2
      have heq : ∀ d b, (ref1K s s.length).1 = d → refGo2 (ref1K s s.length).2 s = b → refGo l = (if (d == 0) = true then b else d, b) := fun d b h1 h2 => refGo_eq Hs.out h1 h2
      generalize hd : (ref1K s s.length).1 = d at *
      generalize hb0 : (ref1K s s.length).2 = b0 at *
      have heq : ∀ b, refGo2 b0 s = b → refGo l = (if (d == 0) = true then b else d, b) := fun b h => heq d b rfl h
      have Heq := Lib.hid heq
      have Hb := Lib.hid hb
      obtain ⟨wo, rfl⟩ : ∃ wo : World, wo = wr := ⟨_, rfl⟩
      clear hd hb0 heq hb t0 t1 g0 g1
      go_loopw [6] (fun i wr => ∃ k : Nat, k ≤ s.length ∧ i = .int .i64 k ∧ Blk wr w1.heap.size 132 #[.int .i64 d, .int .i64 (ref2K b0 s k)] ∧ Below w1.heap.size w1 wr) (fun i _ => s.length - (intOf i).toNat)
      case atStart => exact ⟨0, Nat.zero_le _, rfl, HB.out, Hb.out⟩
      case round =>
        obtain ⟨k, hk, rfl, hB, hb⟩ := hrel
        have hsz := hB.lt
        obtain ⟨t0, t1, g0, g1⟩ := hB.cells2
        have HB := Lib.hid hB
        have hRr := HR.out.below hb hz
        obtain ⟨r0, r1, q0, q1⟩ := hRr.cells2
        have hrn1 : ¬ w.heap.size = w1.heap.size := by omega
        have hrn2 : ¬ w1.heap.size = w.heap.size := by omega
        clear hB hRr
        by_cases hlt : k < s.length
        · by_cases hbz : (ref2K b0 s k == 0) = true
          · have hown1 := Hown.out.below hb
            obtain ⟨g, cp', hv, hg1, hg2, c0, c1, c2, c3, _⟩ := hown1.at_ k hlt
            obtain rfl : A' = some ⟨g, 0, none⟩ := by simp only [Value.slice.injEq] at hv; exact hv.1
            clear hv hown1
            have hsucc := ref2K_succ b0 s k hlt
            generalize s[k] = c at *
            generalize ref2K b0 s k = t at *
            rcases c with ⟨ci, cpr, cd, cb⟩
            by_cases hne : (cd != ci) = true
            · have hx : refStep2 t ⟨ci, cpr, cd, cb⟩ = ci := by unfold refStep2; simp [hbz, hne]
              rw [hx] at hsucc
              have Hsucc := Lib.hid hsucc
              clear hsucc hx
              go_wp2
              go_quiet (fail)
              go_wp2
              go_roundw
              case measure => simp [intOf]; omega
              case rel => exact ⟨k + 1, hlt, by go_num, by rw [Hsucc.out]; exact (HB.out.drewN _).set_ 1 _, (below_drewN hb _).setCell (p := ⟨w1.heap.size, 1, none⟩) (Nat.le_refl _) _⟩
            · have hne := Bool.eq_false_iff.2 hne
              have hx : refStep2 t ⟨ci, cpr, cd, cb⟩ = t := by unfold refStep2; simp [hbz, hne]
              rw [hx] at hsucc
              have Hsucc := Lib.hid hsucc
              clear hsucc hx
              go_wp2
              go_quiet (fail)
              go_wp2
              go_roundw
              case measure => simp [intOf]; omega
              case rel => exact ⟨k + 1, hlt, by go_num, by rw [Hsucc.out]; exact HB.out.drewN _, below_drewN hb _⟩
          · have hbz := Bool.eq_false_iff.2 hbz
            have hfin := Heq.out _ (ref2K_stop b0 s k hbz)
            generalize ref2K b0 s k = t at *
            have hbase : Below w.heap.size w wr := (((Below.refl _ _).alloc (Nat.le_refl _) _).trans (Hb1.out.mono (by simp))).trans (hb.mono (by omega))
            have Hfin := Lib.hid hfin
            have Hbase := Lib.hid hbase
            clear hfin hbase hb
            have hTb : w.heap.size ≤ w1.heap.size := by omega
            by_cases hd : (d == 0) = true
            · go_wp2
              refine bodyPost_ret (v := .agg #[.int .i64 t, .int .i64 t]) (by simp [results, Try.results102, go_sem, r0, r1]) rfl ⟨by rw [Hfin.out]; simp [hd], ?_⟩
              exact ((Hbase.out.setCell (p := ⟨w1.heap.size, 0, none⟩) hTb _).setCell (p := ⟨w.heap.size, 0, none⟩) (Nat.le_refl _) _).setCell (p := ⟨w.heap.size, 1, none⟩) (Nat.le_refl _) _
            · have hd := Bool.eq_false_iff.2 hd
              go_wp2
              refine bodyPost_ret (v := .agg #[.int .i64 d, .int .i64 t]) (by simp [results, Try.results102, go_sem, r0, r1]) rfl ⟨by rw [Hfin.out]; simp [hd], ?_⟩
              exact (Hbase.out.setCell (p := ⟨w.heap.size, 0, none⟩) (Nat.le_refl _) _).setCell (p := ⟨w.heap.size, 1, none⟩) (Nat.le_refl _) _
        · have : k = s.length := by omega
          subst this
          have hfin := Heq.out (ref2K b0 s s.length) (by unfold ref2K; rw [List.take_length])
          generalize ref2K b0 s s.length = t at *
          have hbase : Below w.heap.size w wr := (((Below.refl _ _).alloc (Nat.le_refl _) _).trans (Hb1.out.mono (by simp))).trans (hb.mono (by omega))
          have Hfin := Lib.hid hfin
          have Hbase := Lib.hid hbase
          clear hfin hbase hb
          have hTb : w.heap.size ≤ w1.heap.size := by omega
          by_cases hd : (d == 0) = true
          · go_wp2
            refine bodyPost_ret (v := .agg #[.int .i64 t, .int .i64 t]) (by simp [results, Try.results102, go_sem, r0, r1]) rfl ⟨by rw [Hfin.out]; simp [hd], ?_⟩
            exact ((Hbase.out.setCell (p := ⟨w1.heap.size, 0, none⟩) hTb _).setCell (p := ⟨w.heap.size, 0, none⟩) (Nat.le_refl _) _).setCell (p := ⟨w.heap.size, 1, none⟩) (Nat.le_refl _) _
          · have hd := Bool.eq_false_iff.2 hd
            go_wp2
            refine bodyPost_ret (v := .agg #[.int .i64 d, .int .i64 t]) (by simp [results, Try.results102, go_sem, r0, r1]) rfl ⟨by rw [Hfin.out]; simp [hd], ?_⟩
            exact (Hbase.out.setCell (p := ⟨w.heap.size, 0, none⟩) (Nat.le_refl _) _).setCell (p := ⟨w.heap.size, 1, none⟩) (Nat.le_refl _) _
theorem refGo_n (n : Nat) (A : Option Addr) (cap : Nat) (l : List Cand) (w : World) (B : Nat) (hl : CandsAt w B A l) (hB : B ≤ w.heap.size) (hn : l.length ≤ 2 ^ 40) (hnl : n = l.length) :
    Calls Try.prog 102 #[.slice A n cap] w fun e w' => e = .returned (.agg #[.int .i64 (refGo l).1, .int .i64 (refGo l).2]) ∧ Below w.heap.size w w' := by
  subst hnl; exact refGo_any A cap l w B hl hB hn

end Go.Proofs.Ytfhikkmgclkcdaa
