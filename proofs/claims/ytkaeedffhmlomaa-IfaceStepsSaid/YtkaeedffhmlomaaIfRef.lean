/-
  The walk of the reference's vote and step (layer 10).
-/
import Derived.Test.YtkaeedffhmlomaaIfC
import Derived.Test.YtkaeedffhmlomaaRefElect
namespace Go.Proofs.Ytkaeedffhmlomaa
open Go.RowKit

theorem refElect_vn {self : Int} {n : Nat} {A : Option Addr} {cap : Nat} {l : List Cand} {w : World} {B : Nat} (hl : CandsAt w B A l) (hB : B ≤ w.heap.size) (hn : l.length ≤ 2 ^ 40) (hnl : n = l.length) {x y : Int} (hx : refElect self l = (x, y)) :
    Calls Try.prog 20 #[.int .i64 self, .slice A n cap] w fun e w' => e = .returned (.agg #[.int .i64 x, .int .i64 y]) ∧ Below w.heap.size w w' := by
  subst hnl
  have := refElect_any self A cap l w B hl hB hn; rw [hx] at this; exact this
def refSt (self dr bdr : Int) : Int := if (dr == self) = true then 4 else if (bdr == self) = true then 3 else 2
theorem refSt_cases (s d b : Int) : ((d == s) = true ∧ (b == s) = true ∧ refSt s d b = 4) ∨ ((d == s) = true ∧ (b == s) = false ∧ refSt s d b = 4) ∨ ((d == s) = false ∧ (b == s) = true ∧ refSt s d b = 3) ∨ ((d == s) = false ∧ (b == s) = false ∧ refSt s d b = 2) := by
  unfold refSt
  cases d == s <;> cases b == s <;> simp

theorem voteR1 {w w1 : World} {v1 : Value} {l : List Cand} {xs ys : Array Value}
    (hown : w1.ownsRow (w.heap.size + 2) 33 4 v1 (0 + l.length) ([] ++ l.flatMap Cand.cells)) (hg : ((w.alloc (.cells xs 41)).alloc (.cells ys 41)).grownBy w1 (Value.slice none 0 0).ownBlock) :
    OwnC w1 (w.heap.size + 2) v1 l ∧ Blk w1 w.heap.size 41 xs ∧ Blk w1 (w.heap.size + 1) 41 ys ∧ Below w.heap.size w w1 ∧ w.heap.size + 2 ≤ w1.heap.size := by
  refine ⟨by simpa [OwnC] using hown, ((Blk.new w _ xs).alloc _).grown hg (by simp [Value.ownBlock]), ?_, ?_, by simpa using hg.size⟩
  · have h1 : Blk ((w.alloc (.cells xs 41)).alloc (.cells ys 41)) (w.heap.size + 1) 41 ys := Blk.size (by simp)
    exact h1.grown hg (by simp [Value.ownBlock])
  · exact (((Below.refl _ _).alloc (Nat.le_refl _) _).alloc (by simp) _).grown hg (by simp; omega) (fun k hk => by simp [Value.ownBlock] at hk)
theorem voteR2 {w w1 w2 : World} {A1 : Option Addr} {n1 cap1 : Nat} {v2 : Value} {l : List Cand} {c : Cand} {xs ys : Array Value} (hown1 : OwnC w1 (w.heap.size + 2) (.slice A1 n1 cap1) l)
    (h0 : Blk w1 w.heap.size 41 xs) (h1 : Blk w1 (w.heap.size + 1) 41 ys) (hb : Below w.heap.size w w1)
    (hown : w2.ownsRow (w.heap.size + 2) 33 4 v2 (l.length + 1) (l.flatMap Cand.cells ++ [.int .i64 c.id, .int .i64 c.prio, .int .i64 c.dr, .int .i64 c.bdr])) {o : Obj} (hg : (w1.alloc o).grownBy w2 (Value.slice A1 n1 cap1).ownBlock) :
    ∃ A2 cap2, v2 = .slice A2 (l.length + 1) cap2 ∧ CandsAt w2 w2.heap.size A2 (l ++ [c]) ∧ Blk w2 w.heap.size 41 xs ∧ Blk w2 (w.heap.size + 1) 41 ys ∧ Below w.heap.size w w2 := by
  have hO : OwnC w2 (w.heap.size + 2) v2 (l ++ [c]) := by
    unfold OwnC; simpa [Cand.cells] using hown
  obtain ⟨A2, cap2, rfl, hat⟩ := hO.shape
  have hk : ∀ k, (Value.slice A1 n1 cap1).ownBlock = some k → w.heap.size + 2 ≤ k := fun k hk => (World.ownsRow.lt hown1 k hk).1
  refine ⟨A2, cap2, by simp, hat, (h0.alloc o).grown hg (fun e => by have := hk _ e.symm; omega), (h1.alloc o).grown hg (fun e => by have := hk _ e.symm; omega), (hb.alloc hb.size o).grown hg (by have := hb.size; simp; omega) (fun k e => by have := hk _ e; omega)⟩
theorem lit_reads (w : World) (a b c d : Int) (t : TypeId) : Reads (w.alloc (.cells #[.int .i64 a, .int .i64 b, .int .i64 c, .int .i64 d] t)) (w.heap.size + 1) 4 (some ⟨w.heap.size, 0, none⟩) 1 [.int .i64 a, .int .i64 b, .int .i64 c, .int .i64 d] :=
  ⟨rfl, fun _ => ⟨w.heap.size, 0, rfl, Nat.lt_succ_self _, fun j u hu => by
    have := news4 w (.int .i64 a) (.int .i64 b) (.int .i64 c) (.int .i64 d) t w.heap.size rfl j u hu
    rwa [show (⟨w.heap.size, 0, none⟩ : Addr).add j = ⟨w.heap.size, 0 + j, none⟩ by unfold Addr.add; split <;> simp_all] at this⟩⟩

theorem voteR3 {w w2 w3 : World} {a b c d e x y st : Value} {ys : Array Value} {t : TypeId} {n : Nat} (h0 : Blk w2 n t #[a, b, c, d, e])
    (h1 : Blk w2 (n + 1) t ys) (hb : Below n w w2) (h3 : Below w2.heap.size w2 w3) :
    ∃ gt w4 w5, w3.heap.size = gt ∧ w3.alloc (.cells #[x, y] 28) = w4 ∧ ((w4.setCell ⟨n, 3, none⟩ x).setCell ⟨n, 4, none⟩ y).setCell ⟨n, 2, none⟩ st = w5 ∧
      ¬gt = n ∧ ¬n = gt ∧ Blk w4 n t #[a, b, c, d, e] ∧ Blk w4 gt 28 #[x, y] ∧ Blk w5 n t #[a, b, st, x, y] ∧ Blk w5 (n + 1) t ys ∧ Blk w5 gt 28 #[x, y] ∧ Below n w w5 := by
  have l0 := h0.lt
  have hs := h3.size
  have k0 : Blk (w3.alloc (.cells #[x, y] 28)) n t #[a, b, c, d, e] := (h0.below h3 h0.lt).alloc _
  have k1 : Blk (w3.alloc (.cells #[x, y] 28)) (n + 1) t ys := (h1.below h3 h1.lt).alloc _
  have kt : Blk (w3.alloc (.cells #[x, y] 28)) w3.heap.size 28 #[x, y] := Blk.new _ _ _
  have hb4 : Below n w (w3.alloc (.cells #[x, y] 28)) := (hb.trans (h3.mono (Nat.le_of_lt l0))).alloc (by omega) _
  refine ⟨_, _, _, rfl, rfl, rfl, by omega, by omega, k0, kt, (set3_row k0).1, ?_, ?_, ?_⟩
  · exact ((k1.far (by simp) _).far (by simp) _).far (by simp) _
  · exact ((kt.far (by simp; omega) _).far (by simp; omega) _).far (by simp; omega) _
  · exact ((hb4.setCell (by simp) _).setCell (by simp) _).setCell (by simp) _

set_option maxHeartbeats 4000000 in
set_option maxRecDepth 100000 in
theorem refVote_any (a b c d e : Int) (A : Option Addr) (cap : Nat) (l : List Cand) (w : World) (B : Nat) (hl : CandsAt w B A l) (hB : B ≤ w.heap.size) (hn : l.length ≤ 2 ^ 30)
    {a' b' c' d' e' : Int} (hx : refVoteI ⟨a, b, c, d, e⟩ l = ⟨a', b', c', d', e'⟩) :
    Calls Try.prog 48 #[.agg #[.int .i64 a, .int .i64 b, .int .i64 c, .int .i64 d, .int .i64 e], .slice A l.length cap] w
      fun r w' => r = .returned (.agg #[.int .i64 a', .int .i64 b', .int .i64 c', .int .i64 d', .int .i64 e']) ∧ Below w.heap.size w w' := by
  obtain ⟨i0, hi, hz0, hz1, hz2⟩ := info_parts infoC'
  rcases he : refElect a (l ++ [⟨a, b, d, e⟩]) with ⟨dr, bdr⟩
  have hv : refVoteI ⟨a, b, c, d, e⟩ l = ⟨a, b, refSt a dr bdr, dr, bdr⟩ := by
    unfold refVoteI Ifc.own; simp only [he]; rfl
  rw [hv] at hx
  have hst := refSt_cases a dr bdr
  generalize refSt a dr bdr = st at *
  simp only [Ifc.mk.injEq] at hx
  obtain ⟨e1, e2, e3, e4, e5⟩ := hx
  subst e1; subst e2; subst e3; subst e4; subst e5
  have hb0 : ∀ o p, Below w.heap.size w ((w.alloc o).alloc p) := fun o p => (((Below.refl _ _).alloc (Nat.le_refl _) o).alloc (by simp) p)
  have Hb0 := Lib.hid hb0
  have HL0 : Hid (∀ o p, Reads ((w.alloc o).alloc p) B 4 A l.length (l.flatMap Cand.cells)) := Lib.hid fun o p => Reads.below hl ((hb0 o p).mono hB)
  have He := Lib.hid he
  have hlen : (l ++ [(⟨a, b, d, e⟩ : Cand)]).length ≤ 2 ^ 40 := by simp; omega
  have Hlen := Lib.hid hlen
  have Hst := Lib.hid hst
  clear hl he hb0 hlen hst hv
  rcases Hst.out with ⟨t1, t2, t3⟩ | ⟨t1, t2, t3⟩ | ⟨t1, t2, t3⟩ | ⟨t1, t2, t3⟩
  all_goals subst t3
  all_goals
    go_enter Try.func48, Try.ntmps48
    go_wp2_with (first
      | (go_at_call 20; (with_reducible refine Calls.mono (refElect_vn HAt.out (Nat.le_refl _) Hlen.out (by simp) He.out) ?_); rintro r w3 ⟨rfl, hb3⟩;
          obtain ⟨gt, w4, w5, hgt, hW4, hW5, n0, n1, h0, ht, k0, k1, kt, hb5⟩ := voteR3 (st := .int .i64 2) (x := .int .i64 dr) (y := .int .i64 bdr) HG0.out HG1.out Hb2.out hb3;
          have H1 := Lib.hid k1; have HB5 := Lib.hid hb5; obtain ⟨c0, c1, c2, c3, c4, f0, f1, f2, f3, f4⟩ := Blk.cells5 h0; obtain ⟨d0, d1, d2, d3, d4, g0, g1, g2, g3, g4⟩ := Blk.cells5 k0; obtain ⟨o0, o1, o2, o3, o4, r0, r1, r2, r3, r4⟩ := Blk.cells5 k1; obtain ⟨t0, t0', _⟩ := Blk.cells2 ht; obtain ⟨s0, s0', _⟩ := Blk.cells2 kt; clear hb3 h0 hb5 ht k0 k1 kt x0 x1 x2 x3 x4)
      | (at_builtin; refine wpList_append_any _ rfl _ _ _ rfl (w.heap.size + 2) 33 i0 _ 4 32 Try.underlying22 hi hz0 hz1 hz2 rfl (by decide) _ _ _ rfl (Hown1.out.alloc _) (w1.heap.size + 1) (some ⟨w1.heap.size, 0, none⟩) 1 1 [.int .i64 a, .int .i64 b, .int .i64 d, .int .i64 e] rfl (lit_reads _ _ _ _ _ _) (ones4 a b d e) (by unfold maxLen; omega) (by omega) (by have := Hsz1.out; simp; omega) ?_; intro v2 w2 hown2 hg2 _; obtain ⟨A2, cap2, rfl, hAt, hG0, hG1, hB2⟩ := voteR2 (c := ⟨a, b, d, e⟩) Hown1.out HG0.out HG1.out Hb1.out hown2 hg2; obtain ⟨x0, x1, x2, x3, x4, _⟩ := Blk.cells5 hG0; have HAt := Lib.hid hAt; have HG0 := Lib.hid hG0; have HG1 := Lib.hid hG1; have Hb2 := Lib.hid hB2; clear hAt hG0 hG1 hB2 hown2 hg2)
      | (at_builtin; refine wpList_append_any _ rfl _ _ _ rfl (w.heap.size + 2) 33 i0 _ 4 32 Try.underlying22 hi hz0 hz1 hz2 rfl (by decide) _ 0 [] rfl ⟨rfl, .inl ⟨rfl, rfl⟩⟩ B A l.length cap (l.flatMap Cand.cells) rfl (HL0.out _ _) (cells_one l) (by unfold maxLen; omega) (by omega) (by simp) ?_; intro v1 w1 hown1 hg1 _; obtain ⟨hO1, hG0, hG1, hB1, hs1⟩ := voteR1 hown1 hg1; obtain ⟨A1, cap1, rfl, _⟩ := hO1.shape; obtain ⟨x0, x1, x2, x3, x4, _⟩ := Blk.cells5 (hG0.alloc (.cells #[.int .i64 a, .int .i64 b, .int .i64 d, .int .i64 e] 33)); obtain ⟨y0, y1, y2, y3, y4, _⟩ := Blk.cells5 hG0; have Hown1 := Lib.hid hO1; have HG0 := Lib.hid hG0; have HG1 := Lib.hid hG1; have Hb1 := Lib.hid hB1; have Hsz1 := Lib.hid hs1; clear hO1 hG0 hG1 hB1 hs1 hown1 hg1))
    refine bodyPost_ret (v := .agg #[.int .i64 a, .int .i64 b, .int .i64 _, .int .i64 dr, .int .i64 bdr]) (by simp [results, Try.results48, go_sem, o0, o1, o2, o3, o4]) rfl ⟨rfl, ?_⟩
    repeat (refine Below.setCell ?_ (by simp) _)
    exact HB5.out

end Go.Proofs.Ytkaeedffhmlomaa
