/-
  Layer 21: the example: its walk.
-/
import Derived.Test.YtpfjgecdlilkcaaSpTreeW
import Derived.Test.YtpfjgecdlilkcaaSpFind
import Derived.Test.YtpfjgecdlilkcaaSpWakeP
import Derived.Lib.SliceRun
namespace Go.Proofs.Ytpfjgecdlilkcaa
open Go.RowKit

theorem NodesAt.reads {w w' : World} {B : Nat} {A : Option Addr} {n c : Nat} {N : List NodeM} (h : NodesAt w B (.slice A n c) N) (hb : Below w.heap.size w w') (hl : ∀ x ∈ N, x.next.length ≤ 2 ^ 16) : NodesIn w' w'.heap.size A N :=
  ⟨(OwnR.rows (C := 5) (cells := NodeM.cells) (fun _ => rfl) (h.row.below hb)).2, fun x hx => (OwnR.rows (C := 2) (cells := Hp.cells) (fun _ => rfl) ((h.each x hx).below hb)).2, hl⟩
set_option maxHeartbeats 8000000 in
set_option maxRecDepth 100000 in
theorem wakes21 (w : World) : Calls Try.prog 26 #[] w fun r w' => r = .returned (.bool true) ∧ Below w.heap.size w w' := by
  obtain ⟨DD, hD⟩ := dists_are exE
  obtain ⟨w1, hw1⟩ : ∃ w1, (w.alloc (.cells #[.int .i64 1, .int .i64 2] 40)).alloc (.cells #[.int .i64 2, .int .i64 17] 40) = w1 := ⟨_, rfl⟩
  have hb1 : Below w.heap.size w w1 := by rw [← hw1]; exact ((Below.refl _ _).alloc (Nat.le_refl _) _).alloc (by simp) _
  have hk1 : Blk w1 w.heap.size 40 #[.int .i64 1, .int .i64 2] := by rw [← hw1]; exact (Blk.new w _ _).alloc _
  have hk12 : Blk w1 (w.heap.size + 1) 40 #[.int .i64 2, .int .i64 17] := by rw [← hw1]; exact Blk.size (by simp)
  have hs1 : w1.heap.size = w.heap.size + 1 + 1 := by rw [← hw1]; simp
  obtain ⟨w2, hw2⟩ : ∃ w2, w1.alloc (.cells #[.int .i64 1, .int .i64 1, .int .i64 2, .int .i64 17, .int .i64 3, .int .i64 2, .int .i64 17, .int .i64 1, .int .i64 2, .int .i64 0] 42) = w2 := ⟨_, rfl⟩
  have hb2 := below_new w1 (.cells #[.int .i64 1, .int .i64 1, .int .i64 2, .int .i64 17, .int .i64 3, .int .i64 2, .int .i64 17, .int .i64 1, .int .i64 2, .int .i64 0] 42)
  have hk2 := Blk.new w1 42 #[.int .i64 1, .int .i64 1, .int .i64 2, .int .i64 17, .int .i64 3, .int .i64 2, .int .i64 17, .int .i64 1, .int .i64 2, .int .i64 0]
  rw [hw2] at hb2 hk2
  rw [hs1] at hk2
  have hlt2 := hk2.lt
  have HT := Lib.hid (Tree_any 1 (some ⟨w.heap.size + 1 + 1, 0, none⟩) 2 exE w2 (rowsE_of_blk (L := exE) hk2 hlt2) (by decide) 2 rfl DD hD)
  have Hb2 := Lib.hid (below_trans hb1 hb1.size hb2)
  have Hk2 := Lib.hid (hk1.below hb2 hk1.lt)
  have HD := Lib.hid hD
  obtain ⟨a0, a1, -, -⟩ := hk1.cells2
  obtain ⟨a2, a3, -, -⟩ := hk12.cells2
  clear hk12 hD hb1 hk1 hb2 hk2 hlt2
  go_enter Try.func26, Try.ntmps26
  go_wp2_with fail
  clear a0 a1 a2 a3 hs1 hw1 hw2
  with_reducible refine Calls.mono HT.out ?_
  rintro r w3 ⟨⟨v, N, rfl, hN, hT⟩, hb3⟩
  have hNL : N.map NodeM.nk = exL := ex_is HD.out (hT.1 (by decide))
  have hl : N.length = 3 := by
    have := congrArg List.length hNL
    rw [List.length_map] at this
    exact this
  have hlow : ∀ x ∈ N, x.next.length ≤ 2 ^ 16 := by
    intro x hx
    have h1 : x.nk ∈ exL := by rw [← hNL]; exact List.mem_map.2 ⟨x, hx, rfl⟩
    have h2 : x.next = x.nk.next := rfl
    rw [h2]
    simp only [exL, List.mem_cons, List.not_mem_nil, or_false] at h1
    rcases h1 with h1 | h1 | h1 <;> rw [h1] <;> decide
  obtain ⟨A5, c5, hv⟩ := hN.row.shape
  subst hv
  rw [hl] at hN ⊢
  have HF := Lib.hid (Find_any 1 2 A5 c5 3 N w3 (hN.reads (Below.refl _ _) hlow) (by omega) hl.symm)
  have hfd : findN N ⟨1, 2⟩ = some ⟨⟨1, 2⟩, ⟨3, 1⟩, [⟨1, 2⟩]⟩ := by unfold findN; rw [hNL]; rfl
  have Hfd := Lib.hid hfd
  have Hb3 := Lib.hid (below_trans Hb2.out Hb2.out.size hb3)
  have hk3 := Hk2.out.below hb3 Hk2.out.lt
  obtain ⟨a0, a1, -, -⟩ := hk3.cells2
  clear hN hT hb3 hNL hl hlow hfd hk3 HT
  go_wp2_with fail
  clear a0 a1
  with_reducible refine Calls.mono HF.out ?_
  rintro r w4 ⟨hfo, hb4⟩
  have Hb4 := Lib.hid (below_trans Hb3.out Hb3.out.size hb4)
  rcases hfo with ⟨x, A6, c6, hx, rfl, ho⟩ | ⟨hx, -⟩
  · rw [Hfd.out] at hx
    injection hx with hx
    subst hx
    have ho2 : OwnH w4 w3.heap.size (.slice A6 1 c6) [⟨1, 2⟩] := ho
    obtain ⟨g, o, hA, -, x0, x1⟩ := row_hp (OwnR.rows (C := 2) (cells := Hp.cells) (fun _ => rfl) ho2).2 0 (by decide)
    subst hA
    simp only [List.getElem_cons_zero, Nat.zero_mul, Nat.add_zero] at x0 x1
    have heq := fun w => eqHpN 1 2 1 2 w
    rw [decide_eq_true rfl] at heq
    have y0 := fun ob => Lib.cell?_alloc_some ob x0
    have y1 := fun ob => Lib.cell?_alloc_some ob x1
    clear ho ho2 hb4 x0 x1
    go_wp2
    go_ret
    exact ⟨rfl, below_trans Hb4.out Hb4.out.size (below_new _ _)⟩
  · rw [Hfd.out] at hx
    cases hx

end Go.Proofs.Ytpfjgecdlilkcaa
