/-
  Layer 16: how a list's keys are compared.
-/
import Derived.Test.YtfhikkmgclkcdaaCmpTail
import Derived.Test.YtfhikkmgclkcdaaRxKeys
namespace Go.Proofs.Ytfhikkmgclkcdaa
open Go.RowKit Go.Sort

def cmpK (a b : K3) : Int := cmp3 a.kind a.id a.adv b.kind b.id b.adv
set_option maxHeartbeats 2000000 in
set_option maxRecDepth 100000 in
theorem listCmp_any (a b : K3) (w : World) : Calls Try.prog 127 #[a.enc, b.enc] w fun r w' => r = .returned (.int .i64 (cmpK a b)) ∧ ∃ q os', w' = grow (w.drewN q) os' := by
  obtain ⟨a1, a2, a3⟩ := a
  obtain ⟨b1, b2, b3⟩ := b
  obtain ⟨w0, hW0⟩ : ∃ w0, (w.alloc (.cells #[.int .i64 a1, .int .i64 a2, .int .i64 a3] 61)).alloc (.cells #[.int .i64 b1, .int .i64 b2, .int .i64 b3] 61) = w0 := ⟨_, rfl⟩
  have hA : Blk w0 w.heap.size 61 #[.int .i64 a1, .int .i64 a2, .int .i64 a3] := by rw [← hW0]; exact (Blk.new w _ _).alloc _
  have hB : Blk w0 (w.heap.size + 1) 61 #[.int .i64 b1, .int .i64 b2, .int .i64 b3] := by
    rw [← hW0]
    have := Blk.new (w.alloc (.cells #[.int .i64 a1, .int .i64 a2, .int .i64 a3] 61)) 61 #[.int .i64 b1, .int .i64 b2, .int .i64 b3]
    simpa using this
  have Hg : Hid (∃ os, w0 = grow w os) := Lib.hid ⟨_, by rw [← hW0, alloc_eq_grow, alloc_eq_grow, grow_grow]⟩
  obtain ⟨a_0, a_1, a_2⟩ : _ ∧ _ ∧ _ := ⟨hA.cell 0, hA.cell 1, hA.cell 2⟩
  obtain ⟨b_0, b_1, b_2⟩ : _ ∧ _ ∧ _ := ⟨hB.cell 0, hB.cell 1, hB.cell 2⟩
  simp only [List.getElem?_toArray, List.getElem?_cons_zero, List.getElem?_cons_succ] at a_0 a_1 a_2 b_0 b_1 b_2
  clear hA hB
  unfold cmpK K3.enc
  go_enter Try.func127, Try.ntmps127
  go_wp2_with fail
  refine wp_drew_tail 15 (by kernel_rfl) (by kernel_rfl) ?_
  simp only [List.take_succ_cons, List.take_zero, List.drop_succ_cons, List.drop_zero]
  repeat (go_big_quiet_step (exact cmp_q _ _ _ _))
  refine wpQuiet_nil ?_
  rintro w3 ⟨dq, rfl⟩
  go_wp2_with (go_at_call 78; (with_reducible refine Calls.mono (or3_s _ _ _ _) ?_); rintro r w4 ⟨rfl, rfl⟩)
  go_ret
  obtain ⟨os, hos⟩ := Hg.out
  refine ⟨rfl, dq, os.push (.cells #[.int .i64 (cmpI a1 b1), .int .i64 (cmpI a2 b2), .int .i64 (cmpI a3 b3)] 3), ?_⟩
  subst hos
  simp [grow, World.alloc, World.drewN]

end Go.Proofs.Ytfhikkmgclkcdaa
