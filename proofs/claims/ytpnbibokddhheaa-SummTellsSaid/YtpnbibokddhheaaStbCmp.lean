/-
  How the heads of a summary are compared: by their keys.
-/
import Derived.Test.YtpnbibokddhheaaSuSort
namespace Go.Proofs.Ytpnbibokddhheaa
open Go.RowKit Go.Sort

def cmpS (a b : Hd) : Int := cmpK (keyH a) (keyH b)
def ltS (a b : Hd) : Bool := lessK (keyH a) (keyH b)
theorem cmpS_lt (a b : Hd) : decide (cmpS a b < 0) = ltS a b := cmpK_less _ _
theorem ltOf_S : ltOf cmpS = ltS := by
  funext a b
  exact cmpK_less _ _
theorem swoS : SWO ltS := { irrefl := fun _ => lessK_irr _, trans := fun _ _ _ h1 h2 => lessK_trans h1 h2, ntrans := fun _ _ _ h1 h2 => lessK_ntrans h1 h2 }
theorem call_newCmp (xs : Array Value) (w : World) : (callFunc 45 xs).run Try.prog w = .ok (.enter 45 xs) w := callOf Try.func45 rfl (by kernel_rfl) xs w
set_option maxHeartbeats 400000 in
theorem keyOf_gS (h : Hd) (w : World) : Calls Try.prog 47 #[.agg #[.int .i64 h.age, .int .i64 h.kind, .int .i64 h.id, .int .i64 h.adv, .int .i64 h.seq, .int .i64 h.sum, .int .i64 h.long]] w
    fun r w' => r = .returned (.agg #[.int .i64 h.kind, .int .i64 h.id, .int .i64 h.adv]) ∧ ∃ q os', w' = grow (w.drewN q) os' := by
  obtain ⟨a, b, c, d, e, f, g⟩ := h
  go_enter Try.func47, Try.ntmps47
  go_wp2
  refine bodyPost_ret (v := .agg #[.int .i64 b, .int .i64 c, .int .i64 d]) (by simp [results, Try.results47, go_sem]) rfl ⟨rfl, 0, #[.cells #[.int .i64 a, .int .i64 b, .int .i64 c, .int .i64 d, .int .i64 e, .int .i64 f, .int .i64 g] 34, .cells #[.int .i64 b, .int .i64 c, .int .i64 d] 85], ?_⟩
  rw [alloc_eq_grow, alloc_eq_grow, grow_grow]
  rfl
set_option maxHeartbeats 2000000 in
set_option maxRecDepth 100000 in
theorem newCmp_any (a b : Hd) (w : World) : Calls Try.prog 45 #[.agg #[.int .i64 a.age, .int .i64 a.kind, .int .i64 a.id, .int .i64 a.adv, .int .i64 a.seq, .int .i64 a.sum, .int .i64 a.long], .agg #[.int .i64 b.age, .int .i64 b.kind, .int .i64 b.id, .int .i64 b.adv, .int .i64 b.seq, .int .i64 b.sum, .int .i64 b.long]] w fun r w' => r = .returned (.int .i64 (cmpS a b)) ∧ ∃ q os', w' = grow (w.drewN q) os' := by
  obtain ⟨a1, a2, a3, a4, a5, a6, a7⟩ := a
  obtain ⟨b1, b2, b3, b4, b5, b6, b7⟩ := b
  obtain ⟨w0, hW0⟩ : ∃ w0, (w.alloc (.cells #[.int .i64 a1, .int .i64 a2, .int .i64 a3, .int .i64 a4, .int .i64 a5, .int .i64 a6, .int .i64 a7] 34)).alloc (.cells #[.int .i64 b1, .int .i64 b2, .int .i64 b3, .int .i64 b4, .int .i64 b5, .int .i64 b6, .int .i64 b7] 34) = w0 := ⟨_, rfl⟩
  have hA : Blk w0 w.heap.size 34 #[.int .i64 a1, .int .i64 a2, .int .i64 a3, .int .i64 a4, .int .i64 a5, .int .i64 a6, .int .i64 a7] := by rw [← hW0]; exact (Blk.new w _ _).alloc _
  have hB : Blk w0 (w.heap.size + 1) 34 #[.int .i64 b1, .int .i64 b2, .int .i64 b3, .int .i64 b4, .int .i64 b5, .int .i64 b6, .int .i64 b7] := by rw [← hW0]; exact Blk.size (by simp)
  have Hg : Hid (∃ os, w0 = grow w os) := Lib.hid ⟨_, by rw [← hW0, alloc_eq_grow, alloc_eq_grow, grow_grow]⟩
  obtain ⟨a_0, a_1, a_2, a_3, a_4, a_5, a_6⟩ : _ ∧ _ ∧ _ ∧ _ ∧ _ ∧ _ ∧ _ := ⟨cell_gd (hA.cell 0), cell_gd (hA.cell 1), cell_gd (hA.cell 2), cell_gd (hA.cell 3), cell_gd (hA.cell 4), cell_gd (hA.cell 5), cell_gd (hA.cell 6)⟩
  obtain ⟨b_0, b_1, b_2, b_3, b_4, b_5, b_6⟩ : _ ∧ _ ∧ _ ∧ _ ∧ _ ∧ _ ∧ _ := ⟨cell_gd (hB.cell 0), cell_gd (hB.cell 1), cell_gd (hB.cell 2), cell_gd (hB.cell 3), cell_gd (hB.cell 4), cell_gd (hB.cell 5), cell_gd (hB.cell 6)⟩
  have CK := Lib.hid (fun h q os => gd_of (w := w0) (q := q) (os := os) (keyOf_gS h _))
  have CB := Lib.hid (fun x1 x2 x3 y1 y2 y3 q os => gd_of (w := w0) (q := q) (os := os) (before_g13 x1 x2 x3 y1 y2 y3 _))
  clear hA hB
  unfold cmpS cmpK keyH
  (try simp only)
  go_enter Try.func45, Try.ntmps45
  go_wp2_with fail
  refine wp_gd_tail 5 (by kernel_rfl) (by kernel_rfl) ?_
  simp only [List.take_succ_cons, List.take_zero, List.drop_succ_cons, List.drop_zero]
  repeat (go_big_quiet_step (first | exact CK.out ⟨_, _, _, _, _, _, _⟩ _ _ | exact CB.out _ _ _ _ _ _ _ _))
  refine wpQuiet_nil ?_
  rintro w3 ⟨⟨dq, osq⟩, rfl⟩
  go_wp2
  go_ret
  obtain ⟨os, hos⟩ := Hg.out
  refine ⟨rfl, dq, os ++ osq, ?_⟩
  subst hos
  simp [grow, World.drewN, Array.append_assoc]

end Go.Proofs.Ytpnbibokddhheaa
