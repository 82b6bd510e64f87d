/-
  order.Newer.
-/
import Derived.Test.YtmjjmkdjjfmhhaaFlOrd
namespace Go.Proofs.Ytmjjmkdjjfmhhaa
open Go.RowKit Go.Sort

def newerI (a b : Hd) : Int := orL [cmpI a.seq b.seq, cmpI a.sum b.sum, cmpI (goneI a.age) (goneI b.age), youngI a.age b.age]
def Hd.val (h : Hd) : Value := .agg #[.int .i64 h.age, .int .i64 h.kind, .int .i64 h.id, .int .i64 h.adv, .int .i64 h.seq, .int .i64 h.sum, .int .i64 h.long]

theorem lit4 (w : World) (x0 x1 x2 x3 : Int) (t : TypeId) : ∀ k, (hk : k < [x0, x1, x2, x3].length) → (w.alloc (.cells #[.int .i64 x0, .int .i64 x1, .int .i64 x2, .int .i64 x3] t)).cell? ⟨w.heap.size, k, none⟩ = some (.int .i64 [x0, x1, x2, x3][k]) := by
  intro k hk
  rw [(Blk.new w t _).cell k]
  match k, hk with
  | 0, _ => rfl
  | 1, _ => rfl
  | 2, _ => rfl
  | 3, _ => rfl

set_option maxHeartbeats 4000000 in
set_option maxRecDepth 100000 in
theorem newer_any (a1 a2 a3 a4 a5 a6 a7 b1 b2 b3 b4 b5 b6 b7 : Int) (w : World) (ha : 0 ≤ a1) (ha' : a1 ≤ 60) (hb : 0 ≤ b1) (hb' : b1 ≤ 60) {x : Int} (hx : newerI ⟨a1, a2, a3, a4, a5, a6, a7⟩ ⟨b1, b2, b3, b4, b5, b6, b7⟩ = x) :
    Calls Try.prog 22 #[.agg #[.int .i64 a1, .int .i64 a2, .int .i64 a3, .int .i64 a4, .int .i64 a5, .int .i64 a6, .int .i64 a7], .agg #[.int .i64 b1, .int .i64 b2, .int .i64 b3, .int .i64 b4, .int .i64 b5, .int .i64 b6, .int .i64 b7]] w
      fun r w' => r = .returned (.int .i64 x) ∧ Below w.heap.size w w' := by
  obtain ⟨w0, hW0⟩ : ∃ w0, (w.alloc (.cells #[.int .i64 a1, .int .i64 a2, .int .i64 a3, .int .i64 a4, .int .i64 a5, .int .i64 a6, .int .i64 a7] 23)).alloc (.cells #[.int .i64 b1, .int .i64 b2, .int .i64 b3, .int .i64 b4, .int .i64 b5, .int .i64 b6, .int .i64 b7] 23) = w0 := ⟨_, rfl⟩
  have hA : Blk w0 w.heap.size 23 #[.int .i64 a1, .int .i64 a2, .int .i64 a3, .int .i64 a4, .int .i64 a5, .int .i64 a6, .int .i64 a7] := by rw [← hW0]; exact (Blk.new w _ _).alloc _
  have hB : Blk w0 (w.heap.size + 1) 23 #[.int .i64 b1, .int .i64 b2, .int .i64 b3, .int .i64 b4, .int .i64 b5, .int .i64 b6, .int .i64 b7] := by rw [← hW0]; exact Blk.size (by simp)
  have Hb0 : Hid (Below w.heap.size w w0) := Lib.hid (by rw [← hW0]; exact ((Below.refl w.heap.size w).alloc (Nat.le_refl _) _).alloc (by simp) _)
  have hOr : ∀ W : World, Calls Try.prog 66 #[.slice (some ⟨W.heap.size, 0, none⟩) 4 4] (W.alloc (.cells #[.int .i64 (cmpI a5 b5), .int .i64 (cmpI a6 b6), .int .i64 (cmpI (goneI a1) (goneI b1)), .int .i64 (youngI a1 b1)] 3)) fun r w' => r = .returned (.int .i64 x) ∧ Below (W.alloc (.cells #[.int .i64 (cmpI a5 b5), .int .i64 (cmpI a6 b6), .int .i64 (cmpI (goneI a1) (goneI b1)), .int .i64 (youngI a1 b1)] 3)).heap.size (W.alloc (.cells #[.int .i64 (cmpI a5 b5), .int .i64 (cmpI a6 b6), .int .i64 (cmpI (goneI a1) (goneI b1)), .int .i64 (youngI a1 b1)] 3)) w' :=
    fun W => or_any [cmpI a5 b5, cmpI a6 b6, cmpI (goneI a1) (goneI b1), youngI a1 b1] (by simp) W.heap.size 4 _ (lit4 _ _ _ _ _ _) (by simp) 4 (by simp) hx
  have HOr := Lib.hid hOr
  clear hOr
  obtain ⟨a_0, a_1, a_2, a_3, a_4, a_5, a_6⟩ : _ ∧ _ ∧ _ ∧ _ ∧ _ ∧ _ ∧ _ := ⟨cell_regrown (hA.cell 0), cell_regrown (hA.cell 1), cell_regrown (hA.cell 2), cell_regrown (hA.cell 3), cell_regrown (hA.cell 4), cell_regrown (hA.cell 5), cell_regrown (hA.cell 6)⟩
  obtain ⟨b_0, b_1, b_2, b_3, b_4, b_5, b_6⟩ : _ ∧ _ ∧ _ ∧ _ ∧ _ ∧ _ ∧ _ := ⟨cell_regrown (hB.cell 0), cell_regrown (hB.cell 1), cell_regrown (hB.cell 2), cell_regrown (hB.cell 3), cell_regrown (hB.cell 4), cell_regrown (hB.cell 5), cell_regrown (hB.cell 6)⟩
  have cC : ∀ p q dd os, Calls Try.prog 67 #[.int .i64 p, .int .i64 q] (grow (redrawn w0 dd) os) fun r w'' => r = .returned (.int .i64 (cmpI p q)) ∧ ∃ p : Regrown, w'' = grow (redrawn w0 p.d) p.os := fun p q dd os => Calls.regrown_of (cmp_any p q _)
  have cG : ∀ a b c d e f g dd os, Calls Try.prog 68 #[.agg #[.int .i64 a, .int .i64 b, .int .i64 c, .int .i64 d, .int .i64 e, .int .i64 f, .int .i64 g]] (grow (redrawn w0 dd) os) fun r w'' => r = .returned (.int .i64 (goneI a)) ∧ ∃ p : Regrown, w'' = grow (redrawn w0 p.d) p.os := fun a b c d e f g dd os => Calls.regrown_of (gone_any a b c d e f g _)
  have cY : ∀ dd os, Calls Try.prog 69 #[.agg #[.int .i64 a1, .int .i64 a2, .int .i64 a3, .int .i64 a4, .int .i64 a5, .int .i64 a6, .int .i64 a7], .agg #[.int .i64 b1, .int .i64 b2, .int .i64 b3, .int .i64 b4, .int .i64 b5, .int .i64 b6, .int .i64 b7]] (grow (redrawn w0 dd) os) fun r w'' => r = .returned (.int .i64 (youngI a1 b1)) ∧ ∃ p : Regrown, w'' = grow (redrawn w0 p.d) p.os := fun dd os => Calls.regrown_of (young_any _ _ _ _ _ _ _ _ _ _ _ _ _ _ _ ha ha' hb hb')
  have CC := Lib.hid cC
  have CG := Lib.hid cG
  have CY := Lib.hid cY
  clear cC cG cY hA hB hx ha ha' hb hb'
  go_enter Try.func22, Try.ntmps22
  go_wp2_with fail
  refine wp_below_tail 18 (by kernel_rfl) (by kernel_rfl) ?_
  simp only [List.take_succ_cons, List.take_zero, List.drop_succ_cons, List.drop_zero]
  repeat (go_big_quiet_step (first | exact CC.out _ _ _ _ | exact CG.out _ _ _ _ _ _ _ _ _ | exact CY.out _ _))
  refine wpQuiet_nil ?_
  rintro w3 ⟨⟨dq, osq⟩, rfl⟩
  have hb3 := below_regrown w0 dq osq
  have Hb3 := Lib.hid (Hb0.out.trans (hb3.mono Hb0.out.size))
  generalize grow (redrawn w0 dq) osq = w3 at *
  clear hb3
  go_wp2_with (go_at_call 66; (with_reducible refine Calls.mono (HOr.out _) ?_); rintro r w4 ⟨rfl, hb4⟩; have Hb4 := Lib.hid ((Hb3.out.alloc Hb3.out.size _).trans (hb4.mono (Hb3.out.alloc Hb3.out.size _).size)); clear hb4)
  go_ret
  exact ⟨rfl, Hb4.out⟩

end Go.Proofs.Ytmjjmkdjjfmhhaa
