/-
  Layer 16: what is put on lists, and whether it is on one.
-/
import Derived.Test.YtfhikkmgclkcdaaRxList
namespace Go.Proofs.Ytfhikkmgclkcdaa
open Go.RowKit

def onB16 (R : List E5) (e : E5) : Bool := decide (e ∈ R)
theorem getL_rx (R : List E5) (e : E5) : getL e (rxL R) = if e ∈ R then some (.int .i64 1) else none := by
  induction R with
  | nil => simp [rxL, getL]
  | cons x R ih =>
    simp only [rxL, List.map_cons, getL] at ih ⊢
    by_cases h : x = e
    · simp [h]
    · rw [if_neg h, ih]
      simp [Ne.symm h]
def addR (R : List E5) (e : E5) : List E5 := if e ∈ R then R else R ++ [e]
theorem setL_rx (R : List E5) (e : E5) : setL e (.int .i64 1) (rxL R) = rxL (addR R e) := by
  induction R with
  | nil => simp [rxL, setL, addR]
  | cons x R ih =>
    simp only [rxL, List.map_cons, setL] at ih ⊢
    by_cases h : x = e
    · subst h
      simp [addR]
    · rw [if_neg h, ih]
      unfold addR
      by_cases h2 : e ∈ R
      · simp [h2]
      · simp [h2, Ne.symm h]
theorem dropL_rx (R : List E5) (e : E5) : dropL e (rxL R) = rxL (R.filter fun x => decide (x ≠ e)) := by
  unfold dropL rxL
  rw [List.filter_map]
  rfl
theorem zeroI (w : World) : (zeroValue 3).run Try.prog w = .ok (.int .i64 0) w := by kernel_rfl

theorem on_cases (R : List E5) (e : E5) : (onB16 R e = true ∧ ((getL e (rxL R)).getD (.int .i64 0)) = .int .i64 1) ∨ (onB16 R e = false ∧ ((getL e (rxL R)).getD (.int .i64 0)) = .int .i64 0) := by
  unfold onB16
  rw [getL_rx]
  by_cases h : e ∈ R <;> simp [h]
set_option maxHeartbeats 1000000 in
set_option maxRecDepth 100000 in
theorem On_any (p b : Nat) (R : List E5) (lan id k1 k2 k3 : Int) (w : World) (hR : RxAt w p b R) :
    Calls Try.prog 48 #[.pointer (some ⟨p, 0, none⟩), .int .i64 lan, .int .i64 id, .agg #[.int .i64 k1, .int .i64 k2, .int .i64 k3]] w fun r w' => r = .returned (.bool (onB16 R ⟨lan, id, ⟨k1, k2, k3⟩⟩)) ∧ Below w.heap.size w w' := by
  obtain ⟨w0, hW0⟩ : ∃ w0, w.alloc (.cells #[.int .i64 k1, .int .i64 k2, .int .i64 k3] 61) = w0 := ⟨_, rfl⟩
  have hk : Blk w0 w.heap.size 61 #[.int .i64 k1, .int .i64 k2, .int .i64 k3] := by rw [← hW0]; exact Blk.new w _ _
  have hp : Blk w0 p 162 #[.map (some b)] := by rw [← hW0]; exact hR.ptr.alloc _
  have hm : MapAt E5.enc w0 b (rxL R) := by rw [← hW0]; exact hR.map.alloc _
  have Hb0 : Hid (Below w.heap.size w w0) := Lib.hid (by rw [← hW0]; exact (Below.refl w.heap.size w).alloc (Nat.le_refl _) _)
  obtain ⟨z0, z1, z2⟩ : _ ∧ _ ∧ _ := ⟨hk.cell 0, hk.cell 1, hk.cell 2⟩
  have z3 := hp.cell 0
  simp only [List.getElem?_toArray, List.getElem?_cons_zero, List.getElem?_cons_succ] at z0 z1 z2 z3
  have hl := fun n => (hm.drewN n).look_run keyE5 Try.underlying160 (zeroI _) ⟨lan, id, ⟨k1, k2, k3⟩⟩ false
  simp only [Bool.false_eq_true, if_false, E5.enc] at hl
  clear hk hp hm hR
  rcases on_cases R ⟨lan, id, ⟨k1, k2, k3⟩⟩ with ⟨e, h⟩ | ⟨e, h⟩
  all_goals
    rw [h] at hl
    rw [e]
    clear e h
    go_enter Try.func48, Try.ntmps48
    go_wp2
    go_quiet (fail)
    go_wp2
    go_ret
    exact ⟨rfl, below_drewN Hb0.out _⟩
set_option maxHeartbeats 1000000 in
set_option maxRecDepth 100000 in
theorem On_nil (lan id k1 k2 k3 : Int) (w : World) :
    Calls Try.prog 48 #[.pointer none, .int .i64 lan, .int .i64 id, .agg #[.int .i64 k1, .int .i64 k2, .int .i64 k3]] w fun r w' => r = .returned (.bool false) ∧ Below w.heap.size w w' := by
  have Hb0 := Lib.hid (fun o => (Below.refl w.heap.size w).alloc (Nat.le_refl _) o)
  go_enter Try.func48, Try.ntmps48
  go_wp2
  go_quiet (fail)
  go_wp2
  go_ret
  exact ⟨rfl, below_drewN (Hb0.out _) _⟩
set_option maxHeartbeats 1000000 in
theorem list_nil (lan id : Int) (w : World) :
    Calls Try.prog 94 #[.pointer none, .int .i64 lan, .int .i64 id] w fun r w' => r = .returned (.slice none 0 0) ∧ Below w.heap.size w w' := by
  go_enter Try.func94, Try.ntmps94
  go_wp2
  go_ret
  exact ⟨rfl, Below.refl _ _⟩
set_option maxHeartbeats 1000000 in
theorem Len_nil (lan id : Int) (w : World) :
    Calls Try.prog 47 #[.pointer none, .int .i64 lan, .int .i64 id] w fun r w' => r = .returned (.int .i64 0) ∧ Below w.heap.size w w' := by
  go_enter Try.func47, Try.ntmps47
  go_wp2_with (go_at_call 94; (with_reducible refine Calls.mono (list_nil _ _ _) ?_); rintro r w2 ⟨rfl, hb2⟩; have Hb2 := Lib.hid hb2; clear hb2)
  go_ret
  exact ⟨rfl, Hb2.out⟩
set_option maxHeartbeats 1000000 in
theorem Len_of (hS : SortsK) (p b : Nat) (R : List E5) (lan id : Int) (w : World) (hR : RxAt w p b R) (hlen : R.length ≤ 2 ^ 20) :
    Calls Try.prog 47 #[.pointer (some ⟨p, 0, none⟩), .int .i64 lan, .int .i64 id] w fun r w' => r = .returned (.int .i64 (listK R lan id).length) ∧ Below w.heap.size w w' := by
  have H := Lib.hid (list_of hS p b R lan id w hR hlen)
  clear hS hR
  go_enter Try.func47, Try.ntmps47
  go_wp2_with (go_at_call 94; (with_reducible refine Calls.mono H.out ?_); rintro r w2 ⟨v, rfl, hown, hb2⟩; obtain ⟨A, c, rfl⟩ := hown.shape; have Hb2 := Lib.hid hb2; clear hb2 hown)
  go_ret
  exact ⟨rfl, Hb2.out⟩

end Go.Proofs.Ytfhikkmgclkcdaa
