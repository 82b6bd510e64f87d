/-
  Layer 15: what is wanted, in memory.
-/
import Derived.Test.YtannngcdphafdaaWaPlain
import Derived.Test.YtannngcdphafdaaStClear
import Derived.Test.YtannngcdphafdaaGrown
namespace Go.Proofs.Ytannngcdphafdaa
open Go.RowKit

structure WaAt (w : World) (p b : Nat) (M : List Hd) : Prop where
  ptr : Blk w p 121 #[.map (some b)]
  map : MapAt K3.enc w b (waL M)
section
variable {w w' : World} {p b : Nat} {M M' : List Hd}
theorem WaAt.below {B : Nat} (h : WaAt w p b M) (hb : Below B w w') (h1 : p < B) (h2 : b < B) : WaAt w' p b M := ⟨h.ptr.below hb h1, h.map.below hb h2⟩
theorem WaAt.keep (h : WaAt w p b M) (hb : Below w.heap.size w w') : WaAt w' p b M := h.below hb h.ptr.lt h.map.lt
theorem WaAt.drewN (h : WaAt w p b M) (n : Nat) : WaAt (w.drewN n) p b M := ⟨h.ptr, h.map⟩
theorem WaAt.alloc (h : WaAt w p b M) (o : Obj) : WaAt (w.alloc o) p b M := ⟨h.ptr.alloc o, h.map.alloc o⟩
theorem WaAt.keys (h : WaAt w p b M) : (M.map keyH).Nodup := by
  have := h.map.nodup
  rwa [fst_wa] at this
theorem WaAt.ne (h : WaAt w p b M) : p ≠ b := by
  intro e
  obtain ⟨es, clock, hb, -⟩ := h.map
  have hp := h.ptr
  unfold Blk at hp
  rw [e, hb] at hp
  cases hp
theorem WaAt.turned (h : WaAt w p b M) (hg : w.grownBy w' (some b)) (hm : MapAt K3.enc w' b (waL M')) : WaAt w' p b M' := ⟨h.ptr.grown hg (fun e => h.ne (by injection e)), hm⟩
end
set_option maxHeartbeats 1000000 in
theorem New15 (w : World) : Calls Try.prog 42 #[] w fun r w' => r = .returned (.pointer (some ⟨w.heap.size + 1, 0, none⟩)) ∧ WaAt w' (w.heap.size + 1) w.heap.size [] ∧ Below w.heap.size w w' := by
  have hmm := @run_makeMap Try.prog
  go_enter Try.func42, Try.ntmps42
  go_wp2
  go_ret
  refine ⟨rfl, ⟨Blk.size (by simp), (MapAt.new w).alloc _⟩, ((Below.refl _ _).alloc (Nat.le_refl _) _).alloc (by simp) _⟩
set_option maxHeartbeats 1000000 in
theorem WaLen (p b : Nat) (M : List Hd) (w : World) (h : WaAt w p b M) : Calls Try.prog 40 #[.pointer (some ⟨p, 0, none⟩)] w fun r w' => r = .returned (.int .i64 M.length) ∧ w' = w := by
  have hcell := h.ptr.cell 0
  simp only [List.getElem?_toArray, List.getElem?_cons_zero] at hcell
  have HM := Lib.hid h.map
  have hL : (waL M).length = M.length := by simp [waL]
  have hl := fun t => h.map.len_run (P := Try.prog) Try.underlying119 t
  rw [hL] at hl
  clear h hL
  go_enter Try.func40, Try.ntmps40
  go_wp2
  go_ret
  exact ⟨rfl, rfl⟩
set_option maxHeartbeats 1000000 in
theorem WaLen_nil (w : World) : Calls Try.prog 40 #[.pointer none] w fun r w' => r = .returned (.int .i64 0) ∧ w' = w := by
  go_enter Try.func40, Try.ntmps40
  go_wp2
  go_ret
  exact ⟨rfl, rfl⟩
set_option maxHeartbeats 1000000 in
theorem WaClear (p b : Nat) (M : List Hd) (w : World) (h : WaAt w p b M) : Calls Try.prog 39 #[.pointer (some ⟨p, 0, none⟩)] w fun r w' => r = .returned (.int .i64 M.length) ∧ WaAt w' p b [] ∧ w.grownBy w' (some b) := by
  have hcell := h.ptr.cell 0
  simp only [List.getElem?_toArray, List.getElem?_cons_zero] at hcell
  have H := Lib.hid h
  clear h
  go_enter Try.func39, Try.ntmps39
  go_wp2_with (first
    | (go_at_call 40; (with_reducible refine Calls.mono (WaLen _ _ _ _ H.out) ?_); rintro r w2 ⟨rfl, rfl⟩)
    | (refine wpList_clear_st (by rfl) _ 119 63 (by rfl) 58 Try.underlying119 (by rfl) H.out.map ?_; intro w4 hm4 hg4 hs4; have Hm4 := Lib.hid hm4; have Hg4 := Lib.hid hg4; clear hm4 hg4 hs4))
  go_ret
  exact ⟨rfl, H.out.turned Hg4.out Hm4.out, Hg4.out⟩
set_option maxHeartbeats 1000000 in
theorem WaClear_nil (w : World) : Calls Try.prog 39 #[.pointer none] w fun r w' => r = .returned (.int .i64 0) ∧ w' = w := by
  go_enter Try.func39, Try.ntmps39
  go_wp2_with (go_at_call 40; (with_reducible refine Calls.mono (WaLen_nil _) ?_); rintro r w2 ⟨rfl, rfl⟩)
  go_ret
  exact ⟨rfl, rfl⟩

end Go.Proofs.Ytannngcdphafdaa
