/-
  Layer 15: what is wanted, in memory.
-/
import Derived.Test.YtmjjmkdjjfmhhaaKyPlain
import Derived.Test.YtmjjmkdjjfmhhaaStMap
import Derived.Test.YtmjjmkdjjfmhhaaGrown
namespace Go.Proofs.Ytmjjmkdjjfmhhaa
open Go.RowKit

structure WaAt (w : World) (p b : Nat) (M : List Hd) : Prop where
  ptr : Blk w p 125 #[.map (some b)]
  map : MapAt K3.enc w b (waL M)
section
variable {w w' : World} {p b : Nat} {M M' : List Hd}
theorem WaAt.below {B : Nat} (h : WaAt w p b M) (hb : Below B w w') (h1 : p < B) (h2 : b < B) : WaAt w' p b M := ⟨h.ptr.below hb h1, h.map.below hb h2⟩
theorem WaAt.keep (h : WaAt w p b M) (hb : Below w.heap.size w w') : WaAt w' p b M := h.below hb h.ptr.lt h.map.lt
theorem WaAt.drewN (h : WaAt w p b M) (n : Nat) : WaAt (w.drewN n) p b M := ⟨h.ptr, h.map⟩
theorem WaAt.alloc (h : WaAt w p b M) (o : Obj) : WaAt (w.alloc o) p b M := ⟨h.ptr.alloc o, h.map.alloc o⟩
theorem WaAt.keys (h : WaAt w p b M) : (M.map keyH).Nodup := by
  have := h.map.nodup
  rwa [fst_wa] at this
theorem WaAt.ne (h : WaAt w p b M) : p ≠ b := by
  intro e
  obtain ⟨es, clock, hb, -⟩ := h.map
  have hp := h.ptr
  unfold Blk at hp
  rw [e, hb] at hp
  cases hp
theorem WaAt.turned (h : WaAt w p b M) (hg : w.grownBy w' (some b)) (hm : MapAt K3.enc w' b (waL M')) : WaAt w' p b M' := ⟨h.ptr.grown hg (fun e => h.ne (by injection e)), hm⟩
end
set_option maxHeartbeats 1000000 in
theorem New15 (w : World) : Calls Try.prog 29 #[] w fun r w' => r = .returned (.pointer (some ⟨w.heap.size + 1, 0, none⟩)) ∧ WaAt w' (w.heap.size + 1) w.heap.size [] ∧ Below w.heap.size w w' := by
  have hmm := @run_makeMap Try.prog
  go_enter Try.func29, Try.ntmps29
  go_wp2
  go_ret
  refine ⟨rfl, ⟨Blk.size (by simp), (MapAt.new w).alloc _⟩, ((Below.refl _ _).alloc (Nat.le_refl _) _).alloc (by simp) _⟩
set_option maxHeartbeats 1000000 in
theorem WaLen (p b : Nat) (M : List Hd) (w : World) (h : WaAt w p b M) : Calls Try.prog 32 #[.pointer (some ⟨p, 0, none⟩)] w fun r w' => r = .returned (.int .i64 M.length) ∧ w' = w := by
  have hcell := h.ptr.cell 0
  simp only [List.getElem?_toArray, List.getElem?_cons_zero] at hcell
  have HM := Lib.hid h.map
  have hL : (waL M).length = M.length := by simp [waL]
  have hl := fun t => h.map.len_run (P := Try.prog) Try.underlying123 t
  rw [hL] at hl
  clear h hL
  go_enter Try.func32, Try.ntmps32
  go_wp2
  go_ret
  exact ⟨rfl, rfl⟩
set_option maxHeartbeats 1000000 in
theorem WaLen_nil (w : World) : Calls Try.prog 32 #[.pointer none] w fun r w' => r = .returned (.int .i64 0) ∧ w' = w := by
  go_enter Try.func32, Try.ntmps32
  go_wp2
  go_ret
  exact ⟨rfl, rfl⟩

end Go.Proofs.Ytmjjmkdjjfmhhaa

/-
  Layer 15: who is not there wants nothing.
-/
namespace Go.Proofs.Ytmjjmkdjjfmhhaa
open Go.RowKit

set_option maxHeartbeats 1000000 in
theorem WaAdd_nil (x : Value) (w : World) : Calls Try.prog 30 #[.pointer none, x] w fun r w' => r = .returned (.int .i64 0) ∧ Below w.heap.size w w' := by
  go_enter Try.func30, Try.ntmps30
  go_wp2
  go_ret
  exact ⟨rfl, Below.refl _ _⟩
set_option maxHeartbeats 1000000 in
theorem WaAll_nil (w : World) : Calls Try.prog 82 #[.pointer none] w fun r w' => r = .returned (.slice none 0 0) ∧ Below w.heap.size w w' := by
  go_enter Try.func82, Try.ntmps82
  go_wp2
  go_ret
  exact ⟨rfl, Below.refl _ _⟩
set_option maxHeartbeats 1000000 in
theorem WaAsk_nil (w : World) : Calls Try.prog 39 #[.pointer none] w fun r w' => r = .returned (.slice none 0 0) ∧ Below w.heap.size w w' := by
  go_enter Try.func39, Try.ntmps39
  go_wp2_with (go_at_call 82; (with_reducible refine Calls.mono (WaAll_nil _) ?_); rintro r w2 ⟨rfl, hb2⟩; have Hb2 := Lib.hid hb2; clear hb2)
  go_loopw [3, 9] (fun o i wr => o = .slice none 0 0 ∧ i = .int .i64 0 ∧ wr = w2) (fun _ _ _ => 0)
  case atStart => exact ⟨rfl, rfl, rfl⟩
  case round =>
    obtain ⟨rfl, rfl, rfl⟩ := hrel
    go_wp2
    go_ret
    exact ⟨rfl, Hb2.out⟩

end Go.Proofs.Ytmjjmkdjjfmhhaa
