/-
  Layer 15: what is wanted, in memory.
-/
import Derived.RegionTactic
import Derived.Test.YtmjjmkdjjfmhhaaKyPlain
import Derived.Test.YtmjjmkdjjfmhhaaStMap
import Derived.Test.YtmjjmkdjjfmhhaaGrown
namespace Go.Proofs.Ytmjjmkdjjfmhhaa
open Go.RowKit

structure WaAt (w : World) (p b : Nat) (M : List Hd) : Prop where
  ptr : Blk w p 125 #[.map (some b)]
  map : MapAt K3.enc w b (waL M)
section
variable {w w' : World} {p b : Nat} {M M' : List Hd}
theorem WaAt.below {B : Nat} (h : WaAt w p b M) (hb : Below B w w') (h1 : p < B) (h2 : b < B) : WaAt w' p b M := ⟨h.ptr.below hb h1, h.map.below hb h2⟩
theorem WaAt.keep (h : WaAt w p b M) (hb : Below w.heap.size w w') : WaAt w' p b M := h.below hb h.ptr.lt h.map.lt
theorem WaAt.drewN (h : WaAt w p b M) (n : Nat) : WaAt (w.drewN n) p b M := ⟨h.ptr, h.map⟩
theorem WaAt.alloc (h : WaAt w p b M) (o : Obj) : WaAt (w.alloc o) p b M := ⟨h.ptr.alloc o, h.map.alloc o⟩
theorem WaAt.keys (h : WaAt w p b M) : (M.map keyH).Nodup := by
  have := h.map.nodup
  rwa [fst_wa] at this
theorem WaAt.ne (h : WaAt w p b M) : p ≠ b := by
  intro e
  obtain ⟨es, clock, hb, -⟩ := h.map
  have hp := h.ptr
  unfold Blk at hp
  rw [e, hb] at hp
  cases hp
theorem WaAt.turned (h : WaAt w p b M) (hg : w.grownBy w' (some b)) (hm : MapAt K3.enc w' b (waL M')) : WaAt w' p b M' := ⟨h.ptr.grown hg (fun e => h.ne (by injection e)), hm⟩
end
set_option maxHeartbeats 1000000 in
theorem New15 (w : World) : Calls Try.prog 29 #[] w fun r w' => r = .returned (.pointer (some ⟨w.heap.size + 1, 0, none⟩)) ∧ WaAt w' (w.heap.size + 1) w.heap.size [] ∧ Below w.heap.size w w' := by
  have hmm := @run_makeMap Try.prog
  go_enter Try.func29, Try.ntmps29
  go_wp2
  go_ret
  refine ⟨rfl, ⟨Blk.size (by simp), (MapAt.new w).alloc _⟩, ((Below.refl _ _).alloc (Nat.le_refl _) _).alloc (by simp) _⟩
set_option maxHeartbeats 1000000 in
theorem WaLen (p b : Nat) (M : List Hd) (w : World) (h : WaAt w p b M) : Calls Try.prog 32 #[.pointer (some ⟨p, 0, none⟩)] w fun r w' => r = .returned (.int .i64 M.length) ∧ w' = w := by
  have hcell := h.ptr.cell 0
  simp only [List.getElem?_toArray, List.getElem?_cons_zero] at hcell
  have HM := Lib.hid h.map
  have hL : (waL M).length = M.length := by simp [waL]
  have hl := fun t => h.map.len_run (P := Try.prog) Try.underlying123 t
  rw [hL] at hl
  clear h hL
  go_enter Try.func32, Try.ntmps32
  go_wp2
  go_ret
  exact ⟨rfl, rfl⟩
set_option maxHeartbeats 1000000 in
theorem WaLen_nil (w : World) : Calls Try.prog 32 #[.pointer none] w fun r w' => r = .returned (.int .i64 0) ∧ w' = w := by
  go_enter Try.func32, Try.ntmps32
  go_wp2
  go_ret
  exact ⟨rfl, rfl⟩

end Go.Proofs.Ytmjjmkdjjfmhhaa

/-
  Layer 15: who is not there wants nothing.
-/
namespace Go.Proofs.Ytmjjmkdjjfmhhaa
open Go.RowKit

set_option maxHeartbeats 1000000 in
theorem WaAdd_nil (x : Value) (w : World) : Calls Try.prog 30 #[.pointer none, x] w fun r w' => r = .returned (.int .i64 0) ∧ Below w.heap.size w w' := by
  go_enter Try.func30, Try.ntmps30
  go_wp2
  go_ret
  exact ⟨rfl, Below.refl _ _⟩
set_option maxHeartbeats 1000000 in
theorem WaAll_nil (w : World) : Calls Try.prog 82 #[.pointer none] w fun r w' => r = .returned (.slice none 0 0) ∧ Below w.heap.size w w' := by
  go_enter Try.func82, Try.ntmps82
  go_wp2
  go_ret
  exact ⟨rfl, Below.refl _ _⟩
set_option maxHeartbeats 1000000 in
theorem WaAsk_nil (w : World) : Calls Try.prog 39 #[.pointer none] w fun r w' => r = .returned (.slice none 0 0) ∧ Below w.heap.size w w' := by
  go_enter Try.func39, Try.ntmps39
  go_wp2_with (go_at_call 82; (with_reducible refine Calls.mono (WaAll_nil _) ?_); rintro r w2 ⟨rfl, hb2⟩; have Hb2 := Lib.hid hb2; clear hb2)
  go_loopw [3, 9] (fun o i wr => o = .slice none 0 0 ∧ i = .int .i64 0 ∧ wr = w2) (fun _ _ _ => 0)
  case atStart => exact ⟨rfl, rfl, rfl⟩
  case round =>
    obtain ⟨rfl, rfl, rfl⟩ := hrel
    go_wp2
    go_ret
    exact ⟨rfl, Hb2.out⟩

end Go.Proofs.Ytmjjmkdjjfmhhaa

/-
  Layer 15: what is wanted of a key.
-/
namespace Go.Proofs.Ytmjjmkdjjfmhhaa
open Go.RowKit

def zeroHd : Hd := ⟨0, 0, 0, 0, 0, 0, 0⟩
theorem zeroH (w : World) : (zeroValue 23).run Try.prog w = .ok (aggH zeroHd) w := by kernel_rfl
theorem getL_aggH (k : K3) (M : List Hd) : (getL k (waL M)).getD (aggH zeroHd) = aggH ((getH k M).getD zeroHd) ∧ (getL k (waL M)).isSome = (getH k M).isSome := by
  rw [getL_wa]
  cases getH k M <;> exact ⟨rfl, rfl⟩
set_option maxHeartbeats 2000000 in
set_option maxRecDepth 100000 in
theorem WaGet (p b : Nat) (M : List Hd) (k1 k2 k3 : Int) (w : World) (h : WaAt w p b M) {y : Hd} {is : Bool} (hy : (getH ⟨k1, k2, k3⟩ M).getD zeroHd = y) (his : (getH ⟨k1, k2, k3⟩ M).isSome = is) :
    Calls Try.prog 78 #[.pointer (some ⟨p, 0, none⟩), .agg #[.int .i64 k1, .int .i64 k2, .int .i64 k3]] w fun r w' => r = .returned (.tuple #[aggH y, .bool is]) ∧ Below w.heap.size w w' := by
  obtain ⟨w0, hW0⟩ : ∃ w0, (w.alloc (.cells #[.int .i64 k1, .int .i64 k2, .int .i64 k3] 39)).alloc (.cells #[.int .i64 0, .int .i64 0, .int .i64 0, .int .i64 0, .int .i64 0, .int .i64 0, .int .i64 0] 23) = w0 := ⟨_, rfl⟩
  have hk : Blk w0 w.heap.size 39 #[.int .i64 k1, .int .i64 k2, .int .i64 k3] := by rw [← hW0]; exact (Blk.new w _ _).alloc _
  have ho : Blk w0 (w.heap.size + 1) 23 #[.int .i64 0, .int .i64 0, .int .i64 0, .int .i64 0, .int .i64 0, .int .i64 0, .int .i64 0] := by rw [← hW0]; exact Blk.size (by simp)
  have hw : WaAt w0 p b M := by rw [← hW0]; exact (h.alloc _).alloc _
  have Hb0 : Hid (Below w.heap.size w w0) := Lib.hid (by rw [← hW0]; exact ((Below.refl w.heap.size w).alloc (Nat.le_refl _) _).alloc (by simp) _)
  obtain ⟨z0, z1, z2⟩ : _ ∧ _ ∧ _ := ⟨hk.cell 0, hk.cell 1, hk.cell 2⟩
  have z3 := hw.ptr.cell 0
  simp only [List.getElem?_toArray, List.getElem?_cons_zero, List.getElem?_cons_succ] at z0 z1 z2 z3
  have hl := hw.map.drew.look_run keyK3 Try.underlying123 (zeroH _) ⟨k1, k2, k3⟩ true
  simp only [if_true, K3.enc] at hl
  obtain ⟨e1, e2⟩ := getL_aggH ⟨k1, k2, k3⟩ M
  rw [hy] at e1
  rw [his] at e2
  rw [e1, e2] at hl
  have hl2 := fun o => (hw.map.alloc o).drew.look_run keyK3 Try.underlying123 (zeroH _) ⟨k1, k2, k3⟩ true
  simp only [if_true, K3.enc] at hl2
  rw [e1, e2] at hl2
  have c0 := fun o => (hk.alloc o).cell 0
  have c1 := fun o => (hk.alloc o).cell 1
  have c2 := fun o => (hk.alloc o).cell 2
  have c3 := fun o => (hw.ptr.alloc o).cell 0
  simp only [List.getElem?_toArray, List.getElem?_cons_zero, List.getElem?_cons_succ] at c0 c1 c2 c3
  obtain ⟨d0, d1, d2, d3, d4, d5, d6, f0, f1, f2, f3, f4, f5, f6⟩ := Blk.all7 (F := fun o => w0.alloc o) (fun o => ho.alloc o)
  have HO := Lib.hid (fun o => (ho.alloc o).set7 (.int .i64 y.age) (.int .i64 y.kind) (.int .i64 y.id) (.int .i64 y.adv) (.int .i64 y.seq) (.int .i64 y.sum) (.int .i64 y.long))
  clear hk hw h e1 e2 ho hy his
  obtain ⟨y1, y2, y3, y4, y5, y6, y7⟩ := y
  unfold aggH Hd.cells at hl hl2 ⊢
  simp only at hl hl2 ⊢
  go_enter Try.func78, Try.ntmps78
  go_wp2
  go_region
  all_goals
    go_wp2
    refine bodyPost_named (v := .tuple #[.agg #[.int .i64 y1, .int .i64 y2, .int .i64 y3, .int .i64 y4, .int .i64 y5, .int .i64 y6, .int .i64 y7], .bool is]) (fun W => Blk W (w.heap.size + 1) 23 #[.int .i64 y1, .int .i64 y2, .int .i64 y3, .int .i64 y4, .int .i64 y5, .int .i64 y6, .int .i64 y7]) ((HO.out _).drew) (fun W hB => by
      obtain ⟨e0, e1, e2, e3, e4, e5, e6, -⟩ := hB.both7
      simp [results, Try.results78, go_sem, e0, e1, e2, e3, e4, e5, e6]) rfl ⟨rfl, ?_⟩
    exact (below_set7 (g := w.heap.size + 1) (Hb0.out.alloc Hb0.out.size _) (by omega) _ _ _ _ _ _ _).drew

end Go.Proofs.Ytmjjmkdjjfmhhaa
