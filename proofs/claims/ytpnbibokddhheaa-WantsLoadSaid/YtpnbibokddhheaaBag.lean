/-
  Layer 15: how heads are compared for their order.
-/
import Derived.RegionTactic
import Derived.Test.YtpnbibokddhheaaBaa
import Derived.Test.YtpnbibokddhheaaBab
import Derived.Test.YtpnbibokddhheaaBac
import Derived.Test.YtpnbibokddhheaaBae
import Derived.Test.YtpnbibokddhheaaBaf
namespace Go.Proofs.Ytpnbibokddhheaa
open Go.RowKit Go.Sort

def cmpH (a b : Hd) : Int := cmpK (keyH a) (keyH b)
set_option maxHeartbeats 400000 in
theorem keyOf_g (h : Hd) (w : World) : Calls Try.prog 47 #[.agg #[.int .i64 h.age, .int .i64 h.kind, .int .i64 h.id, .int .i64 h.adv, .int .i64 h.seq, .int .i64 h.sum, .int .i64 h.long]] w
    fun r w' => r = .returned (.agg #[.int .i64 h.kind, .int .i64 h.id, .int .i64 h.adv]) ∧ ∃ q os', w' = grow (w.drewN q) os' := by
  obtain ⟨a, b, c, d, e, f, g⟩ := h
  go_enter Try.func47, Try.ntmps47
  go_wp2
  refine bodyPost_ret (v := .agg #[.int .i64 b, .int .i64 c, .int .i64 d]) (by simp [results, Try.results47, go_sem]) rfl ⟨rfl, 0, #[.cells #[.int .i64 a, .int .i64 b, .int .i64 c, .int .i64 d, .int .i64 e, .int .i64 f, .int .i64 g] 34, .cells #[.int .i64 b, .int .i64 c, .int .i64 d] 85], ?_⟩
  rw [alloc_eq_grow, alloc_eq_grow, grow_grow]
  rfl
set_option maxHeartbeats 2000000 in
set_option maxRecDepth 100000 in
theorem before_g (a1 a2 a3 b1 b2 b3 : Int) (w : World) : Calls Try.prog 90 #[.agg #[.int .i64 a1, .int .i64 a2, .int .i64 a3], .agg #[.int .i64 b1, .int .i64 b2, .int .i64 b3]] w fun r w' => r = .returned (.int .i64 (cmp3 a1 a2 a3 b1 b2 b3)) ∧ ∃ q os', w' = grow (w.drewN q) os' := by
  obtain ⟨w0, hW0⟩ : ∃ w0, (w.alloc (.cells #[.int .i64 a1, .int .i64 a2, .int .i64 a3] 85)).alloc (.cells #[.int .i64 b1, .int .i64 b2, .int .i64 b3] 85) = w0 := ⟨_, rfl⟩
  have hA : Blk w0 w.heap.size 85 #[.int .i64 a1, .int .i64 a2, .int .i64 a3] := by rw [← hW0]; exact (Blk.new w _ _).alloc _
  have hB : Blk w0 (w.heap.size + 1) 85 #[.int .i64 b1, .int .i64 b2, .int .i64 b3] := by
    rw [← hW0]
    have := Blk.new (w.alloc (.cells #[.int .i64 a1, .int .i64 a2, .int .i64 a3] 85)) 85 #[.int .i64 b1, .int .i64 b2, .int .i64 b3]
    simpa using this
  have Hg : Hid (∃ os, w0 = grow w os) := Lib.hid ⟨_, by rw [← hW0, alloc_eq_grow, alloc_eq_grow, grow_grow]⟩
  obtain ⟨a_0, a_1, a_2⟩ : _ ∧ _ ∧ _ := ⟨hA.cell 0, hA.cell 1, hA.cell 2⟩
  obtain ⟨b_0, b_1, b_2⟩ : _ ∧ _ ∧ _ := ⟨hB.cell 0, hB.cell 1, hB.cell 2⟩
  simp only [List.getElem?_toArray, List.getElem?_cons_zero, List.getElem?_cons_succ] at a_0 a_1 a_2 b_0 b_1 b_2
  clear hA hB
  go_enter Try.func90, Try.ntmps90
  go_wp2_with fail
  refine wp_drew_tail 15 (by kernel_rfl) (by kernel_rfl) ?_
  simp only [List.take_succ_cons, List.take_zero, List.drop_succ_cons, List.drop_zero]
  repeat (go_big_quiet_step (exact cmp_q _ _ _ _))
  refine wpQuiet_nil ?_
  rintro w3 ⟨dq, rfl⟩
  go_wp2_with (go_at_call 73; (with_reducible refine Calls.mono (or3_s _ _ _ _) ?_); rintro r w4 ⟨rfl, rfl⟩)
  go_ret
  obtain ⟨os, hos⟩ := Hg.out
  refine ⟨rfl, dq, os.push (.cells #[.int .i64 (cmpI a1 b1), .int .i64 (cmpI a2 b2), .int .i64 (cmpI a3 b3)] 3), ?_⟩
  subst hos
  simp [grow, World.alloc, World.drewN]
set_option maxHeartbeats 2000000 in
set_option maxRecDepth 100000 in
theorem allCmp_any (a b : Hd) (w : World) : Calls Try.prog 89 #[aggH a, aggH b] w fun r w' => r = .returned (.int .i64 (cmpH a b)) ∧ ∃ q os', w' = grow (w.drewN q) os' := by
  obtain ⟨a1, a2, a3, a4, a5, a6, a7⟩ := a
  obtain ⟨b1, b2, b3, b4, b5, b6, b7⟩ := b
  obtain ⟨w0, hW0⟩ : ∃ w0, (w.alloc (.cells #[.int .i64 a1, .int .i64 a2, .int .i64 a3, .int .i64 a4, .int .i64 a5, .int .i64 a6, .int .i64 a7] 34)).alloc (.cells #[.int .i64 b1, .int .i64 b2, .int .i64 b3, .int .i64 b4, .int .i64 b5, .int .i64 b6, .int .i64 b7] 34) = w0 := ⟨_, rfl⟩
  have hA : Blk w0 w.heap.size 34 #[.int .i64 a1, .int .i64 a2, .int .i64 a3, .int .i64 a4, .int .i64 a5, .int .i64 a6, .int .i64 a7] := by rw [← hW0]; exact (Blk.new w _ _).alloc _
  have hB : Blk w0 (w.heap.size + 1) 34 #[.int .i64 b1, .int .i64 b2, .int .i64 b3, .int .i64 b4, .int .i64 b5, .int .i64 b6, .int .i64 b7] := by rw [← hW0]; exact Blk.size (by simp)
  have Hg : Hid (∃ os, w0 = grow w os) := Lib.hid ⟨_, by rw [← hW0, alloc_eq_grow, alloc_eq_grow, grow_grow]⟩
  obtain ⟨a_0, a_1, a_2, a_3, a_4, a_5, a_6⟩ : _ ∧ _ ∧ _ ∧ _ ∧ _ ∧ _ ∧ _ := ⟨cell_gd (hA.cell 0), cell_gd (hA.cell 1), cell_gd (hA.cell 2), cell_gd (hA.cell 3), cell_gd (hA.cell 4), cell_gd (hA.cell 5), cell_gd (hA.cell 6)⟩
  obtain ⟨b_0, b_1, b_2, b_3, b_4, b_5, b_6⟩ : _ ∧ _ ∧ _ ∧ _ ∧ _ ∧ _ ∧ _ := ⟨cell_gd (hB.cell 0), cell_gd (hB.cell 1), cell_gd (hB.cell 2), cell_gd (hB.cell 3), cell_gd (hB.cell 4), cell_gd (hB.cell 5), cell_gd (hB.cell 6)⟩
  have CK := Lib.hid (fun h q os => gd_of (w := w0) (q := q) (os := os) (keyOf_g h _))
  have CB := Lib.hid (fun x1 x2 x3 y1 y2 y3 q os => gd_of (w := w0) (q := q) (os := os) (before_g x1 x2 x3 y1 y2 y3 _))
  clear hA hB
  unfold cmpH cmpK keyH aggH Hd.cells
  (try simp only)
  go_enter Try.func89, Try.ntmps89
  go_wp2_with fail
  refine wp_gd_tail 5 (by kernel_rfl) (by kernel_rfl) ?_
  simp only [List.take_succ_cons, List.take_zero, List.drop_succ_cons, List.drop_zero]
  repeat (go_big_quiet_step (first | exact CK.out ⟨_, _, _, _, _, _, _⟩ _ _ | exact CB.out _ _ _ _ _ _ _ _))
  refine wpQuiet_nil ?_
  rintro w3 ⟨⟨dq, osq⟩, rfl⟩
  go_wp2
  go_ret
  obtain ⟨os, hos⟩ := Hg.out
  refine ⟨rfl, dq, os ++ osq, ?_⟩
  subst hos
  simp [grow, World.drewN, Array.append_assoc]

end Go.Proofs.Ytpnbibokddhheaa

/-
  Layer 15: what is wanted, in memory.
-/
namespace Go.Proofs.Ytpnbibokddhheaa
open Go.RowKit

structure WaAt (w : World) (p b : Nat) (M : List Hd) : Prop where
  ptr : Blk w p 99 #[.map (some b)]
  map : MapAt K3.enc w b (waL M)
section
variable {w w' : World} {p b : Nat} {M M' : List Hd}
theorem WaAt.below {B : Nat} (h : WaAt w p b M) (hb : Below B w w') (h1 : p < B) (h2 : b < B) : WaAt w' p b M := ⟨h.ptr.below hb h1, h.map.below hb h2⟩
theorem WaAt.keep (h : WaAt w p b M) (hb : Below w.heap.size w w') : WaAt w' p b M := h.below hb h.ptr.lt h.map.lt
theorem WaAt.drewN (h : WaAt w p b M) (n : Nat) : WaAt (w.drewN n) p b M := ⟨h.ptr, h.map⟩
theorem WaAt.alloc (h : WaAt w p b M) (o : Obj) : WaAt (w.alloc o) p b M := ⟨h.ptr.alloc o, h.map.alloc o⟩
theorem WaAt.keys (h : WaAt w p b M) : (M.map keyH).Nodup := by
  have := h.map.nodup
  rwa [fst_wa] at this
theorem WaAt.ne (h : WaAt w p b M) : p ≠ b := by
  intro e
  obtain ⟨es, clock, hb, -⟩ := h.map
  have hp := h.ptr
  unfold Blk at hp
  rw [e, hb] at hp
  cases hp
theorem WaAt.turned (h : WaAt w p b M) (hg : w.grownBy w' (some b)) (hm : MapAt K3.enc w' b (waL M')) : WaAt w' p b M' := ⟨h.ptr.grown hg (fun e => h.ne (by injection e)), hm⟩
end
set_option maxHeartbeats 1000000 in
theorem New15 (w : World) : Calls Try.prog 21 #[] w fun r w' => r = .returned (.pointer (some ⟨w.heap.size + 1, 0, none⟩)) ∧ WaAt w' (w.heap.size + 1) w.heap.size [] ∧ Below w.heap.size w w' := by
  have hmm := @run_makeMap Try.prog
  go_enter Try.func21, Try.ntmps21
  go_wp2
  go_ret
  refine ⟨rfl, ⟨Blk.size (by simp), (MapAt.new w).alloc _⟩, ((Below.refl _ _).alloc (Nat.le_refl _) _).alloc (by simp) _⟩
set_option maxHeartbeats 1000000 in
theorem WaLen (p b : Nat) (M : List Hd) (w : World) (h : WaAt w p b M) : Calls Try.prog 28 #[.pointer (some ⟨p, 0, none⟩)] w fun r w' => r = .returned (.int .i64 M.length) ∧ w' = w := by
  have hcell := h.ptr.cell 0
  simp only [List.getElem?_toArray, List.getElem?_cons_zero] at hcell
  have HM := Lib.hid h.map
  have hL : (waL M).length = M.length := by simp [waL]
  have hl := fun t => h.map.len_run (P := Try.prog) Try.underlying97 t
  rw [hL] at hl
  clear h hL
  go_enter Try.func28, Try.ntmps28
  go_wp2
  go_ret
  exact ⟨rfl, rfl⟩
set_option maxHeartbeats 1000000 in
theorem WaLen_nil (w : World) : Calls Try.prog 28 #[.pointer none] w fun r w' => r = .returned (.int .i64 0) ∧ w' = w := by
  go_enter Try.func28, Try.ntmps28
  go_wp2
  go_ret
  exact ⟨rfl, rfl⟩

end Go.Proofs.Ytpnbibokddhheaa

/-
  Layer 15: who is not there wants nothing.
-/
namespace Go.Proofs.Ytpnbibokddhheaa
open Go.RowKit

set_option maxHeartbeats 1000000 in
theorem WaAdd_nil (x : Value) (w : World) : Calls Try.prog 22 #[.pointer none, x] w fun r w' => r = .returned (.int .i64 0) ∧ Below w.heap.size w w' := by
  go_enter Try.func22, Try.ntmps22
  go_wp2
  go_ret
  exact ⟨rfl, Below.refl _ _⟩
set_option maxHeartbeats 1000000 in
theorem WaAll_nil (w : World) : Calls Try.prog 58 #[.pointer none] w fun r w' => r = .returned (.slice none 0 0) ∧ Below w.heap.size w w' := by
  go_enter Try.func58, Try.ntmps58
  go_wp2
  go_ret
  exact ⟨rfl, Below.refl _ _⟩
set_option maxHeartbeats 1000000 in
theorem WaAsk_nil (w : World) : Calls Try.prog 25 #[.pointer none] w fun r w' => r = .returned (.slice none 0 0) ∧ Below w.heap.size w w' := by
  go_enter Try.func25, Try.ntmps25
  go_wp2_with (go_at_call 58; (with_reducible refine Calls.mono (WaAll_nil _) ?_); rintro r w2 ⟨rfl, hb2⟩; have Hb2 := Lib.hid hb2; clear hb2)
  go_loopw [3, 9] (fun o i wr => o = .slice none 0 0 ∧ i = .int .i64 0 ∧ wr = w2) (fun _ _ _ => 0)
  case atStart => exact ⟨rfl, rfl, rfl⟩
  case round =>
    obtain ⟨rfl, rfl, rfl⟩ := hrel
    go_wp2
    go_ret
    exact ⟨rfl, Hb2.out⟩

end Go.Proofs.Ytpnbibokddhheaa

/-
  Layer 15: what is wanted of a key.
-/
namespace Go.Proofs.Ytpnbibokddhheaa
open Go.RowKit

def zeroHd : Hd := ⟨0, 0, 0, 0, 0, 0, 0⟩
theorem zeroH (w : World) : (zeroValue 34).run Try.prog w = .ok (aggH zeroHd) w := by kernel_rfl
theorem getL_aggH (k : K3) (M : List Hd) : (getL k (waL M)).getD (aggH zeroHd) = aggH ((getH k M).getD zeroHd) ∧ (getL k (waL M)).isSome = (getH k M).isSome := by
  rw [getL_wa]
  cases getH k M <;> exact ⟨rfl, rfl⟩
set_option maxHeartbeats 2000000 in
set_option maxRecDepth 100000 in
theorem WaGet (p b : Nat) (M : List Hd) (k1 k2 k3 : Int) (w : World) (h : WaAt w p b M) {y : Hd} {is : Bool} (hy : (getH ⟨k1, k2, k3⟩ M).getD zeroHd = y) (his : (getH ⟨k1, k2, k3⟩ M).isSome = is) :
    Calls Try.prog 59 #[.pointer (some ⟨p, 0, none⟩), .agg #[.int .i64 k1, .int .i64 k2, .int .i64 k3]] w fun r w' => r = .returned (.tuple #[aggH y, .bool is]) ∧ Below w.heap.size w w' := by
  obtain ⟨w0, hW0⟩ : ∃ w0, (w.alloc (.cells #[.int .i64 k1, .int .i64 k2, .int .i64 k3] 85)).alloc (.cells #[.int .i64 0, .int .i64 0, .int .i64 0, .int .i64 0, .int .i64 0, .int .i64 0, .int .i64 0] 34) = w0 := ⟨_, rfl⟩
  have hk : Blk w0 w.heap.size 85 #[.int .i64 k1, .int .i64 k2, .int .i64 k3] := by rw [← hW0]; exact (Blk.new w _ _).alloc _
  have ho : Blk w0 (w.heap.size + 1) 34 #[.int .i64 0, .int .i64 0, .int .i64 0, .int .i64 0, .int .i64 0, .int .i64 0, .int .i64 0] := by rw [← hW0]; exact Blk.size (by simp)
  have hw : WaAt w0 p b M := by rw [← hW0]; exact (h.alloc _).alloc _
  have Hb0 : Hid (Below w.heap.size w w0) := Lib.hid (by rw [← hW0]; exact ((Below.refl w.heap.size w).alloc (Nat.le_refl _) _).alloc (by simp) _)
  obtain ⟨z0, z1, z2⟩ : _ ∧ _ ∧ _ := ⟨hk.cell 0, hk.cell 1, hk.cell 2⟩
  have z3 := hw.ptr.cell 0
  simp only [List.getElem?_toArray, List.getElem?_cons_zero, List.getElem?_cons_succ] at z0 z1 z2 z3
  have hl := hw.map.drew.look_run keyK3 Try.underlying97 (zeroH _) ⟨k1, k2, k3⟩ true
  simp only [if_true, K3.enc] at hl
  obtain ⟨e1, e2⟩ := getL_aggH ⟨k1, k2, k3⟩ M
  rw [hy] at e1
  rw [his] at e2
  rw [e1, e2] at hl
  have hl2 := fun o => (hw.map.alloc o).drew.look_run keyK3 Try.underlying97 (zeroH _) ⟨k1, k2, k3⟩ true
  simp only [if_true, K3.enc] at hl2
  rw [e1, e2] at hl2
  have c0 := fun o => (hk.alloc o).cell 0
  have c1 := fun o => (hk.alloc o).cell 1
  have c2 := fun o => (hk.alloc o).cell 2
  have c3 := fun o => (hw.ptr.alloc o).cell 0
  simp only [List.getElem?_toArray, List.getElem?_cons_zero, List.getElem?_cons_succ] at c0 c1 c2 c3
  obtain ⟨d0, d1, d2, d3, d4, d5, d6, f0, f1, f2, f3, f4, f5, f6⟩ := Blk.all7 (F := fun o => w0.alloc o) (fun o => ho.alloc o)
  have HO := Lib.hid (fun o => (ho.alloc o).set7 (.int .i64 y.age) (.int .i64 y.kind) (.int .i64 y.id) (.int .i64 y.adv) (.int .i64 y.seq) (.int .i64 y.sum) (.int .i64 y.long))
  clear hk hw h e1 e2 ho hy his
  obtain ⟨y1, y2, y3, y4, y5, y6, y7⟩ := y
  unfold aggH Hd.cells at hl hl2 ⊢
  simp only at hl hl2 ⊢
  go_enter Try.func59, Try.ntmps59
  go_wp2
  go_region
  all_goals
    go_wp2
    refine bodyPost_named (v := .tuple #[.agg #[.int .i64 y1, .int .i64 y2, .int .i64 y3, .int .i64 y4, .int .i64 y5, .int .i64 y6, .int .i64 y7], .bool is]) (fun W => Blk W (w.heap.size + 1) 34 #[.int .i64 y1, .int .i64 y2, .int .i64 y3, .int .i64 y4, .int .i64 y5, .int .i64 y6, .int .i64 y7]) ((HO.out _).drew) (fun W hB => by
      obtain ⟨e0, e1, e2, e3, e4, e5, e6, -⟩ := hB.both7
      simp [results, Try.results59, go_sem, e0, e1, e2, e3, e4, e5, e6]) rfl ⟨rfl, ?_⟩
    exact (below_set7 (g := w.heap.size + 1) (Hb0.out.alloc Hb0.out.size _) (by omega) _ _ _ _ _ _ _).drew

end Go.Proofs.Ytpnbibokddhheaa

/-
  Layer 15: heads are added to what is wanted.
-/
namespace Go.Proofs.Ytpnbibokddhheaa
open Go.RowKit

theorem below_two {w w2 : World} {o : Obj} (hb : Below (w.alloc o).heap.size (w.alloc o) w2) (o' : Obj) : Below w.heap.size w (w2.alloc o') := by
  have h1 : Below w.heap.size w w2 := ((Below.refl w.heap.size w).alloc (Nat.le_refl _) o).trans (hb.mono (by simp))
  exact h1.alloc h1.size _
theorem newer_cases (x : Int) : decide (0 < x) = true ∨ decide (0 < x) = false := by by_cases h : 0 < x <;> simp [h]
structure ageOk (h : Hd) : Prop where
  lo : 0 ≤ h.age
  hi : h.age ≤ 60
theorem row_hd {w : World} {B : Nat} {A : Option Addr} {l : List Hd} (h : RowsAt 7 Hd.cells w B A l) (k : Nat) (hk : k < l.length) :
    ∃ b o, A = some ⟨b, o, none⟩ ∧ b < B ∧ w.cell? ⟨b, o + k * 7, none⟩ = some (.int .i64 l[k].age) ∧ w.cell? ⟨b, o + k * 7 + 1, none⟩ = some (.int .i64 l[k].kind) ∧ w.cell? ⟨b, o + k * 7 + 2, none⟩ = some (.int .i64 l[k].id) ∧ w.cell? ⟨b, o + k * 7 + 3, none⟩ = some (.int .i64 l[k].adv) ∧
      w.cell? ⟨b, o + k * 7 + 4, none⟩ = some (.int .i64 l[k].seq) ∧ w.cell? ⟨b, o + k * 7 + 5, none⟩ = some (.int .i64 l[k].sum) ∧ w.cell? ⟨b, o + k * 7 + 6, none⟩ = some (.int .i64 l[k].long) := by
  obtain ⟨b, o, e, hb, hc⟩ := h (by omega)
  exact ⟨b, o, e, hb, by simpa using hc k hk 0 _ (by omega) rfl, hc k hk 1 _ (by omega) rfl, hc k hk 2 _ (by omega) rfl, hc k hk 3 _ (by omega) rfl, hc k hk 4 _ (by omega) rfl, hc k hk 5 _ (by omega) rfl, hc k hk 6 _ (by omega) rfl⟩
def addAllM (M L : List Hd) : List Hd := L.foldl (addM newerI) M
theorem addAllM_succ (M L : List Hd) (k : Nat) (hk : k < L.length) : addAllM M (L.take (k + 1)) = addM newerI (addAllM M (L.take k)) L[k] := by
  unfold addAllM
  rw [List.take_succ_eq_append_getElem hk, List.foldl_append]
  rfl
theorem addM_mem {nw : Hd → Hd → Int} {M : List Hd} {h x : Hd} (hx : x ∈ addM nw M h) : x ∈ M ∨ x = h := by
  have hs : ∀ M : List Hd, ∀ x, x ∈ setH h M → x ∈ M ∨ x = h := by
    intro M
    induction M with
    | nil => intro x hx; simp [setH] at hx; exact .inr hx
    | cons y M ih =>
      intro x hx
      unfold setH at hx
      split at hx
      · rcases List.mem_cons.1 hx with e | hx
        · exact .inr e
        · exact .inl (by simp [hx])
      · rcases List.mem_cons.1 hx with e | hx
        · exact .inl (by simp [e])
        · rcases ih x hx with h1 | h1
          · exact .inl (by simp [h1])
          · exact .inr h1
  unfold addM at hx
  split at hx
  · split at hx
    · exact hs M x hx
    · exact .inl hx
  · exact hs M x hx
theorem addAllM_age {M L : List Hd} (hM : ∀ x ∈ M, ageOk x) (hL : ∀ x ∈ L, ageOk x) : ∀ x ∈ addAllM M L, ageOk x := by
  induction L generalizing M with
  | nil => exact hM
  | cons h L ih =>
    refine ih (M := addM newerI M h) (fun x hx => ?_) (fun x hx => hL x (by simp [hx]))
    rcases addM_mem hx with h1 | h1
    · exact hM x h1
    · exact h1 ▸ hL h (by simp)
theorem addAllM_len (M L : List Hd) : (addAllM M L).length ≤ M.length + L.length := by
  have hs : ∀ (h : Hd) (M : List Hd), (setH h M).length ≤ M.length + 1 := by
    intro h M
    induction M with
    | nil => simp [setH]
    | cons y M ih =>
      unfold setH
      split <;> simp <;> omega
  induction L generalizing M with
  | nil => exact Nat.le_refl _
  | cons h L ih =>
    have h1 := ih (addM newerI M h)
    have h2 : (addM newerI M h).length ≤ M.length + 1 := by
      unfold addM
      have := hs h M
      split
      · split <;> omega
      · exact this
    simp only [addAllM, List.foldl_cons, List.length_cons] at *
    omega
/-- one head is added: the three ways -/
theorem add_cases (M : List Hd) (h : Hd) : (getH (keyH h) M = none ∧ addM newerI M h = setH h M) ∨
    (∃ x, getH (keyH h) M = some x ∧ decide (0 < newerI h x) = true ∧ addM newerI M h = setH h M) ∨ (∃ x, getH (keyH h) M = some x ∧ decide (0 < newerI h x) = false ∧ addM newerI M h = M) := by
  unfold addM
  cases hx : getH (keyH h) M with
  | none => exact .inl ⟨rfl, rfl⟩
  | some x =>
    right
    simp only
    by_cases h1 : 0 < newerI h x
    · exact .inl ⟨x, rfl, by simp [h1], by rw [if_pos h1]⟩
    · exact .inr ⟨x, rfl, by simpa using h1, by rw [if_neg h1]⟩

set_option maxHeartbeats 4000000 in
set_option maxRecDepth 100000 in
theorem WaAdd_of (p b : Nat) (M : List Hd) (A : Option Addr) (cap : Nat) (L : List Hd) (w : World) (h : WaAt w p b M) (B : Nat) (hl : ∀ W, w.grownBy W (some b) → RowsAt 7 Hd.cells W B A L) (hM : ∀ x ∈ M, ageOk x) (hL : ∀ x ∈ L, ageOk x)
    (hlen : L.length ≤ 1000) (n : Nat) (hn : n = L.length) :
    Calls Try.prog 22 #[.pointer (some ⟨p, 0, none⟩), .slice A n cap] w fun r w' => r = .returned (.int .i64 (addAllM M L).length) ∧ WaAt w' p b (addAllM M L) ∧ w.grownBy w' (some b) := by
  subst hn
  have H := Lib.hid h
  have HL := Lib.hid hl
  have HMa := Lib.hid hM
  have HLa := Lib.hid hL
  clear h hl hM hL
  go_enter Try.func22, Try.ntmps22
  go_wp2
  go_loopw [14] (fun i wr => ∃ k : Nat, k ≤ L.length ∧ i = .int .i64 k ∧ WaAt wr p b (addAllM M (L.take k)) ∧ w.grownBy wr (some b)) (fun i _ => L.length - (intOf i).toNat)
  case atStart => exact ⟨0, Nat.zero_le _, rfl, H.out, World.grownBy.refl _ _⟩
  case round =>
    obtain ⟨k, hk, rfl, hwa, hg⟩ := hrel
    by_cases hlt : k < L.length
    · obtain ⟨b1, o1, rfl, -, x0, x1, x2, x3, x4, x5, x6⟩ := row_hd (HL.out wr hg) k hlt
      have hz := addAllM_succ M L k hlt
      have hMk := addAllM_age HMa.out (fun x hx => HLa.out x (List.mem_of_mem_take hx)) (L := L.take k)
      have hhk := HLa.out L[k] (List.getElem_mem hlt)
      have hkl : (k : Int) < (L.length : Int) := by omega
      generalize L[k] = y at *
      generalize addAllM M (L.take k) = N at *
      have hcases := add_cases N y
      obtain ⟨y1, y2, y3, y4, y5, y6, y7⟩ := y
      simp only at x0 x1 x2 x3 x4 x5 x6
      have HZ := Lib.hid hz
      have HMk := Lib.hid hMk
      have Hhk := Lib.hid hhk
      have Hwa := Lib.hid hwa
      have Hg := Lib.hid hg
      clear hz hMk hhk hwa hg
      have Hcases := Lib.hid hcases
      clear hcases
      have hcell := Hwa.out.ptr.cell 0
      simp only [List.getElem?_toArray, List.getElem?_cons_zero] at hcell
      go_wp2_with (go_at_call 47; (with_reducible refine Calls.mono (keyOf_any _ _ _ _ _ _ _ _) ?_); rintro r w2 ⟨rfl, hb2⟩; obtain ⟨w5, hW5, hk5, hh5, hw5, hg5⟩ : ∃ w5, w2.alloc (.cells #[.int .i64 y2, .int .i64 y3, .int .i64 y4] 85) = w5 ∧ Blk w5 w2.heap.size 85 #[.int .i64 y2, .int .i64 y3, .int .i64 y4] ∧ Blk w5 wr.heap.size 34 #[.int .i64 y1, .int .i64 y2, .int .i64 y3, .int .i64 y4, .int .i64 y5, .int .i64 y6, .int .i64 y7] ∧ WaAt w5 p b N ∧ w.grownBy w5 (some b) := ⟨_, rfl, Blk.new _ _ _, ((Blk.new wr _ _).below hb2 (by simp)).alloc _, ((Hwa.out.alloc _).keep hb2).alloc _, grown_below Hg.out (below_two hb2 _)⟩; clear hb2)
      obtain ⟨u, hu⟩ : ∃ u, (getH ⟨y2, y3, y4⟩ N).getD zeroHd = u := ⟨_, rfl⟩
      obtain ⟨is, his⟩ : ∃ is, (getH ⟨y2, y3, y4⟩ N).isSome = is := ⟨_, rfl⟩
      have hl := hw5.map.drew.look_run keyK3 Try.underlying97 (zeroH _) ⟨y2, y3, y4⟩ true
      have hl2 := fun o => (hw5.map.alloc o).drew.look_run keyK3 Try.underlying97 (zeroH _) ⟨y2, y3, y4⟩ true
      simp only [if_true, K3.enc] at hl hl2
      obtain ⟨e1, e2⟩ := getL_aggH ⟨y2, y3, y4⟩ N
      rw [hu] at e1
      rw [his] at e2
      rw [e1, e2] at hl hl2
      obtain ⟨z0, z1, z2, z3⟩ : _ ∧ _ ∧ _ ∧ _ := ⟨hk5.cell 0, hk5.cell 1, hk5.cell 2, hw5.ptr.cell 0⟩
      obtain ⟨c0, c1, c2, c3⟩ : _ ∧ _ ∧ _ ∧ _ := ⟨fun o => (hk5.alloc o).cell 0, fun o => (hk5.alloc o).cell 1, fun o => (hk5.alloc o).cell 2, fun o => (hw5.ptr.alloc o).cell 0⟩
      simp only [List.getElem?_toArray, List.getElem?_cons_zero, List.getElem?_cons_succ] at c0 c1 c2 c3 z0 z1 z2 z3
      have Hk5 := Lib.hid hk5
      have Hh5 := Lib.hid hh5
      have Hw5 := Lib.hid hw5
      have Hg5 := Lib.hid hg5
      have Hu := Lib.hid hu
      have His := Lib.hid his
      clear hk5 hh5 hw5 hg5 e1 e2 hu his hcell x0 x1 x2 x3 x4 x5 x6
      obtain ⟨u1, u2, u3, u4, u5, u6, u7⟩ := u
      unfold aggH Hd.cells at hl hl2
      simp only at hl hl2
      go_region
      obtain ⟨w6, hW6⟩ : ∃ w6, (w5.alloc (.cells #[.int .i64 u1, .int .i64 u2, .int .i64 u3, .int .i64 u4, .int .i64 u5, .int .i64 u6, .int .i64 u7] 34)).drew = w6 := ⟨_, rfl⟩
      have hk6 : Blk w6 w2.heap.size 85 #[.int .i64 y2, .int .i64 y3, .int .i64 y4] := by rw [← hW6]; exact (Hk5.out.alloc _).drew
      have hh6 : Blk w6 wr.heap.size 34 #[.int .i64 y1, .int .i64 y2, .int .i64 y3, .int .i64 y4, .int .i64 y5, .int .i64 y6, .int .i64 y7] := by rw [← hW6]; exact (Hh5.out.alloc _).drew
      have hu6 : Blk w6 w5.heap.size 34 #[.int .i64 u1, .int .i64 u2, .int .i64 u3, .int .i64 u4, .int .i64 u5, .int .i64 u6, .int .i64 u7] := by rw [← hW6]; exact (Blk.new w5 _ _).drew
      have hw6 : WaAt w6 p b N := by rw [← hW6]; exact (Hw5.out.alloc _).drewN 1
      have hg6 : w.grownBy w6 (some b) := by rw [← hW6]; exact grown_below Hg5.out ((Below.refl _ _).alloc (Nat.le_refl _) _).drew
      rw [hW6]
      have HW6 := Lib.hid hW6
      clear hW6 c0 c1 c2 c3 z0 z1 z2 z3 hl hl2
      obtain ⟨z0, z1, z2, z3⟩ : _ ∧ _ ∧ _ ∧ _ := ⟨hk6.cell 0, hk6.cell 1, hk6.cell 2, hw6.ptr.cell 0⟩
      simp only [List.getElem?_toArray, List.getElem?_cons_zero, List.getElem?_cons_succ] at z0 z1 z2 z3
      obtain ⟨a0, a1, a2, a3, a4, a5, a6, -⟩ := hh6.both7
      obtain ⟨b0, b1, b2, b3, b4, b5, b6, -⟩ := hu6.both7
      have Hw6 := Lib.hid hw6
      have Hg6 := Lib.hid hg6
      have Hh6 := Lib.hid hh6
      have Hk6 := Lib.hid hk6
      clear hk6 hh6 hu6 hw6 hg6
      rcases Hcases.out with ⟨q1, q2⟩ | ⟨x, q1, q2, q3⟩ | ⟨x, q1, q2, q3⟩
      · have his : is = false := by rw [← His.out]; unfold keyH at q1; simp only at q1; rw [q1]; rfl
        have Hq2 := Lib.hid q2
        subst his
        clear q1 q2
        go_wp2_with fail
        refine wp_drew_tail 6 (by kernel_rfl) (by kernel_rfl) ?_
        simp only [List.take_succ_cons, List.take_zero, List.drop_succ_cons, List.drop_zero]
        repeat (go_big_quiet_step (fail))
        refine wpQuiet_nil ?_
        rintro w7 ⟨dq, rfl⟩
        have HM := Lib.hid (Hw6.out.drewN dq).map
        go_wp2_with (at_mapUpdate; (refine wpList_update_st _ (by rfl) _ _ _ 97 (by rfl) 85 34 keyK3 Try.underlying97 (by rfl) HM.out ⟨y2, y3, y4⟩ (by rfl) (aggH ⟨y1, y2, y3, y4, y5, y6, y7⟩) (by rfl) ?_); intro w9 hm9 hg9 hs9; have Hm9 := Lib.hid hm9; have Hg9 := Lib.hid hg9; clear hm9 hg9 hs9)
        have hm9 := Hm9.out
        rw [show (⟨y2, y3, y4⟩ : K3) = keyH ⟨y1, y2, y3, y4, y5, y6, y7⟩ from rfl, setL_wa] at hm9
        have Hw9 := Lib.hid ((Hw6.out.drewN dq).turned Hg9.out hm9)
        have Hg10 := Lib.hid (grown_trans Hg6.out (grown_drewN Hg9.out))
        clear hm9
        go_wp2
        go_roundw
        case measure => simp [intOf]; omega
        case rel => exact ⟨k + 1, hlt, by go_num, by rw [HZ.out, Hq2.out]; exact Hw9.out, Hg10.out⟩
      · skip
        have his : is = true := by rw [← His.out]; unfold keyH at q1; simp only at q1; rw [q1]; rfl
        have hux : (⟨u1, u2, u3, u4, u5, u6, u7⟩ : Hd) = x := by rw [← Hu.out]; unfold keyH at q1; simp only at q1; rw [q1]; rfl
        subst hux
        obtain ⟨m, hm⟩ : ∃ m, newerI ⟨y1, y2, y3, y4, y5, y6, y7⟩ ⟨u1, u2, u3, u4, u5, u6, u7⟩ = m := ⟨_, rfl⟩
        have hua := HMk.out _ (getH_mem q1).1
        rw [hm] at q2
        have Hm := Lib.hid hm
        have Hua := Lib.hid hua
        have Hq2 := Lib.hid q3
        subst his
        clear q1 q3 hm hua
        go_wp2_with fail
        with_reducible refine Calls.mono (newer_any _ _ _ _ _ _ _ _ _ _ _ _ _ _ _ Hhk.out.lo Hhk.out.hi Hua.out.lo Hua.out.hi Hm.out) ?_
        rintro r w8 ⟨rfl, hb8⟩
        have hk8 := Hk6.out.below hb8 Hk6.out.lt
        have hh8 := Hh6.out.below hb8 Hh6.out.lt
        have hw8 := Hw6.out.keep hb8
        have Hg8 := Lib.hid (grown_below Hg6.out hb8)
        obtain ⟨p0, p1, p2, p3⟩ : _ ∧ _ ∧ _ ∧ _ := ⟨hk8.cell 0, hk8.cell 1, hk8.cell 2, hw8.ptr.cell 0⟩
        simp only [List.getElem?_toArray, List.getElem?_cons_zero, List.getElem?_cons_succ] at p0 p1 p2 p3
        obtain ⟨m0, m1, m2, m3, m4, m5, m6, -⟩ := hh8.both7
        have Hw8 := Lib.hid hw8
        clear hb8 hk8 hh8 hw8 z0 z1 z2 z3 a0 a1 a2 a3 a4 a5 a6 b0 b1 b2 b3 b4 b5 b6
        go_wp2_with fail
        refine wp_drew_tail 6 (by kernel_rfl) (by kernel_rfl) ?_
        simp only [List.take_succ_cons, List.take_zero, List.drop_succ_cons, List.drop_zero]
        repeat (go_big_quiet_step (fail))
        refine wpQuiet_nil ?_
        rintro w7 ⟨dq, rfl⟩
        have HM := Lib.hid (Hw8.out.drewN dq).map
        go_wp2_with (at_mapUpdate; (refine wpList_update_st _ (by rfl) _ _ _ 97 (by rfl) 85 34 keyK3 Try.underlying97 (by rfl) HM.out ⟨y2, y3, y4⟩ (by rfl) (aggH ⟨y1, y2, y3, y4, y5, y6, y7⟩) (by rfl) ?_); intro w9 hm9 hg9 hs9; have Hm9 := Lib.hid hm9; have Hg9 := Lib.hid hg9; clear hm9 hg9 hs9)
        have hm9 := Hm9.out
        rw [show (⟨y2, y3, y4⟩ : K3) = keyH ⟨y1, y2, y3, y4, y5, y6, y7⟩ from rfl, setL_wa] at hm9
        have Hw9 := Lib.hid ((Hw8.out.drewN dq).turned Hg9.out hm9)
        have Hg10 := Lib.hid (grown_trans Hg8.out (grown_drewN Hg9.out))
        clear hm9
        go_wp2
        go_roundw
        case measure => simp [intOf]; omega
        case rel => exact ⟨k + 1, hlt, by go_num, by rw [HZ.out, Hq2.out]; exact Hw9.out, Hg10.out⟩
      · skip
        have his : is = true := by rw [← His.out]; unfold keyH at q1; simp only at q1; rw [q1]; rfl
        have hux : (⟨u1, u2, u3, u4, u5, u6, u7⟩ : Hd) = x := by rw [← Hu.out]; unfold keyH at q1; simp only at q1; rw [q1]; rfl
        subst hux
        obtain ⟨m, hm⟩ : ∃ m, newerI ⟨y1, y2, y3, y4, y5, y6, y7⟩ ⟨u1, u2, u3, u4, u5, u6, u7⟩ = m := ⟨_, rfl⟩
        have hua := HMk.out _ (getH_mem q1).1
        rw [hm] at q2
        have Hm := Lib.hid hm
        have Hua := Lib.hid hua
        have Hq2 := Lib.hid q3
        subst his
        clear q1 q3 hm hua
        go_wp2_with fail
        with_reducible refine Calls.mono (newer_any _ _ _ _ _ _ _ _ _ _ _ _ _ _ _ Hhk.out.lo Hhk.out.hi Hua.out.lo Hua.out.hi Hm.out) ?_
        rintro r w8 ⟨rfl, hb8⟩
        have hk8 := Hk6.out.below hb8 Hk6.out.lt
        have hh8 := Hh6.out.below hb8 Hh6.out.lt
        have hw8 := Hw6.out.keep hb8
        have Hg8 := Lib.hid (grown_below Hg6.out hb8)
        obtain ⟨p0, p1, p2, p3⟩ : _ ∧ _ ∧ _ ∧ _ := ⟨hk8.cell 0, hk8.cell 1, hk8.cell 2, hw8.ptr.cell 0⟩
        simp only [List.getElem?_toArray, List.getElem?_cons_zero, List.getElem?_cons_succ] at p0 p1 p2 p3
        obtain ⟨m0, m1, m2, m3, m4, m5, m6, -⟩ := hh8.both7
        have Hw8 := Lib.hid hw8
        clear hb8 hk8 hh8 hw8 z0 z1 z2 z3 a0 a1 a2 a3 a4 a5 a6 b0 b1 b2 b3 b4 b5 b6
        go_wp2_with fail
        go_roundw
        case measure => simp [intOf]; omega
        case rel => exact ⟨k + 1, hlt, by go_num, by rw [HZ.out, Hq2.out]; exact Hw8.out, Hg8.out⟩
    · have hkk : k = L.length := by omega
      subst hkk
      rw [List.take_length] at hwa
      have hcell := hwa.ptr.cell 0
      simp only [List.getElem?_toArray, List.getElem?_cons_zero] at hcell
      have Hwa := Lib.hid hwa
      have Hg := Lib.hid hg
      have hL : (waL (addAllM M L)).length = (addAllM M L).length := by simp [waL]
      have hl := fun t => Hwa.out.map.len_run (P := Try.prog) Try.underlying97 t
      rw [hL] at hl
      clear hwa hg hL
      go_wp2
      go_ret
      exact ⟨rfl, Hwa.out, Hg.out⟩
def addAllD (L K : List Hd) : List Hd := K.foldl (addD newerI) L
theorem addAllD_succ (L K : List Hd) (k : Nat) (hk : k < K.length) : addAllD L (K.take (k + 1)) = addD newerI (addAllD L (K.take k)) K[k] := by
  unfold addAllD
  rw [List.take_succ_eq_append_getElem hk, List.foldl_append]
  rfl
theorem addAll_eq {M L : List Hd} (h : WEq M L) (K : List Hd) : WEq (addAllM M K) (addAllD L K) := by
  induction K generalizing M L with
  | nil => exact h
  | cons x K ih => exact ih (h.add newerI x)

end Go.Proofs.Ytpnbibokddhheaa

/-
  Layer 13: the heads that are told: the program's way.
-/
namespace Go.Proofs.Ytpnbibokddhheaa
open Go.RowKit Go.Sort

theorem infoHd13 : (Try.prog.info? 34).map (fun i => (i.zero, i.size, i.bytes)) = some (some (.agg #[.int .i64 0, .int .i64 0, .int .i64 0, .int .i64 0, .int .i64 0, .int .i64 0, .int .i64 0]), 7, 56) := by kernel_rfl
theorem onesHd13 (x : Hd) : ∀ u ∈ Hd.cells x, u.oneCell' = true := by
  intro u hu
  simp [Hd.cells] at hu
  rcases hu with rfl | rfl | rfl | rfl | rfl | rfl | rfl <;> rfl
/-- the heads of what isn't gone -/
def headsOf (l : List Lsa) : List Hd := (l.filter fun x => decide (x.head.age ≠ 60)).map fun x => x.head
theorem heads_more {l : List Lsa} {k : Nat} (hk : k < l.length) : headsOf (l.take (k + 1)) = headsOf (l.take k) ++ if l[k].head.age = 60 then [] else [l[k].head] := by
  unfold headsOf
  rw [List.take_succ_eq_append_getElem hk, List.filter_append, List.map_append]
  congr 1
  by_cases h : l[k].head.age = 60 <;> simp [h]
theorem heads_len (l : List Lsa) : (headsOf l).length ≤ l.length := by
  unfold headsOf
  rw [List.length_map]
  exact List.length_filter_le _ _
/-- a summary, in memory -/
structure SmAt (W : World) (s : Nat) (v : Value) (at_ : Int) (H : List Hd) : Prop where
  ptr : Blk W s 81 #[v, .int .i64 at_]
  own : OwnR 34 7 Hd.cells W (s + 1) v H
theorem SmAt.keep {W W' : World} {s : Nat} {v : Value} {at_ : Int} {H : List Hd} (h : SmAt W s v at_ H) (hb : Below W.heap.size W W') : SmAt W' s v at_ H := ⟨h.ptr.below hb h.ptr.lt, h.own.below hb⟩

set_option maxHeartbeats 8000000 in
set_option maxRecDepth 100000 in
theorem SuNew_any (A : Option Addr) (c : Nat) (l : List Lsa) (w : World) (B : Nat) (h : RowsAt 9 Lsa.cells w B A l) (hB : B ≤ w.heap.size) (hm : l.length ≤ 2 ^ 20) (nn : Nat) (hnn : nn = l.length) (K : List Hd)
    (HS : ∀ W v, OwnR 34 7 Hd.cells W (w.heap.size + 1) v (headsOf l) → Calls Try.prog 44 #[v, .func (.func 45) #[] #[]] W fun r W' => r = .returned (.tuple #[]) ∧ OwnR 34 7 Hd.cells W' (w.heap.size + 1) v K ∧ W.grownBy W' v.ownBlock) :
    Calls Try.prog 10 #[.slice A nn c] w fun r w' => r = .returned (.pointer (some ⟨w.heap.size, 0, none⟩)) ∧ (∃ v, SmAt w' w.heap.size v 0 K) ∧ Below w.heap.size w w' := by
  subst hnn
  obtain ⟨s, hs⟩ : ∃ s, w.heap.size = s := ⟨_, rfl⟩
  have HL := Lib.hid h
  have HSo := Lib.hid HS
  have Hs := Lib.hid (show w.heap.size ≤ s by omega)
  have hm' : (l.length : Int) ≤ 9223372036854775807 := by omega
  obtain ⟨w1, hw1⟩ : ∃ w1, w.alloc (.cells #[.slice none 0 0, .int .i64 0] 81) = w1 := ⟨_, rfl⟩
  have hk1 := Blk.new w 81 #[.slice none 0 0, .int .i64 0]
  have hb1 := below_new w (.cells #[.slice none 0 0, .int .i64 0] 81)
  rw [hw1, hs] at hk1
  rw [hw1] at hb1
  have S1 := Lib.hid (show SmAt w1 s (.slice none 0 0) 0 [] from ⟨hk1, OwnR.nil _ _⟩)
  have B1 := Lib.hid hb1
  clear h HS hk1 hb1
  go_enter Try.func10, Try.ntmps10
  go_wp2
  go_loopw [10] (fun i wr => ∃ (k : Nat) (v : Value), i = .int .i64 k ∧ k ≤ l.length ∧ SmAt wr s v 0 (headsOf (l.take k)) ∧ Below w.heap.size w wr) (fun i _ => l.length - (intOf i).toNat)
  case atStart => exact ⟨0, _, rfl, Nat.zero_le _, S1.out, B1.out⟩
  case round =>
    obtain ⟨k, v, rfl, hk, hsm, hb⟩ := hrel
    clear S1 B1
    by_cases hlt : k < l.length
    · obtain ⟨g, o, hA, -, x0, x1, x2, x3, x4, x5, x6, x7, x8⟩ := row_lsa9b (HL.out.below (hb.mono hB)) k hlt
      have hkl : (k : Int) < (l.length : Int) := by omega
      have hmore := heads_more hlt
      have HA := Lib.hid hA
      rw [hA]
      have Hlt := Lib.hid hlt
      generalize l[k] = x at *
      obtain ⟨⟨y1, y2, y3, y4, y5, y6, y7⟩, ka, kc, ls, ma, mc, ms⟩ := x
      simp only at x0 x1 x2 x3 x4 x5 x6 x7 x8 hmore
      obtain ⟨nl, hnl⟩ : ∃ nl, ls.length = nl := ⟨_, rfl⟩
      obtain ⟨nm, hnm⟩ : ∃ nm, ms.length = nm := ⟨_, rfl⟩
      rw [hnl] at x7
      rw [hnm] at x8
      have HHl := Lib.hid (show (headsOf (l.take k)).length ≤ 2 ^ 20 from Nat.le_trans (heads_len _) (by rw [List.length_take]; omega))
      have Hmore := Lib.hid hmore
      obtain ⟨H, hH⟩ : ∃ H, headsOf (l.take k) = H := ⟨_, rfl⟩
      rw [hH] at hsm HHl Hmore
      clear hmore hH
      obtain ⟨A7, c7, hv7⟩ := hsm.own.shape
      subst hv7
      obtain ⟨w8, hw8⟩ : ∃ w8, wr.alloc (.cells #[.int .i64 y1, .int .i64 y2, .int .i64 y3, .int .i64 y4, .int .i64 y5, .int .i64 y6, .int .i64 y7, .slice ka nl kc, .slice ma nm mc] 38) = w8 := ⟨_, rfl⟩
      obtain ⟨g8, hg8⟩ : ∃ g8, wr.heap.size = g8 := ⟨_, rfl⟩
      have hk8 := Blk.new wr 38 #[.int .i64 y1, .int .i64 y2, .int .i64 y3, .int .i64 y4, .int .i64 y5, .int .i64 y6, .int .i64 y7, .slice ka nl kc, .slice ma nm mc]
      have hb8 := below_new wr (.cells #[.int .i64 y1, .int .i64 y2, .int .i64 y3, .int .i64 y4, .int .i64 y5, .int .i64 y6, .int .i64 y7, .slice ka nl kc, .slice ma nm mc] 38)
      rw [hw8, hg8] at hk8
      rw [hw8] at hb8
      have K8 := Lib.hid hk8
      have S8 := Lib.hid (hsm.keep hb8)
      have B8 := Lib.hid (below_trans hb hb.size hb8)
      have Hg8 := Lib.hid (show (Value.slice A7 H.length c7).ownBlock ≠ some g8 from fun e => by have := (hsm.own.block _ e).2; omega)
      obtain ⟨z0, z1, z2, z3, z4, z5, z6, z7, z8, zf⟩ := blk9 hk8
      by_cases h60 : y1 = 60
      · subst h60
        rw [if_pos rfl, List.append_nil] at Hmore
        clear hnl hnm hA hlt hk8 hb8 hk hsm hb
        go_wp2
        go_roundw
        case measure => have := Hlt.out; simp only [intOf]; omega
        case rel => exact ⟨k + 1, _, by go_num, Hlt.out, by rw [Hmore.out]; exact S8.out, B8.out⟩
      · rw [if_neg h60] at Hmore
        have FF := Lib.hid (show ∀ W, Blk W s 81 #[.slice A7 H.length c7, .int .i64 0] → Blk W g8 38 #[.int .i64 y1, .int .i64 y2, .int .i64 y3, .int .i64 y4, .int .i64 y5, .int .i64 y6, .int .i64 y7, .slice ka nl kc, .slice ma nm mc] → (W.cell? ⟨s, 0, none⟩ = some (.slice A7 H.length c7) ∧ W.cell? ⟨g8, 0, none⟩ = some (.int .i64 y1) ∧ W.cell? ⟨g8, 1, none⟩ = some (.int .i64 y2) ∧ W.cell? ⟨g8, 2, none⟩ = some (.int .i64 y3) ∧ W.cell? ⟨g8, 3, none⟩ = some (.int .i64 y4) ∧ W.cell? ⟨g8, 4, none⟩ = some (.int .i64 y5) ∧ W.cell? ⟨g8, 5, none⟩ = some (.int .i64 y6) ∧ W.cell? ⟨g8, 6, none⟩ = some (.int .i64 y7)) from
          fun W h1 h2 => ⟨h1.cell 0, h2.cell 0, h2.cell 1, h2.cell 2, h2.cell 3, h2.cell 4, h2.cell 5, h2.cell 6⟩)
        clear hnl hnm hA hlt hk8 hb8 hk hsm hb
        go_wp2
        refine wp_region_F (F := fun W => W.cell? ⟨s, 0, none⟩ = some (.slice A7 H.length c7) ∧ W.cell? ⟨g8, 0, none⟩ = some (.int .i64 y1) ∧ W.cell? ⟨g8, 1, none⟩ = some (.int .i64 y2) ∧ W.cell? ⟨g8, 2, none⟩ = some (.int .i64 y3) ∧ W.cell? ⟨g8, 3, none⟩ = some (.int .i64 y4) ∧ W.cell? ⟨g8, 4, none⟩ = some (.int .i64 y5) ∧ W.cell? ⟨g8, 5, none⟩ = some (.int .i64 y6) ∧ W.cell? ⟨g8, 6, none⟩ = some (.int .i64 y7)) (n := 11) (m := 12) (s := #[false, false, false, false, false, false, false, false, false, false, false, false]) (by kernel_rfl) (by kernel_rfl) (by kernel_rfl) ?_
        intro wd hwd
        have hbd : Below w8.heap.size w8 wd := by rw [hwd.out]; exact (Below.refl _ _).drew
        have S9 := S8.out.keep hbd
        have B9 := below_trans B8.out B8.out.size hbd
        have hF := FF.out wd S9.ptr (K8.out.below hbd K8.out.lt)
        have K9 := K8.out.below hbd K8.out.lt
        clear hwd hbd
        refine F_take (i := 0) (d := some 18) (by kernel_rfl) (by kernel_rfl) (by decide) (s' := #[true, false, false, false, false, false, false, false, false, false, false, false]) (by kernel_rfl) rfl rfl (by kernel_rfl) (by kernel_rfl) (by kernel_rfl) (fun _ _ _ h => h) (Or.inl ⟨by kernel_rfl, fun W hW => by obtain ⟨c0, x0, x1, x2, x3, x4, x5, x6⟩ := hW; go_simp; try with_reducible rfl⟩) hF ?_
        go_frame
        refine F_take (i := 1) (d := some 19) (by kernel_rfl) (by kernel_rfl) (by decide) (s' := #[true, true, false, false, false, false, false, false, false, false, false, false]) (by kernel_rfl) rfl rfl (by kernel_rfl) (by kernel_rfl) (by kernel_rfl) (fun _ _ _ h => h) (Or.inl ⟨by kernel_rfl, fun W hW => by obtain ⟨c0, x0, x1, x2, x3, x4, x5, x6⟩ := hW; go_simp; try with_reducible rfl⟩) hF ?_
        go_frame
        refine F_take (i := 2) (d := some 20) (by kernel_rfl) (by kernel_rfl) (by decide) (s' := #[true, true, true, false, false, false, false, false, false, false, false, false]) (by kernel_rfl) rfl rfl (by kernel_rfl) (by kernel_rfl) (by kernel_rfl) (fun _ _ _ h => h) (Or.inl ⟨by kernel_rfl, fun W hW => by obtain ⟨c0, x0, x1, x2, x3, x4, x5, x6⟩ := hW; go_simp; try with_reducible rfl⟩) hF ?_
        go_frame
        refine F_take (i := 3) (d := some 21) (by kernel_rfl) (by kernel_rfl) (by decide) (s' := #[true, true, true, true, false, false, false, false, false, false, false, false]) (by kernel_rfl) rfl rfl (by kernel_rfl) (by kernel_rfl) (by kernel_rfl) (fun _ _ _ h => h) (Or.inl ⟨by kernel_rfl, fun W hW => by obtain ⟨c0, x0, x1, x2, x3, x4, x5, x6⟩ := hW; go_simp; try with_reducible rfl⟩) hF ?_
        go_frame
        refine F_take (i := 4) (d := some 22) (by kernel_rfl) (by kernel_rfl) (by decide) (s' := #[true, true, true, true, true, false, false, false, false, false, false, false]) (by kernel_rfl) rfl rfl (by kernel_rfl) (by kernel_rfl) (by kernel_rfl) (fun _ _ _ h => h) (Or.inl ⟨by kernel_rfl, fun W hW => by obtain ⟨c0, x0, x1, x2, x3, x4, x5, x6⟩ := hW; go_simp; try with_reducible rfl⟩) hF ?_
        go_frame
        refine F_take (i := 5) (d := some 23) (by kernel_rfl) (by kernel_rfl) (by decide) (s' := #[true, true, true, true, true, true, false, false, false, false, false, false]) (by kernel_rfl) rfl rfl (by kernel_rfl) (by kernel_rfl) (by kernel_rfl) (fun _ _ _ h => h) (Or.inl ⟨by kernel_rfl, fun W hW => by obtain ⟨c0, x0, x1, x2, x3, x4, x5, x6⟩ := hW; go_simp; try with_reducible rfl⟩) hF ?_
        go_frame
        refine F_take (i := 6) (d := some 24) (by kernel_rfl) (by kernel_rfl) (by decide) (s' := #[true, true, true, true, true, true, true, false, false, false, false, false]) (by kernel_rfl) rfl rfl (by kernel_rfl) (by kernel_rfl) (by kernel_rfl) (fun _ _ _ h => h) (Or.inl ⟨by kernel_rfl, fun W hW => by obtain ⟨c0, x0, x1, x2, x3, x4, x5, x6⟩ := hW; go_simp; try with_reducible rfl⟩) hF ?_
        go_frame
        refine F_one (i := 7) (s' := #[true, true, true, true, true, true, true, true, false, false, false, false]) (by kernel_rfl) (by kernel_rfl) (wpOp_valueL (i := 7) (d := some 25) (w' := wd.alloc (.cells #[.int .i64 y1, .int .i64 y2, .int .i64 y3, .int .i64 y4, .int .i64 y5, .int .i64 y6, .int .i64 y7] 34)) (v := .slice (some ⟨wd.heap.size, 0, none⟩) 1 1) rfl rfl (by kernel_rfl) (by go_simp) ⟨fun _ => FF.out _ (S9.ptr.alloc _) (K9.alloc _), ?_⟩)
        go_frame
        obtain ⟨v5, w5, hrun, hown5, hg5, hor5⟩ := app_row_run (e := 34) (sl := 27) Hd.cells (fun _ => rfl) (by decide) (bytes := 56) (by decide) infoHd13 rfl Try.underlying27 onesHd13 27 (s + 1) (.slice A7 H.length c7) H (S9.own.alloc (.cells #[.int .i64 y1, .int .i64 y2, .int .i64 y3, .int .i64 y4, .int .i64 y5, .int .i64 y6, .int .i64 y7] 34)) wd.heap.size ⟨y1, y2, y3, y4, y5, y6, y7⟩ (Blk.new wd _ _) (by have := HHl.out; omega) (by have := S9.ptr.lt; simp; omega)
        have hs5 := (S9.ptr.alloc (.cells #[.int .i64 y1, .int .i64 y2, .int .i64 y3, .int .i64 y4, .int .i64 y5, .int .i64 y6, .int .i64 y7] 34)).grown hg5 (fun e => by have := (S9.own.block s e.symm).1; omega)
        have hk5 := (K9.alloc (.cells #[.int .i64 y1, .int .i64 y2, .int .i64 y3, .int .i64 y4, .int .i64 y5, .int .i64 y6, .int .i64 y7] 34)).grown hg5 (fun e => Hg8.out e.symm)
        refine F_one (i := 8) (s' := #[true, true, true, true, true, true, true, true, true, false, false, false]) (by kernel_rfl) (by kernel_rfl) (wpOp_appendL (i := 8) (d := some 26) (t := 27) rfl rfl rfl (by kernel_rfl) rfl (by rfl) (by rfl) hrun ⟨fun _ => FF.out _ hs5 hk5, ?_⟩)
        go_frame
        have hF5 := FF.out w5 hs5 hk5
        refine F_take (i := 9) (d := some 27) (by kernel_rfl) (by kernel_rfl) (by decide) (s' := #[true, true, true, true, true, true, true, true, true, true, false, false]) (by kernel_rfl) rfl rfl (by kernel_rfl) (by kernel_rfl) (by kernel_rfl) (fun _ _ _ h => h) (Or.inl ⟨by kernel_rfl, fun W hW => by obtain ⟨c0, x0, x1, x2, x3, x4, x5, x6⟩ := hW; go_simp; try with_reducible rfl⟩) hF5 ?_
        go_frame
        refine F_take (i := 10) (d := some 28) (by kernel_rfl) (by kernel_rfl) (by decide) (s' := #[true, true, true, true, true, true, true, true, true, true, true, false]) (by kernel_rfl) rfl rfl (by kernel_rfl) (by kernel_rfl) (by kernel_rfl) (fun _ _ _ h => h) (Or.inl ⟨by kernel_rfl, fun W hW => by obtain ⟨c0, x0, x1, x2, x3, x4, x5, x6⟩ := hW; go_simp; try with_reducible rfl⟩) hF5 ?_
        go_frame
        obtain ⟨A5, c5, hv5⟩ := hown5.shape
        subst hv5
        obtain ⟨n5, hn5⟩ : ∃ n5, (H ++ [(⟨y1, y2, y3, y4, y5, y6, y7⟩ : Hd)]).length = n5 := ⟨_, rfl⟩
        rw [hn5] at hown5 hor5 ⊢
        have hsf := hs5.frozen 0
        have hsc := hs5.cell 0
        simp only [List.getElem?_toArray, List.getElem?_cons_zero] at hsc
        refine F_one (i := 11) (s' := #[true, true, true, true, true, true, true, true, true, true, true, true]) (by kernel_rfl) (by kernel_rfl) (wpOp_skipL (i := 11) (w' := w5.setCell ⟨s, 0, none⟩ (.slice A5 n5 c5)) rfl rfl (by kernel_rfl) (by go_simp) ⟨fun h => absurd h (by decide), ?_⟩)
        go_frame
        refine F_done (by kernel_rfl) ?_ _
        have hblk5 : Blk (w5.setCell ⟨s, 0, none⟩ (.slice A5 n5 c5)) s 81 #[.slice A5 n5 c5, .int .i64 0] := by simpa using hs5.set_ 0 (.slice A5 n5 c5)
        have S10 := Lib.hid (show SmAt (w5.setCell ⟨s, 0, none⟩ (.slice A5 n5 c5)) s (.slice A5 n5 c5) 0 (H ++ [⟨y1, y2, y3, y4, y5, y6, y7⟩]) from ⟨hblk5, hown5.set_ (by simp) _⟩)
        have B10 := Lib.hid (show Below w.heap.size w (w5.setCell ⟨s, 0, none⟩ (.slice A5 n5 c5)) from ((B9.alloc B9.size (.cells #[.int .i64 y1, .int .i64 y2, .int .i64 y3, .int .i64 y4, .int .i64 y5, .int .i64 y6, .int .i64 y7] 34)).grown hg5 (by have := B9.size; simp; omega) (fun m e => by have := (S9.own.block m e).1; have := Hs.out; omega)).setCell (p := ⟨s, 0, none⟩) (by have := Hs.out; simpa using this) _)
        clear hblk5 hs5 hk5 hown5 hor5 hg5 hrun hF S9 K9 B9 hsf hsc hn5
        go_wp2
        go_roundw
        case measure => have := Hlt.out; simp only [intOf]; omega
        case rel => exact ⟨k + 1, _, by go_num, Hlt.out, by rw [Hmore.out]; exact S10.out, B10.out⟩
    · have hke : k = l.length := by omega
      subst hke
      have hkl : ¬ (l.length : Int) < (l.length : Int) := by omega
      rw [List.take_length] at hsm
      obtain ⟨A7, c7, hv7⟩ := hsm.own.shape
      subst hv7
      have S8 := Lib.hid hsm
      have B8 := Lib.hid hb
      have hcell := hsm.ptr.cell 0
      simp only [List.getElem?_toArray, List.getElem?_cons_zero] at hcell
      obtain ⟨nh, hnh⟩ : ∃ nh, (headsOf l).length = nh := ⟨_, rfl⟩
      rw [hnh] at hcell
      have hS := HSo.out wr _ (by have := S8.out.own; rw [← hs] at this; exact this)
      rw [hnh] at hS
      have HS2 := Lib.hid hS
      have Hnh := Lib.hid hnh
      clear hsm hb hlt hS hnh
      go_wp2_with fail
      with_reducible refine Calls.mono HS2.out ?_
      rintro r w9 ⟨rfl, hown9, hg9⟩
      have hown8 := S8.out.own
      have hptr8 := S8.out.ptr
      rw [Hnh.out] at hown8 hptr8
      have S9 := Lib.hid (show SmAt w9 s (.slice A7 nh c7) 0 K from ⟨hptr8.grown hg9 (fun e => by have := (hown8.block s e.symm).1; omega), by rw [← hs]; exact hown9⟩)
      have B9 := Lib.hid (show Below w.heap.size w w9 from B8.out.grown hg9 B8.out.size (fun m e => by have := (hown8.block m e).1; omega))
      clear hown9 hg9 hown8 hptr8
      go_wp2
      go_ret
      exact ⟨by rw [hs]; rfl, ⟨_, by rw [hs]; exact S9.out⟩, B9.out⟩

end Go.Proofs.Ytpnbibokddhheaa

/-
  Layer 13: a piece of a summary; the methods of one that is not there.
-/
namespace Go.Proofs.Ytpnbibokddhheaa
open Go.RowKit Go.Sort

theorem SuPiece_nil (w : World) : Calls Try.prog 13 #[.pointer none] w fun r w' => r = .returned (.slice none 0 0) ∧ Below w.heap.size w w' := by
  go_enter Try.func13, Try.ntmps13
  go_wp2
  go_ret
  exact ⟨rfl, Below.refl _ _⟩
theorem SuStep_nil (w : World) : Calls Try.prog 15 #[.pointer none] w fun r w' => r = .returned (.bool false) ∧ Below w.heap.size w w' := by
  go_enter Try.func15, Try.ntmps15
  go_wp2
  go_ret
  exact ⟨rfl, Below.refl _ _⟩
set_option maxRecDepth 100000 in
theorem SuMore_nil (w : World) : Calls Try.prog 14 #[.pointer none] w fun r w' => r = .returned (.bool false) ∧ Below w.heap.size w w' := by
  go_enter Try.func14, Try.ntmps14
  go_wp2_with fail
  refine wp_drew_tail 15 (by kernel_rfl) (by kernel_rfl) ?_
  simp only [List.take_succ_cons, List.take_zero, List.drop_succ_cons, List.drop_zero]
  repeat (go_big_quiet_step (fail))
  refine wpQuiet_nil ?_
  rintro w3 ⟨dq, rfl⟩
  go_wp2
  go_ret
  exact ⟨rfl, below_drewN (Below.refl _ _) dq⟩
set_option maxHeartbeats 4000000 in
set_option maxRecDepth 100000 in
theorem SuPiece_one (s : Nat) (v : Value) (x : Hd) (w : World) (h : SmAt w s v 0 [x]) : Calls Try.prog 13 #[.pointer (some ⟨s, 0, none⟩)] w fun r w' => (∃ u, r = .returned u ∧ OwnR 34 7 Hd.cells w' w.heap.size u [x]) ∧ Below w.heap.size w w' := by
  obtain ⟨g, cap, hc, hv⟩ : ∃ g c, 1 ≤ c ∧ v = .slice (some ⟨g, 0, none⟩) 1 c := by
    rcases h.own.shape2 with ⟨-, hl⟩ | ⟨g, c5, rfl, hc5⟩
    · cases hl
    · exact ⟨g, c5, hc5, rfl⟩
  subst hv
  have HS := Lib.hid h
  obtain ⟨c0, c1⟩ : _ ∧ _ := ⟨h.ptr.cell 0, h.ptr.cell 1⟩
  simp only [List.getElem?_toArray, List.getElem?_cons_zero, List.getElem?_cons_succ] at c0 c1
  have hcn : ¬ cap < 1 := by omega
  clear h
  go_enter Try.func13, Try.ntmps13
  go_wp2_with fail
  refine wp_drew_tail 19 (by kernel_rfl) (by kernel_rfl) ?_
  simp only [List.take_succ_cons, List.take_zero, List.drop_succ_cons, List.drop_zero]
  repeat (go_big_quiet_step (fail))
  refine wpQuiet_nil ?_
  rintro w3 ⟨dq, rfl⟩
  have HR := Lib.hid (show RowsAt 7 Hd.cells (w.drewN dq) (w.drewN dq).heap.size (some ⟨g, 0, none⟩) [x] from (OwnR.rows (C := 7) (cells := Hd.cells) (fun _ => rfl) HS.out.own).2)
  have HE := Lib.hid (OwnR.nil (e := 34) (C := 7) (cells := Hd.cells) (w.drewN dq) w.heap.size)
  go_wp2_with (at_builtin; (refine app_rows (e := 34) Hd.cells (fun _ => rfl) (by decide) (bytes := 56) (by decide) infoHd13 rfl Try.underlying27 onesHd13 (by rfl) _ _ (by rfl) w.heap.size _ [] (by rfl) HE.out (some ⟨g, 0, none⟩) _ 1 [x] rfl (by rfl) HR.out (by simp) (by simp [World.drewN]) ?_); intro v5 w5 hown5 hg5 hor5; have O5 := Lib.hid hown5; have G5 := Lib.hid hg5; clear hown5 hg5 hor5)
  obtain ⟨A5, c5, hv5⟩ := O5.out.shape
  subst hv5
  go_wp2
  go_ret
  exact ⟨⟨_, rfl, O5.out⟩, (below_drewN (Below.refl _ _) dq).grown G5.out (by simp [World.drewN]) (fun m e => by cases e)⟩

end Go.Proofs.Ytpnbibokddhheaa

/-
  A row of heads: a cell, or a head, of it set.
-/
namespace Go.Proofs.Ytpnbibokddhheaa
open Go.RowKit

theorem set_flatH13 (l : List Hd) (k : Nat) (c : Hd) (hk : k < l.length) :
    (l.set k c).flatMap Hd.cells = (((((((l.flatMap Hd.cells).set (k * 7) (.int .i64 c.age)).set (k * 7 + 1) (.int .i64 c.kind)).set (k * 7 + 2) (.int .i64 c.id)).set (k * 7 + 3) (.int .i64 c.adv)).set (k * 7 + 4) (.int .i64 c.seq)).set (k * 7 + 5) (.int .i64 c.sum)).set (k * 7 + 6) (.int .i64 c.long) := by
  induction l generalizing k with
  | nil => simp at hk
  | cons d l ih =>
    cases k with
    | zero => simp [Hd.cells]
    | succ k =>
      have h := ih k (by simpa using hk)
      simp only [List.set_cons_succ, List.flatMap_cons, h]
      have h4 : d.cells.length = 7 := rfl
      rw [List.set_append_right _ _ (by omega), List.set_append_right _ _ (by omega), List.set_append_right _ _ (by omega), List.set_append_right _ _ (by omega), List.set_append_right _ _ (by omega), List.set_append_right _ _ (by omega), List.set_append_right _ _ (by omega)]
      simp only [h4, show (k + 1) * 7 - 7 = k * 7 by omega, show (k + 1) * 7 + 1 - 7 = k * 7 + 1 by omega, show (k + 1) * 7 + 2 - 7 = k * 7 + 2 by omega, show (k + 1) * 7 + 3 - 7 = k * 7 + 3 by omega, show (k + 1) * 7 + 4 - 7 = k * 7 + 4 by omega, show (k + 1) * 7 + 5 - 7 = k * 7 + 5 by omega, show (k + 1) * 7 + 6 - 7 = k * 7 + 6 by omega]
section
variable {w : World} {B g cap n : Nat} {l : List Hd}
theorem OwnH13.set7 (h : OwnR 34 7 Hd.cells w B (.slice (some ⟨g, 0, none⟩) n cap) l) (hn : n = l.length) (k : Nat) (hk : k < l.length) (c : Hd) :
    OwnR 34 7 Hd.cells (((((((w.setCell ⟨g, k * 7, none⟩ (.int .i64 c.age)).setCell ⟨g, k * 7 + 1, none⟩ (.int .i64 c.kind)).setCell ⟨g, k * 7 + 2, none⟩ (.int .i64 c.id)).setCell ⟨g, k * 7 + 3, none⟩ (.int .i64 c.adv)).setCell ⟨g, k * 7 + 4, none⟩ (.int .i64 c.seq)).setCell ⟨g, k * 7 + 5, none⟩ (.int .i64 c.sum)).setCell ⟨g, k * 7 + 6, none⟩ (.int .i64 c.long)) B (.slice (some ⟨g, 0, none⟩) n cap) (l.set k c) := by
  subst hn
  unfold OwnR
  rw [set_flatH13 l k c hk, List.length_set]
  exact (((((((World.ownsRow.stored h (k * 7) (.int .i64 c.age)).1.stored (k * 7 + 1) (.int .i64 c.kind)).1.stored (k * 7 + 2) (.int .i64 c.id)).1.stored (k * 7 + 3) (.int .i64 c.adv)).1.stored (k * 7 + 4) (.int .i64 c.seq)).1.stored (k * 7 + 5) (.int .i64 c.sum)).1.stored (k * 7 + 6) (.int .i64 c.long)).1

end
section
variable {w w' : World} {B g cap n : Nat} {l : List Hd} {v0 : Value}
theorem OwnH13.frozen (h : OwnR 34 7 Hd.cells w B (.slice (some ⟨g, 0, none⟩) n cap) l) (i : Nat) : w.frozen? ⟨g, i, none⟩ = false := by
  rcases h.2 with ⟨hv, -⟩ | ⟨g', cap', cur, hv, -, hb, -⟩
  · cases hv
  · simp only [Value.slice.injEq, Option.some.injEq, Addr.mk.injEq, and_true] at hv
    obtain ⟨rfl, -, -⟩ := hv
    simp [World.frozen?, hb]
theorem grown7 (w : World) (g o : Nat) (a b c d e f x : Value) : w.grownBy (((((((w.setCell ⟨g, o, none⟩ a).setCell ⟨g, o + 1, none⟩ b).setCell ⟨g, o + 2, none⟩ c).setCell ⟨g, o + 3, none⟩ d).setCell ⟨g, o + 4, none⟩ e).setCell ⟨g, o + 5, none⟩ f).setCell ⟨g, o + 6, none⟩ x) (some g) :=
  (((((((World.grownBy.refl w (some g)).set rfl _).set rfl _).set rfl _).set rfl _).set rfl _).set rfl _).set rfl _
theorem below_set7k (h : Below B w w') (hg : B ≤ g) (o : Nat) (a b c d e f x : Value) : Below B w (((((((w'.setCell ⟨g, o, none⟩ a).setCell ⟨g, o + 1, none⟩ b).setCell ⟨g, o + 2, none⟩ c).setCell ⟨g, o + 3, none⟩ d).setCell ⟨g, o + 4, none⟩ e).setCell ⟨g, o + 5, none⟩ f).setCell ⟨g, o + 6, none⟩ x) :=
  ((((((h.setCell hg _).setCell hg _).setCell hg _).setCell hg _).setCell hg _).setCell hg _).setCell hg _
theorem row_own7 (h : OwnR 34 7 Hd.cells w B v0 l) (k : Nat) (hk : k < l.length) : ∃ g c, v0 = .slice (some ⟨g, 0, none⟩) l.length c ∧ w.cell? ⟨g, k * 7, none⟩ = some (.int .i64 l[k].age) ∧ w.cell? ⟨g, k * 7 + 1, none⟩ = some (.int .i64 l[k].kind) ∧ w.cell? ⟨g, k * 7 + 2, none⟩ = some (.int .i64 l[k].id) ∧ w.cell? ⟨g, k * 7 + 3, none⟩ = some (.int .i64 l[k].adv) ∧ w.cell? ⟨g, k * 7 + 4, none⟩ = some (.int .i64 l[k].seq) ∧ w.cell? ⟨g, k * 7 + 5, none⟩ = some (.int .i64 l[k].sum) ∧ w.cell? ⟨g, k * 7 + 6, none⟩ = some (.int .i64 l[k].long) := by
  rcases h.shape2 with ⟨-, hn⟩ | ⟨g, c, rfl, hc⟩
  · subst hn; simp at hk
  · obtain ⟨b, o, e, -, hcl⟩ := (OwnR.rows (C := 7) (cells := Hd.cells) (fun _ => rfl) h).2 (by omega)
    injection e with e
    injection e with e1 e2
    subst e1 e2
    have z := fun i u hi hu => hcl k hk i u hi hu
    simp only [Nat.zero_add] at z
    exact ⟨g, c, rfl, by simpa using z 0 _ (by omega) rfl, z 1 _ (by omega) rfl, z 2 _ (by omega) rfl, z 3 _ (by omega) rfl, z 4 _ (by omega) rfl, z 5 _ (by omega) rfl, z 6 _ (by omega) rfl⟩
theorem row_hd7 {A : Option Addr} (h : RowsAt 7 Hd.cells w B A l) (k : Nat) (hk : k < l.length) : ∃ b o, A = some ⟨b, o, none⟩ ∧ b < B ∧ w.cell? ⟨b, o + k * 7, none⟩ = some (.int .i64 l[k].age) ∧ w.cell? ⟨b, o + k * 7 + 1, none⟩ = some (.int .i64 l[k].kind) ∧ w.cell? ⟨b, o + k * 7 + 2, none⟩ = some (.int .i64 l[k].id) ∧ w.cell? ⟨b, o + k * 7 + 3, none⟩ = some (.int .i64 l[k].adv) ∧ w.cell? ⟨b, o + k * 7 + 4, none⟩ = some (.int .i64 l[k].seq) ∧ w.cell? ⟨b, o + k * 7 + 5, none⟩ = some (.int .i64 l[k].sum) ∧ w.cell? ⟨b, o + k * 7 + 6, none⟩ = some (.int .i64 l[k].long) := by
  obtain ⟨b, o, e, hb, hc⟩ := h (by omega)
  exact ⟨b, o, e, hb, by simpa using hc k hk 0 _ (by omega) rfl, hc k hk 1 _ (by omega) rfl, hc k hk 2 _ (by omega) rfl, hc k hk 3 _ (by omega) rfl, hc k hk 4 _ (by omega) rfl, hc k hk 5 _ (by omega) rfl, hc k hk 6 _ (by omega) rfl⟩
end

end Go.Proofs.Ytpnbibokddhheaa

/-
  More than a statement takes: each law's own word.
-/
namespace Go.Proofs.Ytpnbibokddhheaa
open Go.RowKit

def bigX (x : Lsa) : Bool := decide (20 < x.links.length) || decide (20 < x.members.length)
def manyB (k : Nat) (l : List Lsa) : Bool := l.any bigX || decide (k < l.length)
theorem manyB_lens {k : Nat} {l : List Lsa} (h : manyB k l = false) : l.length ≤ k ∧ ∀ x ∈ l, x.links.length ≤ 20 ∧ x.members.length ≤ 20 := by
  unfold manyB at h
  rw [Bool.or_eq_false_iff] at h
  refine ⟨by have := of_decide_eq_false h.2; omega, fun x hx => ?_⟩
  have := List.any_eq_false.1 h.1 x hx
  unfold bigX at this
  simp at this
  omega
theorem row_lsa9 {w : World} {B : Nat} {A : Option Addr} {l : List Lsa} (h : RowsAt 9 Lsa.cells w B A l) (k : Nat) (hk : k < l.length) :
    ∃ b o, A = some ⟨b, o, none⟩ ∧ b < B ∧ w.cell? ⟨b, o + k * 9, none⟩ = some (.int .i64 l[k].head.age) ∧ w.cell? ⟨b, o + k * 9 + 1, none⟩ = some (.int .i64 l[k].head.kind) ∧ w.cell? ⟨b, o + k * 9 + 2, none⟩ = some (.int .i64 l[k].head.id) ∧ w.cell? ⟨b, o + k * 9 + 3, none⟩ = some (.int .i64 l[k].head.adv) ∧ w.cell? ⟨b, o + k * 9 + 4, none⟩ = some (.int .i64 l[k].head.seq) ∧ w.cell? ⟨b, o + k * 9 + 5, none⟩ = some (.int .i64 l[k].head.sum) ∧ w.cell? ⟨b, o + k * 9 + 6, none⟩ = some (.int .i64 l[k].head.long) ∧
      w.cell? ⟨b, o + k * 9 + 7, none⟩ = some (.slice l[k].ka l[k].links.length l[k].kcap) ∧ w.cell? ⟨b, o + k * 9 + 8, none⟩ = some (.slice l[k].ma l[k].members.length l[k].mcap) := by
  obtain ⟨b, o, e, hb, hc⟩ := h (by omega)
  exact ⟨b, o, e, hb, by simpa using hc k hk 0 _ (by omega) rfl, hc k hk 1 _ (by omega) rfl, hc k hk 2 _ (by omega) rfl, hc k hk 3 _ (by omega) rfl, hc k hk 4 _ (by omega) rfl, hc k hk 5 _ (by omega) rfl, hc k hk 6 _ (by omega) rfl, hc k hk 7 _ (by omega) rfl, hc k hk 8 _ (by omega) rfl⟩
set_option maxHeartbeats 2000000 in
set_option maxRecDepth 100000 in
theorem many15 (A : Option Addr) (c : Nat) (l : List Lsa) (w : World) (B : Nat) (h : RowsAt 9 Lsa.cells w B A l) (hB : B ≤ w.heap.size) (hm : l.length ≤ maxLen) (n : Nat) (hn : n = l.length) {t : Bool} (ht : manyB 60 l = t) :
    Calls Try.prog 17 #[.slice A n c] w fun r w' => r = .returned (.bool t) ∧ Below w.heap.size w w' := by
  subst hn
  unfold maxLen at hm
  have H := Lib.hid (h.more hB)
  have Ht := Lib.hid ht
  clear h hB ht
  go_enter Try.func17, Try.ntmps17
  go_wp2
  go_loopw [7] (fun i wr => ∃ k : Nat, i = .int .i64 k ∧ k ≤ l.length ∧ (l.take k).any bigX = false ∧ Below w.heap.size w wr) (fun i _ => l.length - (intOf i).toNat)
  case atStart => exact ⟨0, rfl, Nat.zero_le _, rfl, Below.refl _ _⟩
  case round =>
    obtain ⟨k, rfl, hk, hany, hb⟩ := hrel
    by_cases hlt : k < l.length
    · obtain ⟨g, o, rfl, -, x0, x1, x2, x3, x4, x5, x6, x7, x8⟩ := row_lsa9 (H.out.below hb) k hlt
      have hkl : (k : Int) < (l.length : Int) := by omega
      have hsucc := List.take_succ_eq_append_getElem hlt
      have hmem := List.getElem_mem hlt
      obtain ⟨x, hx⟩ : ∃ x, l[k] = x := ⟨_, rfl⟩
      rw [hx] at x0 x1 x2 x3 x4 x5 x6 x7 x8 hsucc hmem
      obtain ⟨⟨y1, y2, y3, y4, y5, y6, y7⟩, ka, kc, ls, ma, mc, ms⟩ := x
      simp only at x0 x1 x2 x3 x4 x5 x6 x7 x8
      obtain ⟨nl, hnl⟩ : ∃ nl, ls.length = nl := ⟨_, rfl⟩
      obtain ⟨nm, hnm⟩ : ∃ nm, ms.length = nm := ⟨_, rfl⟩
      rw [hnl] at x7
      rw [hnm] at x8
      have Hb := Lib.hid hb
      have Hal := Lib.hid (fun o => hb.alloc hb.size o)
      by_cases h1 : bigX ⟨⟨y1, y2, y3, y4, y5, y6, y7⟩, ka, kc, ls, ma, mc, ms⟩ = true
      · have ht2 : t = true := by
          rw [← Ht.out]
          unfold manyB
          rw [List.any_eq_true.2 ⟨_, hmem, h1⟩]
          rfl
        have h2 : (20 : Int) < (nl : Int) ∨ (¬ (20 : Int) < (nl : Int) ∧ (20 : Int) < (nm : Int)) := by
          unfold bigX at h1
          simp only [Bool.or_eq_true, decide_eq_true_eq, hnl, hnm] at h1
          omega
        subst ht2
        clear h1 hb hany hx hsucc hmem hnl hnm
        rcases h2 with h2 | ⟨h2, h3⟩
        all_goals
          go_wp2
          go_ret
          exact ⟨rfl, Hal.out _⟩
      · have h2 : ¬ (20 : Int) < (nl : Int) ∧ ¬ (20 : Int) < (nm : Int) := by
          unfold bigX at h1
          simp only [Bool.or_eq_true, decide_eq_true_eq, hnl, hnm] at h1
          omega
        have Hany := Lib.hid (show (l.take (k + 1)).any bigX = false by rw [hsucc, List.any_append, hany]; simpa using h1)
        obtain ⟨h2, h3⟩ := h2
        clear h1 hb hany hx hsucc hmem hnl hnm
        go_wp2
        go_roundw
        case measure => simp [intOf]; omega
        case rel => exact ⟨k + 1, by go_num, hlt, Hany.out, Hal.out _⟩
    · have hkk : k = l.length := by omega
      subst hkk
      rw [List.take_length] at hany
      have ht2 : decide ((60 : Int) < (l.length : Int)) = t := by
        rw [← Ht.out]
        unfold manyB
        rw [hany, Bool.false_or, Bool.eq_iff_iff, decide_eq_true_eq, decide_eq_true_eq]
        omega
      have Ht2 := Lib.hid ht2
      have Hb := Lib.hid hb
      clear hb hany ht2
      go_wp2
      go_ret
      refine ⟨?_, Hb.out⟩
      rw [← Ht2.out]
      rfl
set_option maxHeartbeats 2000000 in
set_option maxRecDepth 100000 in
theorem many13 (A : Option Addr) (c : Nat) (l : List Lsa) (w : World) (B : Nat) (h : RowsAt 9 Lsa.cells w B A l) (hB : B ≤ w.heap.size) (hm : l.length ≤ maxLen) (n : Nat) (hn : n = l.length) {t : Bool} (ht : manyB 60 l = t) :
    Calls Try.prog 9 #[.slice A n c] w fun r w' => r = .returned (.bool t) ∧ Below w.heap.size w w' := by
  subst hn
  unfold maxLen at hm
  have H := Lib.hid (h.more hB)
  have Ht := Lib.hid ht
  clear h hB ht
  go_enter Try.func9, Try.ntmps9
  go_wp2
  go_loopw [7] (fun i wr => ∃ k : Nat, i = .int .i64 k ∧ k ≤ l.length ∧ (l.take k).any bigX = false ∧ Below w.heap.size w wr) (fun i _ => l.length - (intOf i).toNat)
  case atStart => exact ⟨0, rfl, Nat.zero_le _, rfl, Below.refl _ _⟩
  case round =>
    obtain ⟨k, rfl, hk, hany, hb⟩ := hrel
    by_cases hlt : k < l.length
    · obtain ⟨g, o, rfl, -, x0, x1, x2, x3, x4, x5, x6, x7, x8⟩ := row_lsa9 (H.out.below hb) k hlt
      have hkl : (k : Int) < (l.length : Int) := by omega
      have hsucc := List.take_succ_eq_append_getElem hlt
      have hmem := List.getElem_mem hlt
      obtain ⟨x, hx⟩ : ∃ x, l[k] = x := ⟨_, rfl⟩
      rw [hx] at x0 x1 x2 x3 x4 x5 x6 x7 x8 hsucc hmem
      obtain ⟨⟨y1, y2, y3, y4, y5, y6, y7⟩, ka, kc, ls, ma, mc, ms⟩ := x
      simp only at x0 x1 x2 x3 x4 x5 x6 x7 x8
      obtain ⟨nl, hnl⟩ : ∃ nl, ls.length = nl := ⟨_, rfl⟩
      obtain ⟨nm, hnm⟩ : ∃ nm, ms.length = nm := ⟨_, rfl⟩
      rw [hnl] at x7
      rw [hnm] at x8
      have Hb := Lib.hid hb
      have Hal := Lib.hid (fun o => hb.alloc hb.size o)
      by_cases h1 : bigX ⟨⟨y1, y2, y3, y4, y5, y6, y7⟩, ka, kc, ls, ma, mc, ms⟩ = true
      · have ht2 : t = true := by
          rw [← Ht.out]
          unfold manyB
          rw [List.any_eq_true.2 ⟨_, hmem, h1⟩]
          rfl
        have h2 : (20 : Int) < (nl : Int) ∨ (¬ (20 : Int) < (nl : Int) ∧ (20 : Int) < (nm : Int)) := by
          unfold bigX at h1
          simp only [Bool.or_eq_true, decide_eq_true_eq, hnl, hnm] at h1
          omega
        subst ht2
        clear h1 hb hany hx hsucc hmem hnl hnm
        rcases h2 with h2 | ⟨h2, h3⟩
        all_goals
          go_wp2
          go_ret
          exact ⟨rfl, Hal.out _⟩
      · have h2 : ¬ (20 : Int) < (nl : Int) ∧ ¬ (20 : Int) < (nm : Int) := by
          unfold bigX at h1
          simp only [Bool.or_eq_true, decide_eq_true_eq, hnl, hnm] at h1
          omega
        have Hany := Lib.hid (show (l.take (k + 1)).any bigX = false by rw [hsucc, List.any_append, hany]; simpa using h1)
        obtain ⟨h2, h3⟩ := h2
        clear h1 hb hany hx hsucc hmem hnl hnm
        go_wp2
        go_roundw
        case measure => simp [intOf]; omega
        case rel => exact ⟨k + 1, by go_num, hlt, Hany.out, Hal.out _⟩
    · have hkk : k = l.length := by omega
      subst hkk
      rw [List.take_length] at hany
      have ht2 : decide ((60 : Int) < (l.length : Int)) = t := by
        rw [← Ht.out]
        unfold manyB
        rw [hany, Bool.false_or, Bool.eq_iff_iff, decide_eq_true_eq, decide_eq_true_eq]
        omega
      have Ht2 := Lib.hid ht2
      have Hb := Lib.hid hb
      clear hb hany ht2
      go_wp2
      go_ret
      refine ⟨?_, Hb.out⟩
      rw [← Ht2.out]
      rfl

end Go.Proofs.Ytpnbibokddhheaa

/-
  A description that was handed in.
-/
namespace Go.Proofs.Ytpnbibokddhheaa
open Go.ChangeShapes Go.WideShapes Go.RowKit Go.Deep Go.Joins

section
variable {H : Type} {enc : TypeId × Value → H} {w : World} {base : Nat} {spare : Nat → Bool} {held : Bool}
set_option maxRecDepth 100000 in
theorem open_lsa9 {r : Reach} {b0 : Nat} {v : Value} {d : DataW H} {p : List MemPlace} (hv : Value.okWide Try.prog w r b0 38 v) (h : DataW.Trod enc Try.prog w base spare held 38 v d p) :
    ∃ x : Lsa, v = .agg x.cells.toArray ∧ x.ok w w.heap.size := by
  obtain ⟨cs, rfl, _⟩ := okWide_struct Try.underlying38 hv
  obtain ⟨n, hn⟩ := h
  obtain ⟨x, he, hx⟩ := dec_lsa hn
  refine ⟨x, ?_, hx⟩
  congr 1
  exact Array.toList_inj.1 he
end

end Go.Proofs.Ytpnbibokddhheaa

/-
  A row of truths that was handed in.
-/
namespace Go.Proofs.Ytpnbibokddhheaa
open Go.ChangeShapes Go.WideShapes Go.RowKit Go.Deep Go.Joins

def tcell (b : Bool) : List Value := [.bool b]
section
variable {H : Type} {enc : TypeId × Value → H} {w : World} {base : Nat} {spare : Nat → Bool} {held : Bool}
theorem dec_tcell {n : Nat} {cs : List Value} {x : DataW H × List MemPlace} (h : DataW.trod enc Try.prog w base spare held n 4 cs = some x) : ∃ d : Bool, cs = tcell d ∧ True := by
  obtain ⟨b, e, _⟩ := DataW.trod_bool Try.underlying4 h
  exact ⟨b, e, trivial⟩
set_option maxRecDepth 100000 in
theorem open_bools {a : Option Addr} {len cap : Nat} {d : DataW H} {p : List MemPlace} (h : DataW.Trod enc Try.prog w base spare held 67 (.slice a len cap) d p) :
    ∃ l : List Bool, len = l.length ∧ RowsAt 1 tcell w w.heap.size a l ∧ l.length ≤ maxLen := by
  obtain ⟨n, hn⟩ := h
  obtain ⟨A, c, R, he, hr, hm, -⟩ := open_rows (C := 1) tcell (fun _ => True) (by decide) Try.underlying67 cofBool (fun _ _ _ h => dec_tcell h) hn
  simp [Value.cells] at he
  obtain ⟨rfl, rfl, rfl⟩ := he
  exact ⟨R, rfl, hr, hm⟩
end

end Go.Proofs.Ytpnbibokddhheaa
