/-
  Layer 20: how edges, and leaves, are compared; sorted.
-/
import Derived.Test.YtpfjgecdlilkcaaCmp2
import Derived.Test.YtpfjgecdlilkcaaCmpTail
import Derived.Test.YtpfjgecdlilkcaaGenSort
import Derived.Test.YtpfjgecdlilkcaaLaySortEdge
import Derived.Test.YtpfjgecdlilkcaaLaySortLeaf
import Derived.Test.YtpfjgecdlilkcaaGrPlain
namespace Go.Proofs.Ytpfjgecdlilkcaa
open Go.RowKit Go.Sort Go.Proofs

def cmpE (a b : Ed) : Int := orL [cmp2 a.fk a.fi b.fk b.fi, cmp2 a.tk a.ti b.tk b.ti]
def cmpF (a b : Lf) : Int := cmp2 a.router a.lan b.router b.lan
set_option maxHeartbeats 2000000 in
set_option maxRecDepth 100000 in
theorem compare_g (a1 a2 b1 b2 : Int) (w : World) : Calls Try.prog 40 #[.agg #[.int .i64 a1, .int .i64 a2], .agg #[.int .i64 b1, .int .i64 b2]] w fun r w' => r = .returned (.int .i64 (cmp2 a1 a2 b1 b2)) ∧ ∃ q os', w' = grow (w.drewN q) os' := by
  obtain ⟨w0, hW0⟩ : ∃ w0, (w.alloc (.cells #[.int .i64 a1, .int .i64 a2] 40)).alloc (.cells #[.int .i64 b1, .int .i64 b2] 40) = w0 := ⟨_, rfl⟩
  have hA : Blk w0 w.heap.size 40 #[.int .i64 a1, .int .i64 a2] := by rw [← hW0]; exact (Blk.new w _ _).alloc _
  have hB : Blk w0 (w.heap.size + 1) 40 #[.int .i64 b1, .int .i64 b2] := by rw [← hW0]; exact Blk.size (by simp)
  have Hg : Hid (∃ os, w0 = grow w os) := Lib.hid ⟨_, by rw [← hW0, alloc_eq_grow, alloc_eq_grow, grow_grow]⟩
  obtain ⟨a_0, a_1⟩ : _ ∧ _ := ⟨hA.cell 0, hA.cell 1⟩
  obtain ⟨b_0, b_1⟩ : _ ∧ _ := ⟨hB.cell 0, hB.cell 1⟩
  simp only [List.getElem?_toArray, List.getElem?_cons_zero, List.getElem?_cons_succ] at a_0 a_1 b_0 b_1
  clear hA hB
  go_enter Try.func40, Try.ntmps40
  go_wp2_with fail
  refine wp_drew_tail 10 (by kernel_rfl) (by kernel_rfl) ?_
  simp only [List.take_succ_cons, List.take_zero, List.drop_succ_cons, List.drop_zero]
  repeat (go_big_quiet_step (exact cmp_q _ _ _ _))
  refine wpQuiet_nil ?_
  rintro w3 ⟨dq, rfl⟩
  go_wp2_with (go_at_call 39; (with_reducible refine Calls.mono (or2_s _ _ _) ?_); rintro r w4 ⟨rfl, rfl⟩)
  go_ret
  obtain ⟨os, hos⟩ := Hg.out
  refine ⟨rfl, dq, os.push (.cells #[.int .i64 (cmpI a1 b1), .int .i64 (cmpI a2 b2)] 3), ?_⟩
  subst hos
  simp [grow, World.alloc, World.drewN]
theorem leavesCmp_any (a b : Lf) (w : World) : Calls Try.prog 48 #[.agg a.cells.toArray, .agg b.cells.toArray] w fun r w' => r = .returned (.int .i64 (cmpF a b)) ∧ ∃ q os', w' = grow (w.drewN q) os' := by
  obtain ⟨a1, a2, a3⟩ := a
  obtain ⟨b1, b2, b3⟩ := b
  unfold cmpF Lf.cells
  simp only
  obtain ⟨w0, hW0⟩ : ∃ w0, (w.alloc (.cells #[.int .i64 a1, .int .i64 a2, .int .i64 a3] 93)).alloc (.cells #[.int .i64 b1, .int .i64 b2, .int .i64 b3] 93) = w0 := ⟨_, rfl⟩
  have hA : Blk w0 w.heap.size 93 #[.int .i64 a1, .int .i64 a2, .int .i64 a3] := by rw [← hW0]; exact (Blk.new w _ _).alloc _
  have hB : Blk w0 (w.heap.size + 1) 93 #[.int .i64 b1, .int .i64 b2, .int .i64 b3] := by rw [← hW0]; exact Blk.size (by simp)
  have Hg : Hid (∃ os, w0 = grow w os) := Lib.hid ⟨_, by rw [← hW0, alloc_eq_grow, alloc_eq_grow, grow_grow]⟩
  obtain ⟨a_0, a_1⟩ : _ ∧ _ := ⟨hA.cell 0, hA.cell 1⟩
  obtain ⟨b_0, b_1⟩ : _ ∧ _ := ⟨hB.cell 0, hB.cell 1⟩
  simp only [List.getElem?_toArray, List.getElem?_cons_zero, List.getElem?_cons_succ] at a_0 a_1 b_0 b_1
  clear hA hB
  go_enter Try.func48, Try.ntmps48
  go_wp2_with fail
  refine wp_drew_tail 10 (by kernel_rfl) (by kernel_rfl) ?_
  simp only [List.take_succ_cons, List.take_zero, List.drop_succ_cons, List.drop_zero]
  repeat (go_big_quiet_step (exact cmp_q _ _ _ _))
  refine wpQuiet_nil ?_
  rintro w3 ⟨dq, rfl⟩
  go_wp2_with (go_at_call 39; (with_reducible refine Calls.mono (or2_s _ _ _) ?_); rintro r w4 ⟨rfl, rfl⟩)
  go_ret
  obtain ⟨os, hos⟩ := Hg.out
  refine ⟨rfl, dq, os.push (.cells #[.int .i64 (cmpI a1 b1), .int .i64 (cmpI a2 b2)] 3), ?_⟩
  subst hos
  simp [grow, World.alloc, World.drewN]
set_option maxHeartbeats 2000000 in
set_option maxRecDepth 100000 in
theorem edgesCmp_any (a b : Ed) (w : World) : Calls Try.prog 38 #[.agg a.cells.toArray, .agg b.cells.toArray] w fun r w' => r = .returned (.int .i64 (cmpE a b)) ∧ ∃ q os', w' = grow (w.drewN q) os' := by
  obtain ⟨a1, a2, a3, a4, a5⟩ := a
  obtain ⟨b1, b2, b3, b4, b5⟩ := b
  unfold cmpE Ed.cells
  simp only
  obtain ⟨w0, hW0⟩ : ∃ w0, (w.alloc (.cells #[.int .i64 a1, .int .i64 a2, .int .i64 a3, .int .i64 a4, .int .i64 a5] 42)).alloc (.cells #[.int .i64 b1, .int .i64 b2, .int .i64 b3, .int .i64 b4, .int .i64 b5] 42) = w0 := ⟨_, rfl⟩
  have hA : Blk w0 w.heap.size 42 #[.int .i64 a1, .int .i64 a2, .int .i64 a3, .int .i64 a4, .int .i64 a5] := by rw [← hW0]; exact (Blk.new w _ _).alloc _
  have hB : Blk w0 (w.heap.size + 1) 42 #[.int .i64 b1, .int .i64 b2, .int .i64 b3, .int .i64 b4, .int .i64 b5] := by rw [← hW0]; exact Blk.size (by simp)
  have Hg : Hid (∃ os, w0 = grow w os) := Lib.hid ⟨_, by rw [← hW0, alloc_eq_grow, alloc_eq_grow, grow_grow]⟩
  obtain ⟨a_0, a_1, a_2, a_3⟩ : _ ∧ _ ∧ _ ∧ _ := ⟨cell_gd (hA.cell 0), cell_gd (hA.cell 1), cell_gd (hA.cell 2), cell_gd (hA.cell 3)⟩
  obtain ⟨b_0, b_1, b_2, b_3⟩ : _ ∧ _ ∧ _ ∧ _ := ⟨cell_gd (hB.cell 0), cell_gd (hB.cell 1), cell_gd (hB.cell 2), cell_gd (hB.cell 3)⟩
  have CB := Lib.hid (fun x1 x2 y1 y2 q os => gd_of (w := w0) (q := q) (os := os) (compare_g x1 x2 y1 y2 _))
  clear hA hB
  go_enter Try.func38, Try.ntmps38
  go_wp2_with fail
  refine wp_gd_tail 10 (by kernel_rfl) (by kernel_rfl) ?_
  simp only [List.take_succ_cons, List.take_zero, List.drop_succ_cons, List.drop_zero]
  repeat (go_big_quiet_step (exact CB.out _ _ _ _ _ _))
  refine wpQuiet_nil ?_
  rintro w3 ⟨⟨dq, osq⟩, hw3⟩
  have Hw3 := Lib.hid hw3
  clear hw3
  go_wp2_with (go_at_call 39; (with_reducible refine Calls.mono (or2_s _ _ _) ?_); rintro r w4 ⟨rfl, rfl⟩)
  go_ret
  obtain ⟨os, hos⟩ := Hg.out
  refine ⟨rfl, dq, (os ++ osq).push (.cells #[.int .i64 (cmp2 a1 a2 b1 b2), .int .i64 (cmp2 a3 a4 b3 b4)] 3), ?_⟩
  rw [Hw3.out]
  subst hos
  simp [grow, World.alloc, World.drewN, Array.append_assoc]

theorem cmpE_lt (a b : Ed) : cmpE a b < 0 ↔ ltE a b := by
  unfold cmpE ltE
  rw [or2_lt, (cmp2_lt _ _ _ _).1, (cmp2_lt _ _ _ _).2, (cmp2_lt _ _ _ _).1]
  omega
theorem cmpF_lt (a b : Lf) : cmpF a b < 0 ↔ ltF a b := by
  unfold cmpF ltF
  rw [(cmp2_lt _ _ _ _).1]
theorem ltOf_E {a b : Ed} : (ltOf cmpE a b = true ↔ ltE a b) ∧ (ltOf cmpE a b = false ↔ ¬ ltE a b) := by
  unfold ltOf
  rw [← cmpE_lt]
  simp
theorem ltOf_F {a b : Lf} : (ltOf cmpF a b = true ↔ ltF a b) ∧ (ltOf cmpF a b = false ↔ ¬ ltF a b) := by
  unfold ltOf
  rw [← cmpF_lt]
  simp
theorem swoE : SWO (ltOf cmpE) where
  irrefl := fun x => ltOf_E.2.2 (ltE_irr x)
  trans := fun x y z h1 h2 => by rw [ltOf_E.1] at *; unfold ltE at *; omega
  ntrans := fun x y z h1 h2 => by rw [ltOf_E.2] at *; unfold ltE at *; omega
theorem swoF : SWO (ltOf cmpF) where
  irrefl := fun x => ltOf_F.2.2 (ltF_irr x)
  trans := fun x y z h1 h2 => by rw [ltOf_F.1] at *; unfold ltF at *; omega
  ntrans := fun x y z h1 h2 => by rw [ltOf_F.2] at *; unfold ltF at *; omega
theorem call_E (xs : Array Value) (w : World) : (callFunc 38 xs).run Try.prog w = .ok (.enter 38 xs) w := callOf Try.func38 rfl (by kernel_rfl) xs w
theorem call_F (xs : Array Value) (w : World) : (callFunc 48 xs).run Try.prog w = .ok (.enter 48 xs) w := callOf Try.func48 rfl (by kernel_rfl) xs w
theorem sortEs (v : Value) (M : List Ed) (B : Nat) (w : World) (hown : OwnR 42 5 Ed.cells w B v M) (hlen : M.length ≤ 2 ^ 20) (ha : M.Pairwise fun x y => ltE x y ∨ ltE y x) :
    Calls Try.prog 37 #[v, .func (.func 38) #[] #[]] w fun r w' => r = .returned (.tuple #[]) ∧ (∃ N, OwnR 42 5 Ed.cells w' B v N ∧ N.Perm M ∧ N.Pairwise ltE) ∧ w.grownBy w' v.ownBlock := by
  have h := sort_row Try.sortEdge (C := 5) Try.isAgg42 Try.sizeOf42 Ed.cells (fun _ => rfl) onesE cmpE swoE 38 call_E (fun x y w => edgesCmp_any x y w) v M B w hown hlen
  change Calls Try.prog 37 _ _ _ at h
  refine h.mono ?_
  rintro r w' ⟨rfl, N, hN, hpN, hsN, hg⟩
  exact ⟨rfl, ⟨N, hN, hpN, sort_strict hpN (hsN.imp fun {x y} h => ltOf_E.2.1 h) ha⟩, hg⟩
theorem sortFs (v : Value) (M : List Lf) (B : Nat) (w : World) (hown : OwnR 93 3 Lf.cells w B v M) (hlen : M.length ≤ 2 ^ 20) (ha : M.Pairwise fun x y => ltF x y ∨ ltF y x) :
    Calls Try.prog 47 #[v, .func (.func 48) #[] #[]] w fun r w' => r = .returned (.tuple #[]) ∧ (∃ N, OwnR 93 3 Lf.cells w' B v N ∧ N.Perm M ∧ N.Pairwise ltF) ∧ w.grownBy w' v.ownBlock := by
  have h := sort_row Try.sortLeaf (C := 3) Try.isAgg93 Try.sizeOf93 Lf.cells (fun _ => rfl) onesF cmpF swoF 48 call_F (fun x y w => leavesCmp_any x y w) v M B w hown hlen
  change Calls Try.prog 47 _ _ _ at h
  refine h.mono ?_
  rintro r w' ⟨rfl, N, hN, hpN, hsN, hg⟩
  exact ⟨rfl, ⟨N, hN, hpN, sort_strict hpN (hsN.imp fun {x y} h => ltOf_F.2.1 h) ha⟩, hg⟩

end Go.Proofs.Ytpfjgecdlilkcaa
