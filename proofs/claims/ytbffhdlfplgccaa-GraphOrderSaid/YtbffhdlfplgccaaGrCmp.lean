/-
  Layer 20: how edges, and leaves, are compared; sorted.
-/
import Derived.Test.YtbffhdlfplgccaaCmpTail
import Derived.Test.YtbffhdlfplgccaaGenSort
import Derived.Test.YtbffhdlfplgccaaLaySortEdge
import Derived.Test.YtbffhdlfplgccaaLaySortLeaf
import Derived.Test.YtbffhdlfplgccaaGrPlain
namespace Go.Proofs.Ytbffhdlfplgccaa
open Go.RowKit Go.Sort Go.Proofs

def Ed.cells (e : Ed) : List Value := [.int .i64 e.fk, .int .i64 e.fi, .int .i64 e.tk, .int .i64 e.ti, .int .i64 e.cost]
def Lf.cells (e : Lf) : List Value := [.int .i64 e.router, .int .i64 e.lan, .int .i64 e.cost]
def cmp2 (a1 a2 b1 b2 : Int) : Int := orL [cmpI a1 b1, cmpI a2 b2]
def cmpE (a b : Ed) : Int := orL [cmp2 a.fk a.fi b.fk b.fi, cmp2 a.tk a.ti b.tk b.ti]
def cmpF (a b : Lf) : Int := cmp2 a.router a.lan b.router b.lan
theorem lit2 (w : World) (x0 x1 : Int) (t : TypeId) : ∀ k, (hk : k < [x0, x1].length) → (w.alloc (.cells #[.int .i64 x0, .int .i64 x1] t)).cell? ⟨w.heap.size, k, none⟩ = some (.int .i64 [x0, x1][k]) := by
  intro k hk
  rw [(Blk.new w t _).cell k]
  match k, hk with
  | 0, _ => rfl
  | 1, _ => rfl
theorem or2_s (a b : Int) (W : World) : Calls Try.prog 88 #[.slice (some ⟨W.heap.size, 0, none⟩) 2 2] (W.alloc (.cells #[.int .i64 a, .int .i64 b] 3)) fun r w' => r = .returned (.int .i64 (orL [a, b])) ∧ W.alloc (.cells #[.int .i64 a, .int .i64 b] 3) = w' :=
  or_s [a, b] (by simp) W.heap.size 2 _ (lit2 _ _ _ _) 2 (by simp) rfl
set_option maxHeartbeats 2000000 in
set_option maxRecDepth 100000 in
theorem compare_g (a1 a2 b1 b2 : Int) (w : World) : Calls Try.prog 89 #[.agg #[.int .i64 a1, .int .i64 a2], .agg #[.int .i64 b1, .int .i64 b2]] w fun r w' => r = .returned (.int .i64 (cmp2 a1 a2 b1 b2)) ∧ ∃ q os', w' = grow (w.drewN q) os' := by
  obtain ⟨w0, hW0⟩ : ∃ w0, (w.alloc (.cells #[.int .i64 a1, .int .i64 a2] 75)).alloc (.cells #[.int .i64 b1, .int .i64 b2] 75) = w0 := ⟨_, rfl⟩
  have hA : Blk w0 w.heap.size 75 #[.int .i64 a1, .int .i64 a2] := by rw [← hW0]; exact (Blk.new w _ _).alloc _
  have hB : Blk w0 (w.heap.size + 1) 75 #[.int .i64 b1, .int .i64 b2] := by rw [← hW0]; exact Blk.size (by simp)
  have Hg : Hid (∃ os, w0 = grow w os) := Lib.hid ⟨_, by rw [← hW0, alloc_eq_grow, alloc_eq_grow, grow_grow]⟩
  obtain ⟨a_0, a_1⟩ : _ ∧ _ := ⟨hA.cell 0, hA.cell 1⟩
  obtain ⟨b_0, b_1⟩ : _ ∧ _ := ⟨hB.cell 0, hB.cell 1⟩
  simp only [List.getElem?_toArray, List.getElem?_cons_zero, List.getElem?_cons_succ] at a_0 a_1 b_0 b_1
  clear hA hB
  go_enter Try.func89, Try.ntmps89
  go_wp2_with fail
  refine wp_drew_tail 10 (by kernel_rfl) (by kernel_rfl) ?_
  simp only [List.take_succ_cons, List.take_zero, List.drop_succ_cons, List.drop_zero]
  repeat (go_big_quiet_step (exact cmp_q _ _ _ _))
  refine wpQuiet_nil ?_
  rintro w3 ⟨dq, rfl⟩
  go_wp2_with (go_at_call 88; (with_reducible refine Calls.mono (or2_s _ _ _) ?_); rintro r w4 ⟨rfl, rfl⟩)
  go_ret
  obtain ⟨os, hos⟩ := Hg.out
  refine ⟨rfl, dq, os.push (.cells #[.int .i64 (cmpI a1 b1), .int .i64 (cmpI a2 b2)] 3), ?_⟩
  subst hos
  simp [grow, World.alloc, World.drewN]
theorem leavesCmp_any (a b : Lf) (w : World) : Calls Try.prog 92 #[.agg a.cells.toArray, .agg b.cells.toArray] w fun r w' => r = .returned (.int .i64 (cmpF a b)) ∧ ∃ q os', w' = grow (w.drewN q) os' := by
  obtain ⟨a1, a2, a3⟩ := a
  obtain ⟨b1, b2, b3⟩ := b
  unfold cmpF Lf.cells
  simp only
  obtain ⟨w0, hW0⟩ : ∃ w0, (w.alloc (.cells #[.int .i64 a1, .int .i64 a2, .int .i64 a3] 141)).alloc (.cells #[.int .i64 b1, .int .i64 b2, .int .i64 b3] 141) = w0 := ⟨_, rfl⟩
  have hA : Blk w0 w.heap.size 141 #[.int .i64 a1, .int .i64 a2, .int .i64 a3] := by rw [← hW0]; exact (Blk.new w _ _).alloc _
  have hB : Blk w0 (w.heap.size + 1) 141 #[.int .i64 b1, .int .i64 b2, .int .i64 b3] := by rw [← hW0]; exact Blk.size (by simp)
  have Hg : Hid (∃ os, w0 = grow w os) := Lib.hid ⟨_, by rw [← hW0, alloc_eq_grow, alloc_eq_grow, grow_grow]⟩
  obtain ⟨a_0, a_1⟩ : _ ∧ _ := ⟨hA.cell 0, hA.cell 1⟩
  obtain ⟨b_0, b_1⟩ : _ ∧ _ := ⟨hB.cell 0, hB.cell 1⟩
  simp only [List.getElem?_toArray, List.getElem?_cons_zero, List.getElem?_cons_succ] at a_0 a_1 b_0 b_1
  clear hA hB
  go_enter Try.func92, Try.ntmps92
  go_wp2_with fail
  refine wp_drew_tail 10 (by kernel_rfl) (by kernel_rfl) ?_
  simp only [List.take_succ_cons, List.take_zero, List.drop_succ_cons, List.drop_zero]
  repeat (go_big_quiet_step (exact cmp_q _ _ _ _))
  refine wpQuiet_nil ?_
  rintro w3 ⟨dq, rfl⟩
  go_wp2_with (go_at_call 88; (with_reducible refine Calls.mono (or2_s _ _ _) ?_); rintro r w4 ⟨rfl, rfl⟩)
  go_ret
  obtain ⟨os, hos⟩ := Hg.out
  refine ⟨rfl, dq, os.push (.cells #[.int .i64 (cmpI a1 b1), .int .i64 (cmpI a2 b2)] 3), ?_⟩
  subst hos
  simp [grow, World.alloc, World.drewN]
set_option maxHeartbeats 2000000 in
set_option maxRecDepth 100000 in
theorem edgesCmp_any (a b : Ed) (w : World) : Calls Try.prog 87 #[.agg a.cells.toArray, .agg b.cells.toArray] w fun r w' => r = .returned (.int .i64 (cmpE a b)) ∧ ∃ q os', w' = grow (w.drewN q) os' := by
  obtain ⟨a1, a2, a3, a4, a5⟩ := a
  obtain ⟨b1, b2, b3, b4, b5⟩ := b
  unfold cmpE Ed.cells
  simp only
  obtain ⟨w0, hW0⟩ : ∃ w0, (w.alloc (.cells #[.int .i64 a1, .int .i64 a2, .int .i64 a3, .int .i64 a4, .int .i64 a5] 78)).alloc (.cells #[.int .i64 b1, .int .i64 b2, .int .i64 b3, .int .i64 b4, .int .i64 b5] 78) = w0 := ⟨_, rfl⟩
  have hA : Blk w0 w.heap.size 78 #[.int .i64 a1, .int .i64 a2, .int .i64 a3, .int .i64 a4, .int .i64 a5] := by rw [← hW0]; exact (Blk.new w _ _).alloc _
  have hB : Blk w0 (w.heap.size + 1) 78 #[.int .i64 b1, .int .i64 b2, .int .i64 b3, .int .i64 b4, .int .i64 b5] := by rw [← hW0]; exact Blk.size (by simp)
  have Hg : Hid (∃ os, w0 = grow w os) := Lib.hid ⟨_, by rw [← hW0, alloc_eq_grow, alloc_eq_grow, grow_grow]⟩
  obtain ⟨a_0, a_1, a_2, a_3⟩ : _ ∧ _ ∧ _ ∧ _ := ⟨cell_gd (hA.cell 0), cell_gd (hA.cell 1), cell_gd (hA.cell 2), cell_gd (hA.cell 3)⟩
  obtain ⟨b_0, b_1, b_2, b_3⟩ : _ ∧ _ ∧ _ ∧ _ := ⟨cell_gd (hB.cell 0), cell_gd (hB.cell 1), cell_gd (hB.cell 2), cell_gd (hB.cell 3)⟩
  have CB := Lib.hid (fun x1 x2 y1 y2 q os => gd_of (w := w0) (q := q) (os := os) (compare_g x1 x2 y1 y2 _))
  clear hA hB
  go_enter Try.func87, Try.ntmps87
  go_wp2_with fail
  refine wp_gd_tail 10 (by kernel_rfl) (by kernel_rfl) ?_
  simp only [List.take_succ_cons, List.take_zero, List.drop_succ_cons, List.drop_zero]
  repeat (go_big_quiet_step (exact CB.out _ _ _ _ _ _))
  refine wpQuiet_nil ?_
  rintro w3 ⟨⟨dq, osq⟩, hw3⟩
  have Hw3 := Lib.hid hw3
  clear hw3
  go_wp2_with (go_at_call 88; (with_reducible refine Calls.mono (or2_s _ _ _) ?_); rintro r w4 ⟨rfl, rfl⟩)
  go_ret
  obtain ⟨os, hos⟩ := Hg.out
  refine ⟨rfl, dq, (os ++ osq).push (.cells #[.int .i64 (cmp2 a1 a2 b1 b2), .int .i64 (cmp2 a3 a4 b3 b4)] 3), ?_⟩
  rw [Hw3.out]
  subst hos
  simp [grow, World.alloc, World.drewN, Array.append_assoc]

theorem cmp2_lt (a1 a2 b1 b2 : Int) : (cmp2 a1 a2 b1 b2 < 0 ↔ a1 < b1 ∨ (a1 = b1 ∧ a2 < b2)) ∧ (cmp2 a1 a2 b1 b2 = 0 ↔ a1 = b1 ∧ a2 = b2) := by
  unfold cmp2
  rcases cmpI_cases a1 b1 with ⟨h, e⟩ | ⟨h, h', e⟩ | ⟨h, h', e⟩ <;> rw [e] <;> rcases cmpI_cases a2 b2 with ⟨g, e2⟩ | ⟨g, g', e2⟩ | ⟨g, g', e2⟩ <;> rw [e2] <;> simp [orL] <;> omega
theorem or2_lt (x y : Int) : orL [x, y] < 0 ↔ x < 0 ∨ (x = 0 ∧ y < 0) := by
  by_cases h : x = 0 <;> simp [orL, h] <;> omega
theorem cmpE_lt (a b : Ed) : cmpE a b < 0 ↔ ltE a b := by
  unfold cmpE ltE
  rw [or2_lt, (cmp2_lt _ _ _ _).1, (cmp2_lt _ _ _ _).2, (cmp2_lt _ _ _ _).1]
  omega
theorem cmpF_lt (a b : Lf) : cmpF a b < 0 ↔ ltF a b := by
  unfold cmpF ltF
  rw [(cmp2_lt _ _ _ _).1]
theorem ltOf_E {a b : Ed} : (ltOf cmpE a b = true ↔ ltE a b) ∧ (ltOf cmpE a b = false ↔ ¬ ltE a b) := by
  unfold ltOf
  rw [← cmpE_lt]
  simp
theorem ltOf_F {a b : Lf} : (ltOf cmpF a b = true ↔ ltF a b) ∧ (ltOf cmpF a b = false ↔ ¬ ltF a b) := by
  unfold ltOf
  rw [← cmpF_lt]
  simp
theorem swoE : SWO (ltOf cmpE) where
  irrefl := fun x => ltOf_E.2.2 (ltE_irr x)
  trans := fun x y z h1 h2 => by rw [ltOf_E.1] at *; unfold ltE at *; omega
  ntrans := fun x y z h1 h2 => by rw [ltOf_E.2] at *; unfold ltE at *; omega
theorem swoF : SWO (ltOf cmpF) where
  irrefl := fun x => ltOf_F.2.2 (ltF_irr x)
  trans := fun x y z h1 h2 => by rw [ltOf_F.1] at *; unfold ltF at *; omega
  ntrans := fun x y z h1 h2 => by rw [ltOf_F.2] at *; unfold ltF at *; omega
theorem onesE (x : Ed) : ∀ u ∈ Ed.cells x, u.oneCell' = true := by
  intro u hu
  simp [Ed.cells] at hu
  rcases hu with rfl | rfl | rfl | rfl | rfl <;> rfl
theorem onesF (x : Lf) : ∀ u ∈ Lf.cells x, u.oneCell' = true := by
  intro u hu
  simp [Lf.cells] at hu
  rcases hu with rfl | rfl | rfl <;> rfl
theorem call_E (xs : Array Value) (w : World) : (callFunc 87 xs).run Try.prog w = .ok (.enter 87 xs) w := callOf Try.func87 rfl (by kernel_rfl) xs w
theorem call_F (xs : Array Value) (w : World) : (callFunc 92 xs).run Try.prog w = .ok (.enter 92 xs) w := callOf Try.func92 rfl (by kernel_rfl) xs w
/-- pairs apart by where they lead: sorted, they are so strictly -/
theorem sort_strict {α : Type} {R : α → α → Prop} {N M : List α} (hp : N.Perm M) (hs : N.Pairwise fun x y => ¬ R y x) (ha : M.Pairwise fun x y => R x y ∨ R y x) : N.Pairwise R := by
  have h1 : N.Pairwise fun x y => R x y ∨ R y x := hp.symm.pairwise ha (fun {x y} h => h.symm)
  exact (hs.and h1).imp fun {x y} h => h.2.resolve_right h.1
theorem sortEs (v : Value) (M : List Ed) (B : Nat) (w : World) (hown : OwnR 78 5 Ed.cells w B v M) (hlen : M.length ≤ 2 ^ 20) (ha : M.Pairwise fun x y => ltE x y ∨ ltE y x) :
    Calls Try.prog 86 #[v, .func (.func 87) #[] #[]] w fun r w' => r = .returned (.tuple #[]) ∧ (∃ N, OwnR 78 5 Ed.cells w' B v N ∧ N.Perm M ∧ N.Pairwise ltE) ∧ w.grownBy w' v.ownBlock := by
  have h := sort_row Try.sortEdge (C := 5) Try.isAgg78 Try.sizeOf78 Ed.cells (fun _ => rfl) onesE cmpE swoE 87 call_E (fun x y w => edgesCmp_any x y w) v M B w hown hlen
  change Calls Try.prog 86 _ _ _ at h
  refine h.mono ?_
  rintro r w' ⟨rfl, N, hN, hpN, hsN, hg⟩
  exact ⟨rfl, ⟨N, hN, hpN, sort_strict hpN (hsN.imp fun {x y} h => ltOf_E.2.1 h) ha⟩, hg⟩
theorem sortFs (v : Value) (M : List Lf) (B : Nat) (w : World) (hown : OwnR 141 3 Lf.cells w B v M) (hlen : M.length ≤ 2 ^ 20) (ha : M.Pairwise fun x y => ltF x y ∨ ltF y x) :
    Calls Try.prog 91 #[v, .func (.func 92) #[] #[]] w fun r w' => r = .returned (.tuple #[]) ∧ (∃ N, OwnR 141 3 Lf.cells w' B v N ∧ N.Perm M ∧ N.Pairwise ltF) ∧ w.grownBy w' v.ownBlock := by
  have h := sort_row Try.sortLeaf (C := 3) Try.isAgg141 Try.sizeOf141 Lf.cells (fun _ => rfl) onesF cmpF swoF 92 call_F (fun x y w => leavesCmp_any x y w) v M B w hown hlen
  change Calls Try.prog 91 _ _ _ at h
  refine h.mono ?_
  rintro r w' ⟨rfl, N, hN, hpN, hsN, hg⟩
  exact ⟨rfl, ⟨N, hN, hpN, sort_strict hpN (hsN.imp fun {x y} h => ltOf_F.2.1 h) ha⟩, hg⟩

end Go.Proofs.Ytbffhdlfplgccaa
