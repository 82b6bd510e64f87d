/-
  Layer 21: nodes in memory; how they are compared; sorted.
-/
import Derived.Test.YtpfjgecdlilkcaaHpJoin
import Derived.Test.YtpfjgecdlilkcaaLaySortNode
namespace Go.Proofs.Ytpfjgecdlilkcaa
open Go.RowKit Go.Sort Go.Proofs

/-- a node as it lies in memory -/
structure NodeM where
  v : Vx
  a : Val2
  A : Option Addr
  c : Nat
  next : List Hp
def NodeM.nk (x : NodeM) : Nk := ⟨x.v, x.a, x.next⟩
def NodeM.nv (x : NodeM) : Value := .slice x.A x.next.length x.c
def NodeM.cells (x : NodeM) : List Value := [.int .i64 x.v.kind, .int .i64 x.v.id, .int .i64 x.a.c, .int .i64 x.a.h, .slice x.A x.next.length x.c]
theorem onesN (x : NodeM) : ∀ u ∈ NodeM.cells x, u.oneCell' = true := by
  intro u hu
  simp [NodeM.cells] at hu
  rcases hu with rfl | rfl | rfl | rfl | rfl <;> rfl
theorem infoN : (Try.prog.info? 59).map (fun i => (i.zero, i.size, i.bytes)) = some (some (.agg #[.int .i64 0, .int .i64 0, .int .i64 0, .int .i64 0, .slice none 0 0]), 5, 56) := by kernel_rfl
instance : Inhabited NodeM := ⟨⟨⟨0, 0⟩, ⟨0, 0⟩, none, 0, []⟩⟩
def cmpN (a b : NodeM) : Int := cmp2 a.v.kind a.v.id b.v.kind b.v.id
set_option maxHeartbeats 2000000 in
set_option maxRecDepth 100000 in
theorem nodeCmp_any (a b : NodeM) (w : World) : Calls Try.prog 55 #[.agg a.cells.toArray, .agg b.cells.toArray] w fun r w' => r = .returned (.int .i64 (cmpN a b)) ∧ ∃ q os', w' = grow (w.drewN q) os' := by
  obtain ⟨⟨a1, a2⟩, ⟨a3, a4⟩, aA, ac, an⟩ := a
  obtain ⟨⟨b1, b2⟩, ⟨b3, b4⟩, bA, bc, bn⟩ := b
  unfold cmpN NodeM.cells
  simp only
  obtain ⟨al, hal⟩ : ∃ n, an.length = n := ⟨_, rfl⟩
  obtain ⟨bl, hbl⟩ : ∃ n, bn.length = n := ⟨_, rfl⟩
  rw [hal, hbl]
  clear hal hbl
  obtain ⟨w0, hW0⟩ : ∃ w0, (w.alloc (.cells #[.int .i64 a1, .int .i64 a2, .int .i64 a3, .int .i64 a4, .slice aA al ac] 59)).alloc (.cells #[.int .i64 b1, .int .i64 b2, .int .i64 b3, .int .i64 b4, .slice bA bl bc] 59) = w0 := ⟨_, rfl⟩
  have hA : Blk w0 w.heap.size 59 #[.int .i64 a1, .int .i64 a2, .int .i64 a3, .int .i64 a4, .slice aA al ac] := by rw [← hW0]; exact (Blk.new w _ _).alloc _
  have hB : Blk w0 (w.heap.size + 1) 59 #[.int .i64 b1, .int .i64 b2, .int .i64 b3, .int .i64 b4, .slice bA bl bc] := by rw [← hW0]; exact Blk.size (by simp)
  have Hg : Hid (∃ os, w0 = grow w os) := Lib.hid ⟨_, by rw [← hW0, alloc_eq_grow, alloc_eq_grow, grow_grow]⟩
  obtain ⟨a_0, a_1⟩ : _ ∧ _ := ⟨hA.cell 0, hA.cell 1⟩
  obtain ⟨b_0, b_1⟩ : _ ∧ _ := ⟨hB.cell 0, hB.cell 1⟩
  simp only [List.getElem?_toArray, List.getElem?_cons_zero, List.getElem?_cons_succ] at a_0 a_1 b_0 b_1
  clear hA hB
  go_enter Try.func55, Try.ntmps55
  go_wp2_with fail
  refine wp_drew_tail 14 (by kernel_rfl) (by kernel_rfl) ?_
  simp only [List.take_succ_cons, List.take_zero, List.drop_succ_cons, List.drop_zero]
  repeat (go_big_quiet_step (exact cmp_q _ _ _ _))
  refine wpQuiet_nil ?_
  rintro w3 ⟨dq, rfl⟩
  go_wp2_with (go_at_call 39; (with_reducible refine Calls.mono (or2_s _ _ _) ?_); rintro r w4 ⟨rfl, rfl⟩)
  go_ret
  obtain ⟨os, hos⟩ := Hg.out
  refine ⟨rfl, dq, os.push (.cells #[.int .i64 (cmpI a1 b1), .int .i64 (cmpI a2 b2)] 3), ?_⟩
  subst hos
  simp [grow, World.alloc, World.drewN]
theorem cmpN_lt (a b : NodeM) : cmpN a b < 0 ↔ ltX a.v b.v := by
  unfold cmpN ltX
  rw [(cmp2_lt _ _ _ _).1]
theorem ltOf_N {a b : NodeM} : (ltOf cmpN a b = true ↔ ltX a.v b.v) ∧ (ltOf cmpN a b = false ↔ ¬ ltX a.v b.v) := by
  unfold ltOf
  rw [← cmpN_lt]
  simp
theorem swoN : SWO (ltOf cmpN) where
  irrefl := fun x => ltOf_N.2.2 (ltX_irr x.v)
  trans := fun x y z h1 h2 => by rw [ltOf_N.1] at *; unfold ltX at *; omega
  ntrans := fun x y z h1 h2 => by rw [ltOf_N.2] at *; unfold ltX at *; omega
theorem call_N (xs : Array Value) (w : World) : (callFunc 55 xs).run Try.prog w = .ok (.enter 55 xs) w := callOf Try.func55 rfl (by kernel_rfl) xs w
theorem sortNs (v : Value) (M : List NodeM) (B : Nat) (w : World) (hown : OwnR 59 5 NodeM.cells w B v M) (hlen : M.length ≤ 2 ^ 20) (ha : M.Pairwise fun x y => ltX x.v y.v ∨ ltX y.v x.v) :
    Calls Try.prog 54 #[v, .func (.func 55) #[] #[]] w fun r w' => r = .returned (.tuple #[]) ∧ (∃ N, OwnR 59 5 NodeM.cells w' B v N ∧ N.Perm M ∧ N.Pairwise fun x y => ltX x.v y.v) ∧ w.grownBy w' v.ownBlock := by
  have h := sort_row Try.sortNode (C := 5) Try.isAgg59 Try.sizeOf59 NodeM.cells (fun _ => rfl) onesN cmpN swoN 55 call_N (fun x y w => nodeCmp_any x y w) v M B w hown hlen
  change Calls Try.prog 54 _ _ _ at h
  refine h.mono ?_
  rintro r w' ⟨rfl, N, hN, hpN, hsN, hg⟩
  exact ⟨rfl, ⟨N, hN, hpN, sort_strict (R := fun x y : NodeM => ltX x.v y.v) hpN (hsN.imp fun {x y} h => ltOf_N.2.1 h) ha⟩, hg⟩

end Go.Proofs.Ytpfjgecdlilkcaa
