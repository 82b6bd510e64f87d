/-
  Hops of two rows, in order, each once: the program's way.
-/
import Derived.Test.YtpfjgecdlilkcaaHpCpt
import Derived.Test.YtpfjgecdlilkcaaCmp2
import Derived.Test.YtpfjgecdlilkcaaGenSort
import Derived.Test.YtpfjgecdlilkcaaLaySortHop
namespace Go.Proofs.Ytpfjgecdlilkcaa
open Go.RowKit Go.Sort Go.Proofs

def cmpHp (a b : Hp) : Int := cmp2 a.lan a.id b.lan b.id
set_option maxHeartbeats 2000000 in
set_option maxRecDepth 100000 in
theorem hopCmp_any (a b : Hp) (w : World) : Calls Try.prog 98 #[.agg a.cells.toArray, .agg b.cells.toArray] w fun r w' => r = .returned (.int .i64 (cmpHp a b)) ∧ ∃ q os', w' = grow (w.drewN q) os' := by
  obtain ⟨a1, a2⟩ := a
  obtain ⟨b1, b2⟩ := b
  unfold cmpHp Hp.cells
  simp only
  obtain ⟨w0, hW0⟩ : ∃ w0, (w.alloc (.cells #[.int .i64 a1, .int .i64 a2] 68)).alloc (.cells #[.int .i64 b1, .int .i64 b2] 68) = w0 := ⟨_, rfl⟩
  have hA : Blk w0 w.heap.size 68 #[.int .i64 a1, .int .i64 a2] := by rw [← hW0]; exact (Blk.new w _ _).alloc _
  have hB : Blk w0 (w.heap.size + 1) 68 #[.int .i64 b1, .int .i64 b2] := by rw [← hW0]; exact Blk.size (by simp)
  have Hg : Hid (∃ os, w0 = grow w os) := Lib.hid ⟨_, by rw [← hW0, alloc_eq_grow, alloc_eq_grow, grow_grow]⟩
  obtain ⟨a_0, a_1⟩ : _ ∧ _ := ⟨hA.cell 0, hA.cell 1⟩
  obtain ⟨b_0, b_1⟩ : _ ∧ _ := ⟨hB.cell 0, hB.cell 1⟩
  simp only [List.getElem?_toArray, List.getElem?_cons_zero, List.getElem?_cons_succ] at a_0 a_1 b_0 b_1
  clear hA hB
  go_enter Try.func98, Try.ntmps98
  go_wp2_with fail
  refine wp_drew_tail 10 (by kernel_rfl) (by kernel_rfl) ?_
  simp only [List.take_succ_cons, List.take_zero, List.drop_succ_cons, List.drop_zero]
  repeat (go_big_quiet_step (exact cmp_q _ _ _ _))
  refine wpQuiet_nil ?_
  rintro w3 ⟨dq, rfl⟩
  go_wp2_with (go_at_call 39; (with_reducible refine Calls.mono (or2_s _ _ _) ?_); rintro r w4 ⟨rfl, rfl⟩)
  go_ret
  obtain ⟨os, hos⟩ := Hg.out
  refine ⟨rfl, dq, os.push (.cells #[.int .i64 (cmpI a1 b1), .int .i64 (cmpI a2 b2)] 3), ?_⟩
  subst hos
  simp [grow, World.alloc, World.drewN]
theorem cmpHp_lt (a b : Hp) : cmpHp a b < 0 ↔ ltH a b := by
  unfold cmpHp ltH
  rw [(cmp2_lt _ _ _ _).1]
theorem ltOf_H {a b : Hp} : (ltOf cmpHp a b = true ↔ ltH a b) ∧ (ltOf cmpHp a b = false ↔ ¬ ltH a b) := by
  unfold ltOf
  rw [← cmpHp_lt]
  simp
theorem swoH : SWO (ltOf cmpHp) where
  irrefl := fun x => ltOf_H.2.2 (ltH_irr x)
  trans := fun x y z h1 h2 => by rw [ltOf_H.1] at *; unfold ltH at *; omega
  ntrans := fun x y z h1 h2 => by rw [ltOf_H.2] at *; unfold ltH at *; omega
instance : Inhabited Hp := ⟨⟨0, 0⟩⟩
theorem call_H (xs : Array Value) (w : World) : (callFunc 98 xs).run Try.prog w = .ok (.enter 98 xs) w := callOf Try.func98 rfl (by kernel_rfl) xs w
theorem sortHs (v : Value) (M : List Hp) (B : Nat) (w : World) (hown : OwnH w B v M) (hlen : M.length ≤ 2 ^ 20) :
    Calls Try.prog 97 #[v, .func (.func 98) #[] #[]] w fun r w' => r = .returned (.tuple #[]) ∧ (∃ N, OwnH w' B v N ∧ N.Perm M ∧ N.Pairwise fun x y => ¬ ltH y x) ∧ w.grownBy w' v.ownBlock := by
  have h := sort_row Try.sortHop (C := 2) Try.isAgg68 Try.sizeOf68 Hp.cells (fun _ => rfl) onesHp cmpHp swoH 98 call_H (fun x y w => hopCmp_any x y w) v M B w hown hlen
  change Calls Try.prog 97 _ _ _ at h
  refine h.mono ?_
  rintro r w' ⟨rfl, N, hN, hpN, hsN, hg⟩
  exact ⟨rfl, ⟨N, hN, hpN, hsN.imp fun {x y} h => ltOf_H.2.1 h⟩, hg⟩
set_option maxHeartbeats 4000000 in
set_option maxRecDepth 100000 in
theorem joined_any (A1 A2 : Option Addr) (c1 c2 : Nat) (M1 M2 : List Hp) (w : World) (n1 n2 : Nat) (hn1 : n1 = M1.length) (hn2 : n2 = M2.length) (h1 : RowsH w w.heap.size A1 M1) (h2 : RowsH w w.heap.size A2 M2) (hl1 : M1.length ≤ 2 ^ 18) (hl2 : M2.length ≤ 2 ^ 18) :
    Calls Try.prog 74 #[.slice A1 n1 c1, .slice A2 n2 c2] w fun r w' => (∃ v N, r = .returned v ∧ OwnH w' w.heap.size v N ∧ JoinH M1 M2 N) ∧ Below w.heap.size w w' := by
  have hb0 := below_new w (.cells #[.slice A1 n1 c1, .slice A2 n2 c2] 57)
  have hk0 := Blk.new w 57 #[.slice A1 n1 c1, .slice A2 n2 c2]
  obtain ⟨w0, hw0⟩ : ∃ w0, w.alloc (.cells #[.slice A1 n1 c1, .slice A2 n2 c2] 57) = w0 := ⟨_, rfl⟩
  rw [hw0] at hb0 hk0
  have hC := concatHp A1 A2 c1 c2 M1 M2 w.heap.size w0 n1 n2 hn1 hn2 hk0 ((h1.below hb0).more hb0.size) ((h2.below hb0).more hb0.size) hl1 hl2
  have Hb0 := Lib.hid hb0
  have hl := show (M1 ++ M2).length ≤ 2 ^ 20 by rw [List.length_append]; omega
  obtain ⟨M, hM⟩ : ∃ M, M1 ++ M2 = M := ⟨_, rfl⟩
  rw [hM] at hC hl
  have HC := Lib.hid hC
  have Hl := Lib.hid hl
  have HM := Lib.hid hM
  clear hC hl hM hb0 hk0 h1 h2 hn1 hn2 hl1 hl2
  go_enter Try.func74, Try.ntmps74
  go_wp2_with fail
  with_reducible refine Calls.mono HC.out ?_
  rintro r w1 ⟨v, rfl, ho, hb⟩
  obtain ⟨A5, c5, hv⟩ := ho.shape
  subst hv
  have Ho := Lib.hid ho
  have Hb := Lib.hid (below_trans Hb0.out Hb0.out.size hb)
  have Hs := Lib.hid (show w.heap.size ≤ w0.heap.size from Hb0.out.size)
  clear ho hb HC hw0
  go_wp2_with fail
  with_reducible refine Calls.mono (sortHs _ _ _ _ Ho.out Hl.out) ?_
  rintro r w2 ⟨rfl, ⟨N, hoN, hpN, hsN⟩, hg⟩
  have hnN : M.length = N.length := hpN.length_eq.symm
  have HoN := Lib.hid hoN
  have HbN := Lib.hid (Hb.out.grown hg Hb.out.size (fun m e => by have := (Ho.out.block m e).1; have := Hs.out; omega))
  have HpN := Lib.hid hpN
  have HsN := Lib.hid hsN
  rw [hnN] at HoN ⊢
  have HlN := Lib.hid (show N.length ≤ 2 ^ 20 by rw [← hnN]; exact Hl.out)
  clear hoN hpN hsN hg hnN
  go_wp2_with fail
  with_reducible refine Calls.mono (compactHp A5 c5 N.length N w2 w0.heap.size HoN.out rfl HlN.out) ?_
  rintro r w3 ⟨v, rfl, hov, hg, hvb⟩
  obtain ⟨A6, c6, hv⟩ := hov.shape
  subst hv
  have Hov := Lib.hid hov
  have Hbv := Lib.hid (HbN.out.grown hg HbN.out.size (fun m e => by have := (HoN.out.block m e).1; have := Hs.out; omega))
  clear hov hg hvb
  go_wp2
  go_ret
  exact ⟨⟨_, _, rfl, Hov.out.lower Hs.out, join_cpt (fun x => by rw [HpN.out.mem_iff, ← HM.out, List.mem_append]) HsN.out⟩, Hbv.out⟩

end Go.Proofs.Ytpfjgecdlilkcaa
