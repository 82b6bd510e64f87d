/-
  The law WantsNil: its walk.
-/
import Derived.Test.YtannngcdphafdaaWaWakes
namespace Go.Proofs.Ytannngcdphafdaa
open Go.RowKit Go.Sort

set_option maxHeartbeats 1000000 in
theorem WaGet_nil (k1 k2 k3 : Int) (w : World) : Calls Try.prog 33 #[.pointer none, .agg #[.int .i64 k1, .int .i64 k2, .int .i64 k3]] w fun r w' => r = .returned (.tuple #[.agg #[.int .i64 0, .int .i64 0, .int .i64 0, .int .i64 0, .int .i64 0, .int .i64 0, .int .i64 0], .bool false]) ∧ Below w.heap.size w w' := by
  have Hb0 := Lib.hid (fun o o' => ((Below.refl w.heap.size w).alloc (Nat.le_refl _) o).alloc (by simp) o')
  go_enter Try.func33, Try.ntmps33
  go_wp2
  refine bodyPost_ret (v := .tuple #[.agg #[.int .i64 0, .int .i64 0, .int .i64 0, .int .i64 0, .int .i64 0, .int .i64 0, .int .i64 0], .bool false]) (by simp [results, Try.results33, go_sem]) rfl ⟨rfl, ?_⟩
  exact Hb0.out _ _
set_option maxHeartbeats 1000000 in
theorem WaTake_nil (y1 y2 y3 y4 y5 y6 y7 : Int) (w : World) : Calls Try.prog 41 #[.pointer none, .agg #[.int .i64 y1, .int .i64 y2, .int .i64 y3, .int .i64 y4, .int .i64 y5, .int .i64 y6, .int .i64 y7]] w fun r w' => r = .returned (.int .i64 6) ∧ Below w.heap.size w w' := by
  go_enter Try.func41, Try.ntmps41
  go_wp2_with fail
  with_reducible refine Calls.mono (keyOf_any _ _ _ _ _ _ _ _) ?_
  rintro r w2 ⟨rfl, hb2⟩
  have Hb2 := Lib.hid (below_two hb2)
  clear hb2
  go_wp2_with fail
  with_reducible refine Calls.mono (WaGet_nil _ _ _ _) ?_
  rintro r w3 ⟨rfl, hb3⟩
  have Hb3 := Lib.hid ((Hb2.out _).trans (hb3.mono (Hb2.out _).size))
  clear hb3
  go_wp2
  go_ret
  exact ⟨rfl, Hb3.out.alloc Hb3.out.size _⟩
set_option maxHeartbeats 1000000 in
theorem DbGet_nil (k1 k2 k3 : Int) (w : World) : Calls Try.prog 76 #[.pointer none, .agg #[.int .i64 k1, .int .i64 k2, .int .i64 k3]] w fun r w' => r = .returned (.tuple #[.agg #[.int .i64 0, .int .i64 0, .int .i64 0, .int .i64 0, .int .i64 0, .int .i64 0, .int .i64 0, .slice none 0 0, .slice none 0 0], .bool false]) ∧ Below w.heap.size w w' := by
  have Hb0 := Lib.hid (fun o o' => ((Below.refl w.heap.size w).alloc (Nat.le_refl _) o).alloc (by simp) o')
  go_enter Try.func76, Try.ntmps76
  go_wp2
  refine bodyPost_ret (v := .tuple #[.agg #[.int .i64 0, .int .i64 0, .int .i64 0, .int .i64 0, .int .i64 0, .int .i64 0, .int .i64 0, .slice none 0 0, .slice none 0 0], .bool false]) (by simp [results, Try.results76, go_sem]) rfl ⟨rfl, ?_⟩
  exact Hb0.out _ _
set_option maxHeartbeats 1000000 in
theorem AnsNone (w : World) : Calls Try.prog 35 #[.pointer none, .slice none 0 0] w fun r w' => r = .returned (.tuple #[.slice none 0 0, .bool true]) ∧ Below w.heap.size w w' := by
  go_enter Try.func35, Try.ntmps35
  go_wp2
  go_loopw [6, 13] (fun o i wr => o = .slice none 0 0 ∧ i = .int .i64 0 ∧ wr = w) (fun _ _ _ => 0)
  case atStart => exact ⟨rfl, rfl, rfl⟩
  case round =>
    obtain ⟨rfl, rfl, rfl⟩ := hrel
    go_wp2
    go_ret2
    exact ⟨rfl, Below.refl _ _⟩
set_option maxHeartbeats 1000000 in
theorem AnsOne (g c : Nat) (k1 k2 k3 : Int) (w : World) (h : Blk w g 63 #[.int .i64 k1, .int .i64 k2, .int .i64 k3]) : Calls Try.prog 35 #[.pointer none, .slice (some ⟨g, 0, none⟩) 1 c] w fun r w' => r = .returned (.tuple #[.slice none 0 0, .bool false]) ∧ Below w.heap.size w w' := by
  obtain ⟨z0, z1, z2⟩ : _ ∧ _ ∧ _ := ⟨h.cell 0, h.cell 1, h.cell 2⟩
  simp only [List.getElem?_toArray, List.getElem?_cons_zero, List.getElem?_cons_succ] at z0 z1 z2
  clear h
  go_enter Try.func35, Try.ntmps35
  go_wp2
  go_loopw [13] (fun i wr => i = .int .i64 0 ∧ wr = w) (fun _ _ => 0)
  case atStart => exact ⟨rfl, rfl⟩
  case round =>
    obtain ⟨rfl, rfl⟩ := hrel
    go_wp2_with fail
    with_reducible refine Calls.mono (DbGet_nil _ _ _ _) ?_
    rintro r w3 ⟨rfl, hb3⟩
    have Hb3 := Lib.hid (((Below.refl wr.heap.size wr).alloc (Nat.le_refl _) (.cells #[.int .i64 k1, .int .i64 k2, .int .i64 k3] 63)).trans (hb3.mono (by simp)))
    clear hb3
    go_wp2
    go_ret2
    exact ⟨rfl, Hb3.out.alloc Hb3.out.size _⟩

theorem below_step2 {w W W' : World} (o : Obj) (h1 : Below w.heap.size w W) (h2 : Below (W.alloc o).heap.size (W.alloc o) W') : Below w.heap.size w W' := (h1.alloc h1.size o).trans (h2.mono (h1.alloc h1.size o).size)
set_option maxHeartbeats 4000000 in
set_option maxRecDepth 100000 in
theorem wantsNil_any (y1 y2 y3 y4 y5 y6 y7 : Int) (w : World) :
    Calls Try.prog 8 #[.agg #[.int .i64 y1, .int .i64 y2, .int .i64 y3, .int .i64 y4, .int .i64 y5, .int .i64 y6, .int .i64 y7]] w fun r w' => r = .returned (.bool true) ∧ Below w.heap.size w w' := by
  have Hblk := Lib.hid (Blk.new w 58 #[.int .i64 y1, .int .i64 y2, .int .i64 y3, .int .i64 y4, .int .i64 y5, .int .i64 y6, .int .i64 y7])
  have Hb0 := Lib.hid ((Below.refl w.heap.size w).alloc (Nat.le_refl _) (.cells #[.int .i64 y1, .int .i64 y2, .int .i64 y3, .int .i64 y4, .int .i64 y5, .int .i64 y6, .int .i64 y7] 58))
  go_enter Try.func8, Try.ntmps8
  go_wp2_with fail
  with_reducible refine Calls.mono (wakes15 _) ?_
  rintro r w1 ⟨rfl, hb1⟩
  have hk1 := Hblk.out.below hb1 Hblk.out.lt
  have Hk1 := Lib.hid hk1
  obtain ⟨a0, a1, a2, a3, a4, a5, a6, -⟩ := hk1.both7
  have Hb1 := Lib.hid (Hb0.out.trans (hb1.mono Hb0.out.size))
  clear hk1 hb1
  go_wp2_with fail
  with_reducible refine Calls.mono (keyOf_any _ _ _ _ _ _ _ _) ?_
  rintro r w2 ⟨rfl, hb2⟩
  have hk2 := Hk1.out.below hb2 Hk1.out.lt
  have Hk2 := Lib.hid hk2
  have Hb2 := Lib.hid (Hb1.out.trans (hb2.mono Hb1.out.size))
  clear hk2 hb2 a0 a1 a2 a3 a4 a5 a6
  go_wp2_with fail
  with_reducible refine Calls.mono (WaGet_nil _ _ _ _) ?_
  rintro r w3 ⟨rfl, hb3⟩
  have hk4 := (Hk2.out.below hb3 Hk2.out.lt).alloc (.cells #[.int .i64 0, .int .i64 0, .int .i64 0, .int .i64 0, .int .i64 0, .int .i64 0, .int .i64 0] 58)
  obtain ⟨a0, a1, a2, a3, a4, a5, a6, -⟩ := hk4.both7
  have Hk4 := Lib.hid hk4
  have Hb4 := Lib.hid ((Hb2.out.trans (hb3.mono Hb2.out.size)).alloc (Nat.le_trans Hb2.out.size hb3.size) (.cells #[.int .i64 0, .int .i64 0, .int .i64 0, .int .i64 0, .int .i64 0, .int .i64 0, .int .i64 0] 58))
  clear hb3 hk4
  go_wp2_with fail
  with_reducible refine Calls.mono (keyOf_any _ _ _ _ _ _ _ _) ?_
  rintro r w5 ⟨rfl, hb5⟩
  have Hk5 := Lib.hid (Hk4.out.below hb5 Hk4.out.lt)
  have Hb5 := Lib.hid (Hb4.out.trans (hb5.mono Hb4.out.size))
  clear hb5 a0 a1 a2 a3 a4 a5 a6
  go_wp2_with fail
  with_reducible refine Calls.mono (AnsOne w5.heap.size 1 y2 y3 y4 _ (Blk.new _ _ _)) ?_
  rintro r w6 ⟨rfl, hb6⟩
  have Hk6 := Lib.hid ((Hk5.out.alloc _).below hb6 (by have := Hk5.out.lt; simp; omega))
  have Hb6 := Lib.hid (below_step2 _ Hb5.out hb6)
  clear hb6
  go_wp2_with fail
  with_reducible refine Calls.mono (AnsNone _) ?_
  rintro r w7 ⟨rfl, hb7⟩
  have hk7 := Hk6.out.below hb7 Hk6.out.lt
  obtain ⟨a0, a1, a2, a3, a4, a5, a6, -⟩ := hk7.both7
  have Hk7 := Lib.hid hk7
  have Hb7 := Lib.hid (Hb6.out.trans (hb7.mono Hb6.out.size))
  clear hb7 hk7
  go_wp2_with fail
  with_reducible refine Calls.mono (WaAdd_nil _ _) ?_
  rintro r w8 ⟨rfl, hb8⟩
  have Hk8 := Lib.hid ((Hk7.out.alloc _).below hb8 (by have := Hk7.out.lt; simp; omega))
  have Hb8 := Lib.hid (below_step2 _ Hb7.out hb8)
  clear hb8 a0 a1 a2 a3 a4 a5 a6
  go_wp2_with fail
  with_reducible refine Calls.mono (WaAll_nil _) ?_
  rintro r w9 ⟨rfl, hb9⟩
  have Hk9 := Lib.hid (Hk8.out.below hb9 Hk8.out.lt)
  have Hb9 := Lib.hid (Hb8.out.trans (hb9.mono Hb8.out.size))
  clear hb9
  go_wp2_with fail
  with_reducible refine Calls.mono (WaAsk_nil _) ?_
  rintro r w10 ⟨rfl, hb10⟩
  have Hk10 := Lib.hid (Hk9.out.below hb10 Hk9.out.lt)
  have Hb10 := Lib.hid (Hb9.out.trans (hb10.mono Hb9.out.size))
  clear hb10
  go_wp2_with fail
  with_reducible refine Calls.mono (WaClear_nil _) ?_
  rintro r w11 ⟨rfl, rfl⟩
  go_wp2_with fail
  with_reducible refine Calls.mono (WaLen_nil _) ?_
  rintro r w12 ⟨rfl, rfl⟩
  obtain ⟨a0, a1, a2, a3, a4, a5, a6, -⟩ := Hk10.out.both7
  go_wp2_with fail
  with_reducible refine Calls.mono (WaTake_nil _ _ _ _ _ _ _ _) ?_
  rintro r w13 ⟨rfl, hb13⟩
  have Hb13 := Lib.hid (Hb10.out.trans (hb13.mono Hb10.out.size))
  clear hb13
  go_wp2
  go_ret
  exact ⟨rfl, Hb13.out⟩

end Go.Proofs.Ytannngcdphafdaa
