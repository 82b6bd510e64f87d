/-
  Layer 13: what a database that is not there lacks of a head.
-/
import Derived.Test.YtmjjmkdjjfmhhaaSuWakes
import Derived.Test.YtmjjmkdjjfmhhaaStMap
import Derived.Test.YtmjjmkdjjfmhhaaKyThree
namespace Go.Proofs.Ytmjjmkdjjfmhhaa
open Go.RowKit Go.Sort

theorem zeroI13 (w : World) : (zeroValue 3).run Try.prog w = .ok (.int .i64 0) w := by kernel_rfl
set_option maxRecDepth 100000 in
theorem GetNil (k1 k2 k3 : Int) (w : World) : Calls Try.prog 21 #[.pointer none, .agg #[.int .i64 k1, .int .i64 k2, .int .i64 k3]] w fun r w' => (∃ u1 u2 u3 u4 u5 u6 u7 Aa nl ca Ab nm cb, r = .returned (.tuple #[.agg #[.int .i64 u1, .int .i64 u2, .int .i64 u3, .int .i64 u4, .int .i64 u5, .int .i64 u6, .int .i64 u7, .slice Aa nl ca, .slice Ab nm cb], .bool false])) ∧ Below w.heap.size w w' := by
  go_enter Try.func21, Try.ntmps21
  go_wp2
  refine bodyPost_ret (v := .tuple #[.agg #[.int .i64 0, .int .i64 0, .int .i64 0, .int .i64 0, .int .i64 0, .int .i64 0, .int .i64 0, .slice none 0 0, .slice none 0 0], .bool false]) (by simp [results, Try.results21, go_sem]) rfl ⟨⟨_, _, _, _, _, _, _, _, _, _, _, _, _, rfl⟩, ?_⟩
  exact ((Below.refl _ _).alloc (Nat.le_refl _) _).alloc (by simp) _
theorem blk7n {w : World} {g : Nat} {t : TypeId} {a b c d e f x : Value} (h : Blk w g t #[a, b, c, d, e, f, x]) : w.cell? ⟨g, 0, none⟩ = some a ∧ w.cell? ⟨g, 1, none⟩ = some b ∧ w.cell? ⟨g, 2, none⟩ = some c ∧ w.cell? ⟨g, 3, none⟩ = some d ∧ w.cell? ⟨g, 4, none⟩ = some e ∧ w.cell? ⟨g, 5, none⟩ = some f ∧ w.cell? ⟨g, 6, none⟩ = some x :=
  ⟨h.cell 0, h.cell 1, h.cell 2, h.cell 3, h.cell 4, h.cell 5, h.cell 6⟩
theorem blk3n {w : World} {g : Nat} {t : TypeId} {a b c : Value} (h : Blk w g t #[a, b, c]) : w.cell? ⟨g, 0, none⟩ = some a ∧ w.cell? ⟨g, 1, none⟩ = some b ∧ w.cell? ⟨g, 2, none⟩ = some c := ⟨h.cell 0, h.cell 1, h.cell 2⟩
set_option maxHeartbeats 8000000 in
set_option maxRecDepth 100000 in
theorem Lacks_one (g : Nat) (y1 y2 y3 y4 y5 y6 y7 : Int) (w : World) (hk : Blk w g 23 #[.int .i64 y1, .int .i64 y2, .int .i64 y3, .int .i64 y4, .int .i64 y5, .int .i64 y6, .int .i64 y7]) :
    Calls Try.prog 38 #[.pointer none, .slice (some ⟨g, 0, none⟩) 1 1] w fun r w' => (∃ v, r = .returned v ∧ OwnR 23 7 Hd.cells w' w.heap.size v [⟨y1, y2, y3, y4, y5, y6, y7⟩]) ∧ Below w.heap.size w w' := by
  have HK := Lib.hid hk
  have hg := hk.lt
  obtain ⟨b, hb⟩ : ∃ b, w.heap.size = b := ⟨_, rfl⟩
  have hmm := @run_makeMap Try.prog
  have HM0 := Lib.hid (MapAt.new (enc := K3.enc) w)
  clear hk
  go_enter Try.func38, Try.ntmps38
  go_wp2
  clear hmm
  go_loopw [5, 17] (fun v i wr => ((i = .int .i64 0 ∧ v = .slice none 0 0 ∧ MapAt K3.enc wr b []) ∨ (i = .int .i64 1 ∧ OwnR 23 7 Hd.cells wr w.heap.size v [⟨y1, y2, y3, y4, y5, y6, y7⟩])) ∧ Below w.heap.size w wr) (fun _ i _ => 1 - (intOf i).toNat)
  case atStart => exact ⟨.inl ⟨rfl, rfl, by rw [← hb]; exact HM0.out⟩, (Below.refl _ _).alloc (Nat.le_refl _) _⟩
  case round =>
    obtain ⟨⟨rfl, rfl, hm⟩ | ⟨rfl, hown⟩, hbel⟩ := hrel
    · obtain ⟨x0, x1, x2, x3, x4, x5, x6⟩ := blk7n (HK.out.below hbel hg)
      obtain ⟨w8, hw8⟩ : ∃ w8, wr.alloc (.cells #[.int .i64 y1, .int .i64 y2, .int .i64 y3, .int .i64 y4, .int .i64 y5, .int .i64 y6, .int .i64 y7] 23) = w8 := ⟨_, rfl⟩
      obtain ⟨g8, hg8⟩ : ∃ g8, wr.heap.size = g8 := ⟨_, rfl⟩
      have hk8 := Blk.new wr 23 #[.int .i64 y1, .int .i64 y2, .int .i64 y3, .int .i64 y4, .int .i64 y5, .int .i64 y6, .int .i64 y7]
      have hb8 := below_new wr (.cells #[.int .i64 y1, .int .i64 y2, .int .i64 y3, .int .i64 y4, .int .i64 y5, .int .i64 y6, .int .i64 y7] 23)
      rw [hw8, hg8] at hk8
      rw [hw8] at hb8
      have K8 := Lib.hid hk8
      have M8 := Lib.hid (hm.below hb8 hm.lt)
      have B8 := Lib.hid (below_trans hbel hbel.size hb8)
      have HBg := Lib.hid (show g8 ≠ b by have := hm.lt; omega)
      obtain ⟨z0, z1, z2, z3, z4, z5, z6⟩ := blk7n hk8
      clear hk8 hb8 hm hbel
      go_wp2_with fail
      with_reducible refine Calls.mono (keyOf_any _ _ _ _ _ _ _ _) ?_
      rintro r w9 ⟨rfl, hb9⟩
      obtain ⟨w10, hw10⟩ : ∃ w10, w9.alloc (.cells #[.int .i64 y2, .int .i64 y3, .int .i64 y4] 39) = w10 := ⟨_, rfl⟩
      obtain ⟨g10, hg10⟩ : ∃ g10, w9.heap.size = g10 := ⟨_, rfl⟩
      have hk10 := Blk.new w9 39 #[.int .i64 y2, .int .i64 y3, .int .i64 y4]
      have hb10 := below_new w9 (.cells #[.int .i64 y2, .int .i64 y3, .int .i64 y4] 39)
      rw [hw10, hg10] at hk10
      rw [hw10] at hb10
      have hb9' := below_trans B8.out B8.out.size hb9
      have K10 := Lib.hid hk10
      have H10 := Lib.hid ((K8.out.below hb9 K8.out.lt).below hb10 (Nat.lt_of_lt_of_le K8.out.lt hb9.size))
      have M10 := Lib.hid ((M8.out.below hb9 M8.out.lt).below hb10 (Nat.lt_of_lt_of_le M8.out.lt hb9.size))
      have B10 := Lib.hid (below_trans hb9' hb9'.size hb10)
      obtain ⟨q0, q1, q2⟩ := blk3n hk10
      clear hk10 hb10 hb9 hb9' z0 z1 z2 z3 z4 z5 z6
      go_wp2_with fail
      with_reducible refine Calls.mono (GetNil _ _ _ _) ?_
      rintro r w11 ⟨⟨u1, u2, u3, u4, u5, u6, u7, Aa, nl, ca, Ab, nm, cb, rfl⟩, hb11⟩
      obtain ⟨w12, hw12⟩ : ∃ w12, w11.alloc (.cells #[.int .i64 u1, .int .i64 u2, .int .i64 u3, .int .i64 u4, .int .i64 u5, .int .i64 u6, .int .i64 u7, .slice Aa nl ca, .slice Ab nm cb] 27) = w12 := ⟨_, rfl⟩
      have hb12 := below_new w11 (.cells #[.int .i64 u1, .int .i64 u2, .int .i64 u3, .int .i64 u4, .int .i64 u5, .int .i64 u6, .int .i64 u7, .slice Aa nl ca, .slice Ab nm cb] 27)
      rw [hw12] at hb12
      have hb12' : Below w10.heap.size w10 w12 := below_trans hb11 hb11.size hb12
      have K12 := Lib.hid (K10.out.below hb12' K10.out.lt)
      have H12 := Lib.hid (H10.out.below hb12' H10.out.lt)
      have hm12 := M10.out.below hb12' M10.out.lt
      have M12 := Lib.hid hm12
      have B12 := Lib.hid (below_trans B10.out B10.out.size hb12')
      have hl := hm12.look_run keyK3 Try.underlying131 (zeroI13 _) ⟨y2, y3, y4⟩ true
      simp only [if_true, K3.enc, getL, Option.getD, Option.isSome] at hl
      obtain ⟨q0, q1, q2⟩ := blk3n K12.out
      obtain ⟨z0, z1, z2, z3, z4, z5, z6⟩ := blk7n H12.out
      clear hb11 hb12 hb12' hm12
      go_wp2_with (first
        | (at_mapUpdate; (refine wpList_update_st _ (by rfl) _ _ _ 131 (by rfl) 39 3 keyK3 Try.underlying131 (by rfl) M12.out ⟨y2, y3, y4⟩ (by rfl) (.int .i64 0) (by rfl) ?_); intro w13 hm13 hg13 hs13; have hb13 : Below w.heap.size w w13 := B12.out.grown hg13 B12.out.size (fun k e => by injection e with e; omega); have H13 := Lib.hid (H12.out.grown hg13 (fun e => HBg.out (by injection e))); have B13 := Lib.hid hb13; clear hm13 hg13 hs13 hb13; obtain ⟨s0, s1, s2, s3, s4, s5, s6⟩ := blk7n H13.out)
        | (at_builtin; (refine app_row Hd.cells (fun _ => rfl) (by decide) (bytes := 56) (by decide) infoHd13 rfl Try.underlying37 onesHd13 (by rfl) _ _ (by rfl) w.heap.size _ [] (by rfl) (OwnR.nil _ _) w13.heap.size ⟨y1, y2, y3, y4, y5, y6, y7⟩ (by rfl) (Blk.new _ _ _) (by simp) (by have := B13.out.size; simp; omega) ?_); intro v14 w14 hown14 hg14 hor14; have O14 := Lib.hid hown14; have B14 := Lib.hid (show Below w.heap.size w w14 from (B13.out.alloc B13.out.size _).grown hg14 (by have := B13.out.size; simp; omega) (fun m e => by cases e)); clear hown14 hg14 hor14)
        | fail)
      go_roundw
      case measure => simp [intOf]
      case rel => exact ⟨.inr ⟨rfl, O14.out⟩, B14.out⟩
    · obtain ⟨A5, c5, hv5⟩ := hown.shape
      subst hv5
      have O5 := Lib.hid hown
      have B5 := Lib.hid hbel
      clear hown hbel
      go_wp2
      go_ret
      exact ⟨⟨_, rfl, O5.out⟩, B5.out⟩

end Go.Proofs.Ytmjjmkdjjfmhhaa
