/-
  The law GraphOut: its walk.
-/
import Derived.Test.YtbffhdlfplgccaaGrWakes
namespace Go.Proofs.Ytbffhdlfplgccaa
open Go.RowKit Go.Sort

set_option maxHeartbeats 8000000 in
set_option maxRecDepth 100000 in
theorem graphOut_any (a b : Int) (A : Option Addr) (cap : Nat) (l : List Ed) (w : World) (hl : RowsAt 5 Ed.cells w w.heap.size A l) (hm : l.length ≤ maxLen) :
    Calls Try.prog 8 #[.agg #[.int .i64 a, .int .i64 b], .slice A l.length cap] w fun r w' => r = .returned (.bool true) ∧ Below w.heap.size w w' := by
  have H := Lib.hid hl
  unfold maxLen at hm
  obtain ⟨w0, hw0⟩ : ∃ w0, w.alloc (.cells #[.int .i64 a, .int .i64 b] 75) = w0 := ⟨_, rfl⟩
  obtain ⟨g0, hg0⟩ : ∃ g0, w.heap.size = g0 := ⟨_, rfl⟩
  have hk0 := Blk.new w 75 #[.int .i64 a, .int .i64 b]
  have hb0 := below_new w (.cells #[.int .i64 a, .int .i64 b] 75)
  rw [hw0, hg0] at hk0
  rw [hw0] at hb0
  have K0 := Lib.hid hk0
  have B0 := Lib.hid hb0
  have Hg0 := Lib.hid hg0
  clear hl hk0 hb0
  go_enter Try.func8, Try.ntmps8
  go_wp2_with fail
  with_reducible refine Calls.mono (wakes20 _) ?_
  rintro r w1 ⟨rfl, hb1⟩
  have K1 := Lib.hid (K0.out.below hb1 K0.out.lt)
  have B1 := Lib.hid (below_trans B0.out B0.out.size hb1)
  clear hb1
  by_cases h200 : (200 : Int) < (l.length : Int)
  · go_wp2
    go_ret
    exact ⟨rfl, B1.out⟩
  · have hm' : (l.length : Int) ≤ 200 := by omega
    have hm2 : l.length ≤ 200 := by omega
    go_wp2
    go_loopw [5, 15] (fun v i wr => ∃ k : Nat, i = .int .i64 k ∧ k ≤ l.length ∧ OwnR 78 5 Ed.cells wr (g0 + 1) v (outL a b (l.take k)) ∧ Blk wr g0 75 #[.int .i64 a, .int .i64 b] ∧ Below w.heap.size w wr) (fun _ i _ => l.length - (intOf i).toNat)
    case atStart => exact ⟨0, rfl, Nat.zero_le _, OwnR.nil _ _, K1.out, B1.out⟩
    case round =>
      obtain ⟨k, rfl, hk, hown, hkv, hb⟩ := hrel
      obtain ⟨A7, c7, hv7⟩ := hown.shape
      subst hv7
      clear K0 B0 K1 B1
      have hol := out_len a b (l.take k)
      have hol2 : (outL a b (l.take k)).length ≤ 65536 := by rw [List.length_take] at hol; omega
      obtain ⟨P, hP⟩ : ∃ P, outL a b (l.take k) = P := ⟨_, rfl⟩
      rw [hP] at hown hol2 ⊢
      have HPl := Lib.hid hol2
      by_cases hlt : k < l.length
      · obtain ⟨g, o, hA, -, x0, x1, x2, x3, x4⟩ := row_ed (H.out.below hb) k hlt
        have hkl : (k : Int) < (l.length : Int) := by omega
        have hmore := out_more a b hlt
        rw [hP] at hmore
        have HA := Lib.hid hA
        rw [hA]
        have Hlt := Lib.hid hlt
        generalize l[k] = x at *
        obtain ⟨e1, e2, e3, e4, e5⟩ := x
        simp only at x0 x1 x2 x3 x4
        obtain ⟨t, ht⟩ : ∃ t, outB a b ⟨e1, e2, e3, e4, e5⟩ = t := ⟨_, rfl⟩
        have he := eqV20 e1 e2 a b
        rw [show (decide (e1 = a) && decide (e2 = b)) = t from ht] at he
        rw [ht] at hmore
        have Hmore := Lib.hid hmore
        obtain ⟨w8, hw8⟩ : ∃ w8, wr.alloc (.cells #[.int .i64 e1, .int .i64 e2, .int .i64 e3, .int .i64 e4, .int .i64 e5] 78) = w8 := ⟨_, rfl⟩
        obtain ⟨g8, hg8⟩ : ∃ g8, wr.heap.size = g8 := ⟨_, rfl⟩
        have hk8 := Blk.new wr 78 #[.int .i64 e1, .int .i64 e2, .int .i64 e3, .int .i64 e4, .int .i64 e5]
        have hb8 := below_new wr (.cells #[.int .i64 e1, .int .i64 e2, .int .i64 e3, .int .i64 e4, .int .i64 e5] 78)
        rw [hw8, hg8] at hk8
        rw [hw8] at hb8
        have O8 := Lib.hid (hown.below hb8)
        have K8 := Lib.hid (hkv.below hb8 hkv.lt)
        have B8 := Lib.hid (below_trans hb hb.size hb8)
        have Hs8 := Lib.hid (show g0 + 1 ≤ w8.heap.size from Nat.le_trans hkv.lt hb8.size)
        obtain ⟨p0, p1⟩ : _ ∧ _ := ⟨K8.out.cell 0, K8.out.cell 1⟩
        simp only [List.getElem?_toArray, List.getElem?_cons_zero, List.getElem?_cons_succ] at p0 p1
        obtain ⟨z0, z1, z2, z3, z4⟩ : _ ∧ _ ∧ _ ∧ _ ∧ _ := ⟨hk8.cell 0, hk8.cell 1, hk8.cell 2, hk8.cell 3, hk8.cell 4⟩
        simp only [List.getElem?_toArray, List.getElem?_cons_zero, List.getElem?_cons_succ] at z0 z1 z2 z3 z4
        clear hA hlt hmore ht hk8 hb8 hown hkv hb hP hol hol2 hk
        cases t with
        | false =>
          have hm2 := Hmore.out
          rw [if_neg (by decide), List.append_nil] at hm2
          have Hm2 := Lib.hid hm2
          clear hm2
          go_wp2
          go_roundw
          case measure => have := Hlt.out; simp [intOf]; omega
          case rel => exact ⟨k + 1, by go_num, Hlt.out, by rw [Hm2.out]; exact O8.out, K8.out, B8.out⟩
        | true =>
          have hm2 := Hmore.out
          rw [if_pos rfl] at hm2
          have Hm2 := Lib.hid hm2
          clear hm2
          go_wp2_with (at_builtin; (refine app_row (e := 78) Ed.cells (fun _ => rfl) (by decide) (bytes := 40) (by decide) infoE rfl Try.underlying76 onesE (by rfl) _ _ (by rfl) (g0 + 1) _ P (by rfl) (O8.out.alloc _) w8.heap.size ⟨e1, e2, e3, e4, e5⟩ (by rfl) (Blk.new _ _ _) (by have := HPl.out; omega) (by have := Hs8.out; simp; omega) ?_); intro v6 w6 hown6 hg6 hor6; have HO6 := Lib.hid hown6; have HK6 := Lib.hid ((K8.out.alloc _).grown hg6 (fun e => by have := (O8.out.block _ e.symm).1; omega)); have HB6 := Lib.hid (show Below w.heap.size w w6 from (B8.out.alloc B8.out.size _).grown hg6 (by have := B8.out.size; simp; omega) (fun m e => by have := (O8.out.block m e).1; have := Hg0.out; omega)); clear hown6 hg6 hor6)
          go_roundw
          case measure => have := Hlt.out; simp [intOf]; omega
          case rel => exact ⟨k + 1, by go_num, Hlt.out, by rw [Hm2.out]; exact HO6.out, HK6.out, HB6.out⟩
      · have hke : k = l.length := by omega
        subst hke
        rw [List.take_length] at hP
        have hkl : ¬ (l.length : Int) < (l.length : Int) := by omega
        have HO := Lib.hid hown
        have HB := Lib.hid hb
        have HOut := Lib.hid (Out_any a b A cap l wr w.heap.size (H.out.below hb) hb.size (by omega) l.length rfl)
        rw [hP] at HOut
        obtain ⟨p0, p1⟩ : _ ∧ _ := ⟨hkv.cell 0, hkv.cell 1⟩
        simp only [List.getElem?_toArray, List.getElem?_cons_zero, List.getElem?_cons_succ] at p0 p1
        clear hown hkv hb hP hol hol2 hlt hk
        go_wp2_with fail
        with_reducible refine Calls.mono HOut.out ?_
        rintro r w4 ⟨⟨v4, rfl, hx4⟩, hb4⟩
        obtain ⟨A4, c4, hv4⟩ := hx4.shape
        subst hv4
        have HS := Lib.hid (Same20s A4 A7 c4 c7 P w4 w4.heap.size w4.heap.size (OwnR.rows (C := 5) (cells := Ed.cells) (fun _ => rfl) hx4).2 (OwnR.rows (C := 5) (cells := Ed.cells) (fun _ => rfl) (HO.out.below hb4)).2 (Nat.le_refl _) (Nat.le_refl _) (by have := HPl.out; omega) P.length P.length rfl rfl)
        have HB4 := Lib.hid (below_trans HB.out HB.out.size hb4)
        clear hx4 hb4
        go_wp2_with fail
        with_reducible refine Calls.mono HS.out ?_
        rintro r w5 ⟨rfl, hb5⟩
        have HB5 := Lib.hid (below_trans HB4.out HB4.out.size hb5)
        clear hb5
        go_wp2
        go_ret
        exact ⟨rfl, HB5.out⟩

end Go.Proofs.Ytbffhdlfplgccaa
