/-
  Layer 15: the document's list: a head that is there is taken.
-/
import Derived.Test.YtannngcdphafdaaRwOps
namespace Go.Proofs.Ytannngcdphafdaa
open Go.RowKit Go.Sort

def TakePost (w w' : World) (q : Nat) (v : Value) (N : List Hd) (t : Bool) (r : Ending) : Prop := if t = true then r = .returned (.int .i64 8) ∧ Below w.heap.size w w' else r = .returned (.int .i64 0) ∧ RwPost w w' q v N
set_option maxHeartbeats 8000000 in
set_option maxRecDepth 100000 in
theorem rwTake_found (q : Nat) (v : Value) (L : List Hd) (y1 y2 y3 y4 y5 y6 y7 : Int) (w : World) (hR : RwAt w q v L) (hlen : L.length ≤ 2 ^ 20) (hy1 : 0 ≤ y1) (hy2 : y1 ≤ 60) (j : Nat) (hj : j < L.length) (hf : findI ⟨y2, y3, y4⟩ L = j) (hage : ageOk L[j]) {t : Bool} (ht : decide (0 < newerI L[j] ⟨y1, y2, y3, y4, y5, y6, y7⟩) = t) :
    Calls Try.prog 45 #[.pointer (some ⟨q, 0, none⟩), .agg #[.int .i64 y1, .int .i64 y2, .int .i64 y3, .int .i64 y4, .int .i64 y5, .int .i64 y6, .int .i64 y7]] w fun r w' => TakePost w w' q v (L.eraseIdx j) t r := by
  obtain ⟨g, c, hv, -⟩ := hR.row j hj
  subst hv
  have HR := Lib.hid hR
  have Hf := Lib.hid hf
  have Hage := Lib.hid hage
  have Ht := Lib.hid ht
  have HF := Lib.hid (fun W (h : RwAt W q (.slice (some ⟨g, 0, none⟩) L.length c) L) => rwFind q _ L y2 y3 y4 W h hlen hf)
  clear hR hf hage ht
  go_enter Try.func45, Try.ntmps45
  go_wp2_with fail
  with_reducible refine Calls.mono (key_any _ _ _ _ _ _ _ _) ?_
  rintro r w2 ⟨rfl, hb2⟩
  have Hh3 := Lib.hid ((Blk.new w 58 #[.int .i64 y1, .int .i64 y2, .int .i64 y3, .int .i64 y4, .int .i64 y5, .int .i64 y6, .int .i64 y7]).below hb2 (by simp))
  have HR3 := Lib.hid ((HR.out.alloc (.cells #[.int .i64 y1, .int .i64 y2, .int .i64 y3, .int .i64 y4, .int .i64 y5, .int .i64 y6, .int .i64 y7] 58)).keep hb2)
  have Hb3 := Lib.hid (((Below.refl w.heap.size w).alloc (Nat.le_refl _) (.cells #[.int .i64 y1, .int .i64 y2, .int .i64 y3, .int .i64 y4, .int .i64 y5, .int .i64 y6, .int .i64 y7] 58)).trans (hb2.mono (by simp)))
  clear hb2
  go_wp2_with fail
  with_reducible refine Calls.mono (HF.out _ HR3.out) ?_
  rintro r w4 ⟨rfl, hb4⟩
  have hh4 := Hh3.out.below hb4 Hh3.out.lt
  have hR4 := HR3.out.keep hb4
  have hb04 := Hb3.out.trans (hb4.mono Hb3.out.size)
  obtain ⟨a0, a1, a2, a3, a4, a5, a6⟩ : _ ∧ _ ∧ _ ∧ _ ∧ _ ∧ _ ∧ _ := ⟨cell_regrown (hh4.cell 0), cell_regrown (hh4.cell 1), cell_regrown (hh4.cell 2), cell_regrown (hh4.cell 3), cell_regrown (hh4.cell 4), cell_regrown (hh4.cell 5), cell_regrown (hh4.cell 6)⟩
  obtain ⟨g', c', hv, z0, z1, z2, z3, z4, z5, z6⟩ := hR4.row j hj
  injection hv with hA hn hcap
  injection hA with hA
  injection hA with hA
  subst hA hcap
  clear hn
  have cp := cell_regrown hR4.cell
  have z0 := cell_regrown z0
  have z1 := cell_regrown z1
  have z2 := cell_regrown z2
  have z3 := cell_regrown z3
  have z4 := cell_regrown z4
  have z5 := cell_regrown z5
  have z6 := cell_regrown z6
  have Hh4 := Lib.hid hh4
  have HR4 := Lib.hid hR4
  have Hb4 := Lib.hid hb04
  clear hb4 hh4 hR4 hb04
  have hjl : (j : Int) < (L.length : Int) := by omega
  generalize L[j] = e at *
  obtain ⟨e1, e2, e3, e4, e5, e6, e7⟩ := e
  simp only at z0 z1 z2 z3 z4 z5 z6
  obtain ⟨m, hm⟩ : ∃ m, newerI ⟨e1, e2, e3, e4, e5, e6, e7⟩ ⟨y1, y2, y3, y4, y5, y6, y7⟩ = m := ⟨_, rfl⟩
  have ht := Ht.out
  rw [hm] at ht
  have Hm := Lib.hid hm
  have He := Lib.hid (show 0 ≤ e1 ∧ e1 ≤ 60 from ⟨Hage.out.lo, Hage.out.hi⟩)
  clear hm
  have CN := Lib.hid (fun dd os => Calls.regrown_of (w := w4) (d := dd) (os := os) (refNewer_any _ _ _ _ _ _ _ _ _ _ _ _ _ _ _ He.out.1 He.out.2 hy1 hy2 Hm.out))
  go_wp2_with fail
  refine wp_below_tail 9 (by kernel_rfl) (by kernel_rfl) ?_
  simp only [List.take_succ_cons, List.take_zero, List.drop_succ_cons, List.drop_zero]
  repeat (go_big_quiet_step (exact CN.out _ _))
  refine wpQuiet_nil ?_
  rintro w5 ⟨⟨dq, osq⟩, rfl⟩
  have hb5 := below_regrown w4 dq osq
  generalize grow (redrawn w4 dq) osq = w5 at *
  have hh5 := Hh4.out.below hb5 Hh4.out.lt
  have hR5 := HR4.out.keep hb5
  have Hb5 := Lib.hid (Hb4.out.trans (hb5.mono Hb4.out.size))
  clear a0 a1 a2 a3 a4 a5 a6 z0 z1 z2 z3 z4 z5 z6 cp hb5
  cases t
  · have HR5 := Lib.hid hR5
    clear hh5 hR5
    go_wp2
    go_loopw [6, 7] (fun o i wr => ∃ k : Nat, i = .int .i64 k ∧ k ≤ L.length ∧ OwnH wr w5.heap.size o ((L.take k).eraseIdx j) ∧ Below w5.heap.size w5 wr) (fun _ i _ => L.length - (intOf i).toNat)
    case atStart => exact ⟨0, rfl, Nat.zero_le _, by rw [List.take_zero, List.eraseIdx_nil]; exact OwnR.nil _ _, Below.refl _ _⟩
    case round =>
      obtain ⟨k, rfl, hk, hown, hb⟩ := hrel
      have hR := HR5.out.keep hb
      have hc := hR.cell
      have hEl : ((L.take k).eraseIdx j).length ≤ k := Nat.le_trans (List.length_eraseIdx_le _ _) (by rw [List.length_take]; omega)
      obtain ⟨A7, c7, hv7⟩ := hown.shape
      subst hv7
      have Hown := Lib.hid hown
      have Hb := Lib.hid hb
      by_cases hlt : k < L.length
      · obtain ⟨h1, h2⟩ := take_erase (j := j) hlt
        have hkl : (k : Int) < (L.length : Int) := by omega
        by_cases hkj : k = j
        · have H2 := Lib.hid (h2 hkj)
          have hne : ((k : Int) != (j : Int)) = false := by simp; omega
          have hne' : (k : Int) = (j : Int) := by omega
          clear h1 h2 hR hown hb hEl
          go_wp2
          go_roundw
          case measure => simp [intOf]; omega
          case rel => exact ⟨k + 1, by go_num, hlt, by rw [H2.out]; exact Hown.out, Hb.out⟩
        · obtain ⟨g', c', hv, z0, z1, z2, z3, z4, z5, z6⟩ := hR.row k hlt
          injection hv with hA hn hcap
          injection hA with hA
          injection hA with hA
          subst hA hcap
          have hnx := h1 hkj
          generalize L[k] = x at *
          generalize (L.take k).eraseIdx j = N at *
          obtain ⟨x1, x2, x3, x4, x5, x6, x7⟩ := x
          simp only at z0 z1 z2 z3 z4 z5 z6
          have HN := Lib.hid hnx
          have hne : ((k : Int) != (j : Int)) = true := by simp; omega
          clear h1 h2 hR hown hb hn hnx
          go_wp2_with (at_builtin; (refine app_row Hd.cells (fun _ => rfl) (by decide) (bytes := 56) (by decide) infoHd rfl Try.underlying34 onesH (by rfl) _ _ (by rfl) w5.heap.size _ N (by rfl) (Hown.out.alloc _) wr.heap.size ⟨x1, x2, x3, x4, x5, x6, x7⟩ (by rfl) (Blk.new _ _ _) (by omega) (by have := Hb.out.size; simp; omega) ?_); intro v6 w6 hown6 hg6 hor6; have Hown6 := Lib.hid hown6; have Hb6 := Lib.hid ((Hb.out.alloc Hb.out.size _).grown hg6 (by have := Hb.out.size; simp; omega) (fun j hj => (Hown.out.block j hj).1)); clear hown6 hg6 hor6)
          go_roundw
          case measure => simp [intOf]; omega
          case rel => exact ⟨k + 1, by go_num, hlt, by rw [HN.out]; exact Hown6.out, Hb6.out⟩
      · have hkk : k = L.length := by omega
        subst hkk
        have hfz := hR.ptr.frozen 0
        have Ht := Lib.hid (List.take_length (l := L))
        clear hR hown hb hEl
        go_wp2
        go_ret
        have := Hown.out
        rw [Ht.out] at this
        refine ⟨rfl, ?_⟩
        have h2 := rw_end HR5.out Hb5.out this Hb.out
        simpa using h2
  · clear hh5 hR5
    go_wp2
    go_ret
    exact ⟨rfl, Hb5.out⟩

end Go.Proofs.Ytannngcdphafdaa
