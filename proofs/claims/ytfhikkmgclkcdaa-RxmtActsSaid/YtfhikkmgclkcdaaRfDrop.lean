/-
  Layer 16: the document's Forget and Drop.
-/
import Derived.Test.YtfhikkmgclkcdaaRfAck
namespace Go.Proofs.Ytfhikkmgclkcdaa
open Go.RowKit

theorem filter_count (p : E5 → Bool) (R : List E5) : ((R.length : Int) - ((R.filter fun x => !p x).length : Nat) : Int) = ((R.filter p).length : Nat) := by
  induction R with
  | nil => rfl
  | cons x R ih =>
    cases h : p x
    · simp only [List.filter_cons, h, Bool.not_false, if_true, Bool.false_eq_true, if_false, List.length_cons]; omega
    · simp only [List.filter_cons, h, Bool.not_true, if_true, Bool.false_eq_true, if_false, List.length_cons]; omega
set_option maxHeartbeats 4000000 in
set_option maxRecDepth 100000 in
theorem refForget_any (q : Nat) (v : Value) (R : List E5) (lan id : Int) (w : World) (hR : RfAt w q v R) (hlen : R.length ≤ 2 ^ 20) :
    Calls Try.prog 53 #[.pointer (some ⟨q, 0, none⟩), .int .i64 lan, .int .i64 id] w fun r w' =>
      ∃ u, r = .returned (.int .i64 (R.filter (hereB lan id)).length) ∧ RfAt w' q u (R.filter fun x => !hereB lan id x) ∧ Kept2 w w' q none ∧ (∀ g, u.ownBlock = some g → w.heap.size ≤ g) := by
  obtain ⟨A, cap, hv⟩ := hR.own.shape
  subst hv
  have HR1 := Lib.hid hR
  have Hvb := Lib.hid (fun g hg => (hR.own.block g hg).2)
  have hq := hR.ptr.lt
  have Hflt := Lib.hid (filter_take (fun x => !hereB lan id x) R)
  have Hfl := Lib.hid (filter_take_len (fun x => !hereB lan id x) R)
  have Hcnt := Lib.hid (filter_count (hereB lan id) R)
  clear hR
  go_enter Try.func53, Try.ntmps53
  go_wp2
  go_loopw [7, 8] (fun u i wr => ∃ k : Nat, i = .int .i64 k ∧ k ≤ R.length ∧ OwnR 168 5 E5.cells wr w.heap.size u ((R.take k).filter fun x => !hereB lan id x) ∧ RfAt wr q (.slice A R.length cap) R ∧ Below w.heap.size w wr) (fun _ i _ => R.length - (intOf i).toNat)
  case atStart => exact ⟨0, rfl, Nat.zero_le _, OwnR.nil _ _, HR1.out, Below.refl _ _⟩
  case round =>
    obtain ⟨k, rfl, hk, hown, hrf, hb⟩ := hrel
    have hMl := Hfl.out k
    have hc := hrf.cell
    by_cases hlt : k < R.length
    · obtain ⟨g, c, hv, z0, z1, z2, z3, z4⟩ := hrf.row k hlt
      injection hv with hA hn hcap
      subst hA hcap
      have hkl : (k : Int) < (R.length : Int) := by omega
      have hf := Hflt.out k hlt
      obtain ⟨M, hM⟩ : ∃ M, (R.take k).filter (fun x => !hereB lan id x) = M := ⟨_, rfl⟩
      rw [hM] at hown hMl hf
      obtain ⟨A10, c10, hv10⟩ := hown.shape
      subst hv10
      have Hf := Lib.hid hf
      have Hown := Lib.hid hown
      have Hrf := Lib.hid hrf
      have Hb := Lib.hid hb
      clear hf hown hrf hb hn hM
      generalize R[k] = e at *
      obtain ⟨e1, e2, ⟨e3, e4, e5⟩⟩ := e
      simp only at z0 z1 z2 z3 z4
      rcases here_cases lan id ⟨e1, e2, ⟨e3, e4, e5⟩⟩ with ⟨t0, t1⟩ | ⟨t0, t1, t2⟩ | ⟨t0, t1, t2⟩
      · have n1 : ¬e1 = lan := by simpa using t1
        have Hf2 := Lib.hid (Hf.out.trans (if_pos (by rw [t0]; rfl)))
        clear t0 t1
        go_wp2_with (at_builtin; (refine app_row (e := 168) E5.cells (fun _ => rfl) (by decide) (bytes := 40) (by decide) infoRow rfl Try.underlying97 onesE (by rfl) _ _ (by rfl) w.heap.size _ M (by rfl) (Hown.out.alloc _) wr.heap.size ⟨e1, e2, ⟨e3, e4, e5⟩⟩ (by rfl) (Blk.new _ _ _) (by omega) (by have := Hb.out.size; simp; omega) ?_); intro v5 w5 hown5 hg5 hor5; have Hown5 := Lib.hid hown5; have Hb5 := Lib.hid ((Hb.out.alloc Hb.out.size _).grown hg5 (by have := Hb.out.size; simp; omega) (fun j hj => (Hown.out.block j hj).1)); have Hrf5 := Lib.hid (show RfAt w5 q _ R from ⟨((Hrf.out.alloc _).ptr).grown hg5 (fun e => by have := (Hown.out.block q e.symm).1; omega), (Hrf.out.alloc _).own.kept hg5 (own_apart Hvb.out Hown.out)⟩); clear hown5 hg5 hor5)
        go_roundw
        case measure => simp [intOf]; omega
        case rel => exact ⟨k + 1, by go_num, hlt, by rw [Hf2.out]; exact Hown5.out, Hrf5.out, Hb5.out⟩
      · have n1 : e1 = lan := by simpa using t1
        have n2 : ¬e2 = id := by simpa using t2
        subst n1
        have Hf2 := Lib.hid (Hf.out.trans (if_pos (by rw [t0]; rfl)))
        clear t0 t1 t2
        go_wp2_with (at_builtin; (refine app_row (e := 168) E5.cells (fun _ => rfl) (by decide) (bytes := 40) (by decide) infoRow rfl Try.underlying97 onesE (by rfl) _ _ (by rfl) w.heap.size _ M (by rfl) (Hown.out.alloc _) wr.heap.size ⟨e1, e2, ⟨e3, e4, e5⟩⟩ (by rfl) (Blk.new _ _ _) (by omega) (by have := Hb.out.size; simp; omega) ?_); intro v5 w5 hown5 hg5 hor5; have Hown5 := Lib.hid hown5; have Hb5 := Lib.hid ((Hb.out.alloc Hb.out.size _).grown hg5 (by have := Hb.out.size; simp; omega) (fun j hj => (Hown.out.block j hj).1)); have Hrf5 := Lib.hid (show RfAt w5 q _ R from ⟨((Hrf.out.alloc _).ptr).grown hg5 (fun e => by have := (Hown.out.block q e.symm).1; omega), (Hrf.out.alloc _).own.kept hg5 (own_apart Hvb.out Hown.out)⟩); clear hown5 hg5 hor5)
        go_roundw
        case measure => simp [intOf]; omega
        case rel => exact ⟨k + 1, by go_num, hlt, by rw [Hf2.out]; exact Hown5.out, Hrf5.out, Hb5.out⟩
      · have n1 : e1 = lan := by simpa using t1
        have n2 : e2 = id := by simpa using t2
        subst n1 n2
        have Hf2 := Lib.hid (Hf.out.trans (if_neg (by rw [t0]; decide)))
        clear t0 t1 t2
        go_wp2
        go_roundw
        case measure => simp [intOf]; omega
        case rel => exact ⟨k + 1, by go_num, hlt, by rw [Hf2.out]; exact Hown.out, Hrf.out, Hb.out⟩
    · have hkk : k = R.length := by omega
      subst hkk
      rw [List.take_length] at hown hMl
      have hcnt := Hcnt.out
      obtain ⟨M, hM⟩ : ∃ M, R.filter (fun x => !hereB lan id x) = M := ⟨_, rfl⟩
      rw [hM] at hown hcnt hMl
      have HM := Lib.hid hM
      have Hcnt2 := Lib.hid hcnt
      obtain ⟨A10, c10, hv10⟩ := hown.shape
      have Hend := Lib.hid (rf_stored hrf hb hq hown)
      rw [hv10] at Hend
      have hfr := hrf.ptr.frozen 0
      subst hv10
      clear hrf hown hb hM hcnt
      go_wp2
      go_ret
      exact ⟨_, by rw [← Hcnt2.out]; rfl, by rw [HM.out]; exact Hend.out.1, Hend.out.2.1, Hend.out.2.2⟩

set_option maxHeartbeats 4000000 in
set_option maxRecDepth 100000 in
theorem refDrop_any (q : Nat) (v : Value) (R : List E5) (k1 k2 k3 : Int) (w : World) (hR : RfAt w q v R) (hlen : R.length ≤ 2 ^ 20) :
    Calls Try.prog 54 #[.pointer (some ⟨q, 0, none⟩), .agg #[.int .i64 k1, .int .i64 k2, .int .i64 k3]] w fun r w' =>
      ∃ u, r = .returned (.int .i64 (R.filter (dropB ⟨k1, k2, k3⟩)).length) ∧ RfAt w' q u (R.filter fun x => !dropB ⟨k1, k2, k3⟩ x) ∧ Kept2 w w' q none ∧ (∀ g, u.ownBlock = some g → w.heap.size ≤ g) := by
  obtain ⟨A, cap, hv⟩ := hR.own.shape
  subst hv
  have HR1 := Lib.hid (hR.alloc (.cells #[.int .i64 k1, .int .i64 k2, .int .i64 k3] 61))
  have Hb0 := Lib.hid ((Below.refl w.heap.size w).alloc (Nat.le_refl _) (.cells #[.int .i64 k1, .int .i64 k2, .int .i64 k3] 61))
  have Hkb := Lib.hid (Blk.new w 61 #[.int .i64 k1, .int .i64 k2, .int .i64 k3])
  have Hvb := Lib.hid (fun g hg => (hR.own.block g hg).2)
  have hq := hR.ptr.lt
  have Hflt := Lib.hid (filter_take (fun x => !dropB ⟨k1, k2, k3⟩ x) R)
  have Hfl := Lib.hid (filter_take_len (fun x => !dropB ⟨k1, k2, k3⟩ x) R)
  have Hcnt := Lib.hid (filter_count (dropB ⟨k1, k2, k3⟩) R)
  clear hR
  go_enter Try.func54, Try.ntmps54
  go_wp2
  go_loopw [5, 6] (fun u i wr => ∃ k : Nat, i = .int .i64 k ∧ k ≤ R.length ∧ OwnR 168 5 E5.cells wr (w.heap.size + 1) u ((R.take k).filter fun x => !dropB ⟨k1, k2, k3⟩ x) ∧ RfAt wr q (.slice A R.length cap) R ∧ Below w.heap.size w wr ∧ Blk wr w.heap.size 61 #[.int .i64 k1, .int .i64 k2, .int .i64 k3]) (fun _ i _ => R.length - (intOf i).toNat)
  case atStart => exact ⟨0, rfl, Nat.zero_le _, OwnR.nil _ _, HR1.out, Hb0.out, Hkb.out⟩
  case round =>
    obtain ⟨k, rfl, hk, hown, hrf, hb, hkb⟩ := hrel
    have hMl := Hfl.out k
    have hc := hrf.cell
    have hkl0 := hkb.lt
    obtain ⟨y0, y1, y2⟩ : _ ∧ _ ∧ _ := ⟨hkb.cell 0, hkb.cell 1, hkb.cell 2⟩
    simp only [List.getElem?_toArray, List.getElem?_cons_zero, List.getElem?_cons_succ] at y0 y1 y2
    have Hkb1 := Lib.hid hkb
    clear hkb
    by_cases hlt : k < R.length
    · obtain ⟨g, c, hv, z0, z1, z2, z3, z4⟩ := hrf.row k hlt
      injection hv with hA hn hcap
      subst hA hcap
      have hkl : (k : Int) < (R.length : Int) := by omega
      have hf := Hflt.out k hlt
      obtain ⟨M, hM⟩ : ∃ M, (R.take k).filter (fun x => !dropB ⟨k1, k2, k3⟩ x) = M := ⟨_, rfl⟩
      rw [hM] at hown hMl hf
      obtain ⟨A10, c10, hv10⟩ := hown.shape
      subst hv10
      have Hf := Lib.hid hf
      have Hown := Lib.hid hown
      have Hrf := Lib.hid hrf
      have Hb := Lib.hid hb
      clear hf hown hrf hb hn hM
      generalize R[k] = e at *
      obtain ⟨e1, e2, ⟨e3, e4, e5⟩⟩ := e
      simp only at z0 z1 z2 z3 z4
      have heq := fun w => eqKeyR e3 e4 e5 k1 k2 k3 w
      by_cases he : (⟨e3, e4, e5⟩ : K3) = ⟨k1, k2, k3⟩
      · have Hf2 := Lib.hid (Hf.out.trans (if_neg (by simp [dropB, he])))
        rw [decide_eq_true he] at heq
        clear he
        go_wp2
        go_quiet (fail)
        go_wp2
        go_roundw
        case measure => simp [intOf]; omega
        case rel => exact ⟨k + 1, by go_num, hlt, by rw [Hf2.out]; exact Hown.out.below (below_drewN (Below.refl _ _) _), Hrf.out.drewN _, below_drewN Hb.out _, Hkb1.out.drewN _⟩
      · have Hf2 := Lib.hid (Hf.out.trans (if_pos (by simp only [dropB, decide_eq_false he, Bool.not_false])))
        rw [decide_eq_false he] at heq
        clear he
        go_wp2
        go_quiet (fail)
        obtain ⟨wd, hwd⟩ : ∃ wd, wr.drewN nq = wd := ⟨_, rfl⟩
        have Hown2 := Lib.hid (show OwnR 168 5 E5.cells wd (w.heap.size + 1) _ M by rw [← hwd]; exact Hown.out.below (below_drewN (Below.refl _ _) _))
        have Hrf2 := Lib.hid (show RfAt wd q _ R by rw [← hwd]; exact Hrf.out.drewN _)
        have Hb2 := Lib.hid (show Below w.heap.size w wd by rw [← hwd]; exact below_drewN Hb.out _)
        have Hkb2 := Lib.hid (show Blk wd w.heap.size 61 #[.int .i64 k1, .int .i64 k2, .int .i64 k3] by rw [← hwd]; exact Hkb1.out.drewN _)
        obtain ⟨g2, c2, hv2, u0, u1, u2, u3, u4⟩ : ∃ (g2 : Nat) (c2 : Nat), True ∧ wd.cell? ⟨g, k * 5, none⟩ = some (.int .i64 e1) ∧ wd.cell? ⟨g, k * 5 + 1, none⟩ = some (.int .i64 e2) ∧ wd.cell? ⟨g, k * 5 + 2, none⟩ = some (.int .i64 e3) ∧ wd.cell? ⟨g, k * 5 + 3, none⟩ = some (.int .i64 e4) ∧ wd.cell? ⟨g, k * 5 + 4, none⟩ = some (.int .i64 e5) := ⟨0, 0, trivial, by rw [← hwd]; exact z0, by rw [← hwd]; exact z1, by rw [← hwd]; exact z2, by rw [← hwd]; exact z3, by rw [← hwd]; exact z4⟩
        have hc2 := Hrf2.out.cell
        have hs2 := Hkb2.out.lt
        rw [hwd]
        clear z0 z1 z2 z3 z4 hc y0 y1 y2 heq hv2 hwd
        go_wp2_with (at_builtin; (refine app_row (e := 168) E5.cells (fun _ => rfl) (by decide) (bytes := 40) (by decide) infoRow rfl Try.underlying97 onesE (by rfl) _ _ (by rfl) (w.heap.size + 1) _ M (by rfl) (Hown2.out.alloc _) wd.heap.size ⟨e1, e2, ⟨e3, e4, e5⟩⟩ (by rfl) (Blk.new _ _ _) (by omega) (by simp; omega) ?_); intro v5 w5 hown5 hg5 hor5; have Hown5 := Lib.hid hown5; have Hb5 := Lib.hid ((Hb2.out.alloc Hb2.out.size _).grown hg5 (by simp; omega) (fun j hj => by have := (Hown2.out.block j hj).1; omega)); have Hrf5 := Lib.hid (show RfAt w5 q _ R from ⟨((Hrf2.out.alloc _).ptr).grown hg5 (fun e => by have := (Hown2.out.block q e.symm).1; omega), (Hrf2.out.alloc _).own.kept hg5 (own_apart Hvb.out (Hown2.out.lower (by omega)))⟩); have Hkb5 := Lib.hid ((Hkb2.out.alloc _).grown hg5 (fun e => by have := (Hown2.out.block _ e.symm).1; omega)); clear hown5 hg5 hor5)
        go_roundw
        case measure => simp [intOf]; omega
        case rel => exact ⟨k + 1, by go_num, hlt, by rw [Hf2.out]; exact Hown5.out, Hrf5.out, Hb5.out, Hkb5.out⟩
    · have hkk : k = R.length := by omega
      subst hkk
      rw [List.take_length] at hown hMl
      have hcnt := Hcnt.out
      obtain ⟨M, hM⟩ : ∃ M, R.filter (fun x => !dropB ⟨k1, k2, k3⟩ x) = M := ⟨_, rfl⟩
      rw [hM] at hown hcnt hMl
      have HM := Lib.hid hM
      have Hcnt2 := Lib.hid hcnt
      obtain ⟨A10, c10, hv10⟩ := hown.shape
      have Hend := Lib.hid (rf_stored hrf hb hq (hown.lower (by omega)))
      rw [hv10] at Hend
      have hfr := hrf.ptr.frozen 0
      subst hv10
      clear hrf hown hb hM hcnt
      go_wp2
      go_ret
      exact ⟨_, by rw [← Hcnt2.out]; rfl, by rw [HM.out]; exact Hend.out.1, Hend.out.2.1, Hend.out.2.2⟩

end Go.Proofs.Ytfhikkmgclkcdaa
