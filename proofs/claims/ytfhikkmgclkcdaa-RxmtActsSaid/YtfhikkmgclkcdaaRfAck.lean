/-
  Layer 16: the document's Ack, Forget and Drop.
-/
import Derived.Test.YtfhikkmgclkcdaaRfPut
namespace Go.Proofs.Ytfhikkmgclkcdaa
open Go.RowKit

theorem filter_take (p : E5 → Bool) (R : List E5) (k : Nat) (hk : k < R.length) : (R.take (k + 1)).filter p = if p R[k] = true then (R.take k).filter p ++ [R[k]] else (R.take k).filter p := by
  rw [List.take_succ_eq_append_getElem hk, List.filter_append]
  cases h : p R[k] <;> simp [h]
theorem filter_take_len (p : E5 → Bool) (R : List E5) (k : Nat) : ((R.take k).filter p).length ≤ k := by
  have h1 := List.length_filter_le p (R.take k)
  rw [List.length_take] at h1
  omega
/-- what is stored in the pointer's block at last -/
theorem own_apart {w wr : World} {v u : Value} {M : List E5} (hv : ∀ g, v.ownBlock = some g → g < w.heap.size) (h : OwnR 168 5 E5.cells wr w.heap.size u M) : v.ownBlock = none ∨ v.ownBlock ≠ u.ownBlock := by
  cases hvb : v.ownBlock with
  | none => exact .inl rfl
  | some g =>
    right
    intro e
    have h1 := hv g hvb
    have h2 := (h.block g e.symm).1
    omega
theorem rf_stored {w wr : World} {q : Nat} {v u : Value} {R R' : List E5} (h : RfAt wr q v R) (hb : Below w.heap.size w wr) (hq : q < w.heap.size) (ho : OwnR 168 5 E5.cells wr w.heap.size u R') :
    RfAt (wr.setCell ⟨q, 0, none⟩ u) q u R' ∧ Kept2 w (wr.setCell ⟨q, 0, none⟩ u) q none ∧ (∀ g, u.ownBlock = some g → w.heap.size ≤ g) := by
  refine ⟨⟨by simpa using h.ptr.set_ 0 u, (ho.lower (by omega)).set_ (by simp) u⟩, ?_, fun g hg => (ho.block g hg).1⟩
  exact Kept2.set_ ⟨hb.os, hb.tape, hb.output, hb.size, fun i hi _ _ => hb.block i hi⟩ rfl u

set_option maxHeartbeats 4000000 in
set_option maxRecDepth 100000 in
theorem refAck_any (q : Nat) (v : Value) (R : List E5) (lan id k1 k2 k3 : Int) (w : World) (hR : RfAt w q v R) (hn : R.Nodup) (hlen : R.length ≤ 2 ^ 20) :
    Calls Try.prog 52 #[.pointer (some ⟨q, 0, none⟩), .int .i64 lan, .int .i64 id, .agg #[.int .i64 k1, .int .i64 k2, .int .i64 k3]] w fun r w' =>
      ∃ u, r = .returned (.bool (onB16 R ⟨lan, id, ⟨k1, k2, k3⟩⟩)) ∧ RfAt w' q u (R.filter fun x => decide (x ≠ ⟨lan, id, ⟨k1, k2, k3⟩⟩)) ∧ Kept2 w w' q none ∧ (∀ g, u.ownBlock = some g → w.heap.size ≤ g) := by
  obtain ⟨A, cap, hv⟩ := hR.own.shape
  subst hv
  have hR1 := hR.alloc (.cells #[.int .i64 k1, .int .i64 k2, .int .i64 k3] 61)
  have HFind := Lib.hid (refFind_any q _ R lan id k1 k2 k3 _ hR1 hlen rfl)
  have HR1 := Lib.hid hR1
  have Hvb := Lib.hid (fun g hg => (hR.own.block g hg).2)
  have Hb0 := Lib.hid ((Below.refl w.heap.size w).alloc (Nat.le_refl _) (.cells #[.int .i64 k1, .int .i64 k2, .int .i64 k3] 61))
  have hq := hR.ptr.lt
  have hidx := (idx_on R ⟨lan, id, ⟨k1, k2, k3⟩⟩).1
  have Hidx := Lib.hid hidx
  have Hne := Lib.hid (fun (k : Nat) (hk : k < R.length) => idx_ne (e := ⟨lan, id, ⟨k1, k2, k3⟩⟩) hn hk)
  have Hflt := Lib.hid (filter_take (fun x => decide (x ≠ ⟨lan, id, ⟨k1, k2, k3⟩⟩)) R)
  have Hfl := Lib.hid (filter_take_len (fun x => decide (x ≠ ⟨lan, id, ⟨k1, k2, k3⟩⟩)) R)
  generalize idxI R ⟨lan, id, ⟨k1, k2, k3⟩⟩ = z at *
  clear hR hR1 hn hidx
  go_enter Try.func52, Try.ntmps52
  go_wp2_with (go_at_call 58; (with_reducible refine Calls.mono HFind.out ?_); rintro r w1 ⟨rfl, hb1⟩; have HR2 := Lib.hid (HR1.out.keep hb1); have Hb1 := Lib.hid (Hb0.out.trans (hb1.mono Hb0.out.size)); clear hb1)
  go_loopw [10, 11] (fun u i wr => ∃ k : Nat, i = .int .i64 k ∧ k ≤ R.length ∧ OwnR 168 5 E5.cells wr w.heap.size u ((R.take k).filter fun x => decide (x ≠ ⟨lan, id, ⟨k1, k2, k3⟩⟩)) ∧ RfAt wr q (.slice A R.length cap) R ∧ Below w.heap.size w wr) (fun _ i _ => R.length - (intOf i).toNat)
  case atStart => exact ⟨0, rfl, Nat.zero_le _, OwnR.nil _ _, HR2.out, Hb1.out⟩
  case round =>
    obtain ⟨k, rfl, hk, hown, hrf, hb⟩ := hrel
    have hMl := Hfl.out k
    have hc := hrf.cell
    by_cases hlt : k < R.length
    · obtain ⟨g, c, hv, z0, z1, z2, z3, z4⟩ := hrf.row k hlt
      injection hv with hA hn hcap
      subst hA hcap
      have hkl : (k : Int) < (R.length : Int) := by omega
      have hf := Hflt.out k hlt
      have hne := Hne.out k hlt
      obtain ⟨M, hM⟩ : ∃ M, (R.take k).filter (fun x => decide (x ≠ ⟨lan, id, ⟨k1, k2, k3⟩⟩)) = M := ⟨_, rfl⟩
      rw [hM] at hown hMl hf
      obtain ⟨A10, c10, hv10⟩ := hown.shape
      subst hv10
      have Hf := Lib.hid hf
      have Hne2 := Lib.hid hne
      have Hown := Lib.hid hown
      have Hrf := Lib.hid hrf
      have Hb := Lib.hid hb
      clear hf hne hown hrf hb hn hM
      generalize R[k] = e at *
      obtain ⟨e1, e2, ⟨e3, e4, e5⟩⟩ := e
      simp only at z0 z1 z2 z3 z4
      by_cases he : (⟨e1, e2, ⟨e3, e4, e5⟩⟩ : E5) = ⟨lan, id, ⟨k1, k2, k3⟩⟩
      · have hz : z = (k : Int) := (Hne2.out.2 he).symm
        subst hz
        have Hf2 := Lib.hid (Hf.out.trans (if_neg (by simp [he])))
        clear he
        go_wp2
        go_roundw
        case measure => simp [intOf]; omega
        case rel => exact ⟨k + 1, by go_num, hlt, by rw [Hf2.out]; exact Hown.out, Hrf.out, Hb.out⟩
      · have hz : ¬(k : Int) = z := fun h => he (Hne2.out.1 h)
        have Hf2 := Lib.hid (Hf.out.trans (if_pos (decide_eq_true he)))
        clear he
        go_wp2_with (at_builtin; (refine app_row (e := 168) E5.cells (fun _ => rfl) (by decide) (bytes := 40) (by decide) infoRow rfl Try.underlying97 onesE (by rfl) _ _ (by rfl) w.heap.size _ M (by rfl) (Hown.out.alloc _) wr.heap.size ⟨e1, e2, ⟨e3, e4, e5⟩⟩ (by rfl) (Blk.new _ _ _) (by omega) (by have := Hb.out.size; simp; omega) ?_); intro v5 w5 hown5 hg5 hor5; have Hown5 := Lib.hid hown5; have Hb5 := Lib.hid ((Hb.out.alloc Hb.out.size _).grown hg5 (by have := Hb.out.size; simp; omega) (fun j hj => (Hown.out.block j hj).1)); have Hrf5 := Lib.hid (show RfAt w5 q _ R from ⟨((Hrf.out.alloc _).ptr).grown hg5 (fun e => by have := (Hown.out.block q e.symm).1; omega), (Hrf.out.alloc _).own.kept hg5 (own_apart Hvb.out Hown.out)⟩); clear hown5 hg5 hor5)
        go_roundw
        case measure => simp [intOf]; omega
        case rel => exact ⟨k + 1, by go_num, hlt, by rw [Hf2.out]; exact Hown5.out, Hrf5.out, Hb5.out⟩
    · have hkk : k = R.length := by omega
      subst hkk
      rw [List.take_length] at hown
      obtain ⟨M, hM⟩ : ∃ M, R.filter (fun x => decide (x ≠ ⟨lan, id, ⟨k1, k2, k3⟩⟩)) = M := ⟨_, rfl⟩
      rw [hM] at hown
      have HM := Lib.hid hM
      clear hM
      obtain ⟨A10, c10, hv10⟩ := hown.shape
      have Hend := Lib.hid (rf_stored hrf hb hq hown)
      rw [hv10] at Hend
      have hfr := hrf.ptr.frozen 0
      have Hidx2 := Lib.hid Hidx.out
      subst hv10
      clear hrf hown hb
      go_wp2
      go_ret
      exact ⟨_, by rw [← Hidx.out]; rfl, by rw [HM.out]; exact Hend.out.1, Hend.out.2.1, Hend.out.2.2⟩

end Go.Proofs.Ytfhikkmgclkcdaa
