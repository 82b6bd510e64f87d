/-
  The law AuditParts: its walk.
-/
import Derived.Test.YtfhikkmgclkcdaaLawAuditOn
import Derived.Test.YtfhikkmgclkcdaaAuParts
namespace Go.Proofs.Ytfhikkmgclkcdaa
open Go.RowKit

def sumK (L : List VL) (k : Nat) : Nat := ((L.take k).map fun x => x.2.length).sum
theorem sumK_succ (L : List VL) (k : Nat) (hk : k < L.length) : sumK L (k + 1) = sumK L k + L[k].2.length := by
  unfold sumK
  rw [List.take_succ_eq_append_getElem hk, List.map_append, List.sum_append]
  simp
theorem sumK_le (L : List VL) : ∀ k, sumK L k ≤ sumK L L.length := by
  intro k
  unfold sumK
  rw [List.take_length]
  have h : L = L.take k ++ L.drop k := (List.take_append_drop k L).symm
  calc ((L.take k).map fun x => x.2.length).sum ≤ ((L.take k).map fun x => x.2.length).sum + ((L.drop k).map fun x => x.2.length).sum := Nat.le_add_right _ _
    _ = ((L.take k ++ L.drop k).map fun x => x.2.length).sum := by rw [List.map_append, List.sum_append]
    _ = (L.map fun x => x.2.length).sum := by rw [← h]

set_option maxHeartbeats 4000000 in
set_option maxRecDepth 100000 in
theorem auditParts_any (A : Option Addr) (cap : Nat) (l : List Stt) (w : World) (hl : StatesAt w w.heap.size A l) (hm : l.length ≤ maxLen) :
    Calls Try.prog 6 #[.slice A l.length cap] w fun r w' => r = .returned (.bool true) ∧ Below w.heap.size w w' := by
  have Hl := Lib.hid hl
  have Hm := Lib.hid hm
  have hcl := counted_len l
  obtain ⟨R, hR⟩ : ∃ R, partsR (partP l) (idsL l) = R := ⟨_, rfl⟩
  rcases R with ⟨PS, SS⟩
  have hPS : PS = partsA l 16 := by rw [← parts_eq, hR]
  have HR := Lib.hid (show partsR (fun id => outS (iterS (jC (countedL l)) (idsL l) (setS (fun _ => false) id) 16) 16) (idsL l) = (PS, SS) from hR)
  have HPS := Lib.hid hPS
  clear hl hm hR hPS
  cases hg : greatT l
  all_goals
    have Hg := Lib.hid hg
    clear hg
    go_enter Try.func6, Try.ntmps6
    go_wp2_with (first
      | (go_at_call 18; (with_reducible refine Calls.mono (wakes27 _) ?_); rintro r w1 ⟨rfl, hb1⟩; have Hb := Lib.hid hb1; clear hb1)
      | (go_at_call 19; (with_reducible refine Calls.mono (greatT_any A cap l _ _ (Hl.out.below Hb.out) Hb.out.size Hm.out Hg.out) ?_); rintro r w2 ⟨rfl, hb2⟩; have Hb := Lib.hid (Hb.out.trans (hb2.mono Hb.out.size)); clear hb2)
      | (go_at_call 26; (with_reducible refine Calls.mono (parts_any A cap l _ _ (Hl.out.below Hb.out) Hb.out.size Hm.out) ?_); rintro r w3 ⟨v3, L3, rfl, hll3, hL3, hb3⟩; obtain ⟨A3, c3, rfl⟩ := hll3.shape; have Hll3 := Lib.hid hll3; have HL3 := Lib.hid hL3; have Hb := Lib.hid (Hb.out.trans (hb3.mono Hb.out.size)); clear hll3 hL3 hb3)
      | (go_at_call 22; (with_reducible refine Calls.mono (refCounted_any A cap l _ _ (Hl.out.below Hb.out) Hb.out.size Hm.out) ?_); rintro r w4 ⟨A4, cap4, rfl, hst4, hb4⟩; have Hst := Lib.hid hst4; have Hll3 := Lib.hid (Hll3.out.below hb4); have Hb := Lib.hid (Hb.out.trans (hb4.mono Hb.out.size)); clear hst4 hb4)
      | (go_at_call 27; (with_reducible refine Calls.mono (refParts_any _ _ _ (countedL l) (idsL l) _ _ Hst.out (Nat.le_refl _) (by omega) rfl (ids_map l) (fun x hx => (mem_idsL.1 hx).1) HR.out) ?_); rintro r w5 ⟨v5, L5, rfl, hll5, hL5, hb5⟩; obtain ⟨A5, c5, rfl⟩ := hll5.shape; have hlen35 : L3.length = L5.length := (by have h1 := congrArg List.length HL3.out; have h2 := congrArg List.length (hL5.trans HPS.out); simp only [List.length_map] at h1 h2; omega); have Hll5 := Lib.hid hll5; have HL5 := Lib.hid hL5; have Hll3 := Lib.hid (Hll3.out.below hb5); have Hb := Lib.hid (Hb.out.trans (hb5.mono Hb.out.size)); have Hlen := Lib.hid hlen35; clear hll5 hL5 hb5))
  · have hS : sumK L3 L3.length = (countedL l).length := by
      unfold sumK
      rw [List.take_length, ← parts_sum l, ← HL3.out, List.map_map]
      rfl
    have hL16 : L3.length ≤ 16 := by
      have h1 := congrArg List.length HL3.out
      have h2 := partsA_len l 16
      simp only [List.length_map] at h1
      omega
    have HS := Lib.hid hS
    have hpair : ∀ k (h3 : k < L3.length) (h5 : k < L5.length), L3[k].2 = L5[k].2 := fun k h3 h5 => by
      have e : L3.map Prod.snd = L5.map Prod.snd := HL3.out.trans (HL5.out.trans HPS.out).symm
      have := congrArg (fun M => M[k]?) e
      simpa [h3, h5] using this
    have Hpair := Lib.hid hpair
    clear hS hpair
    go_loopw [5, 24] (fun s i wr => ∃ k : Nat, k ≤ L3.length ∧ i = .int .i64 k ∧ s = .int .i64 (sumK L3 k : Nat) ∧ OwnLL wr w2.heap.size (.slice A3 L3.length c3) L3 ∧ OwnLL wr w4.heap.size (.slice A5 L5.length c5) L5 ∧ Below w.heap.size w wr) (fun _ i _ => L3.length - (intOf i).toNat)
    case atStart => exact ⟨0, Nat.zero_le _, rfl, rfl, Hll3.out, Hll5.out, Hb.out⟩
    case round =>
      obtain ⟨k, hk, rfl, rfl, hl3, hl5, hb⟩ := hrel
      by_cases hlt : k < L3.length
      · have hlt5 : k < L5.length := by have := Hlen.out; omega
        obtain ⟨g3, p3, e3, x3⟩ := hl3.at_ k hlt
        obtain ⟨g5, p5, e5, x5⟩ := hl5.at_ k hlt5
        simp only [Value.slice.injEq] at e3 e5
        obtain ⟨rfl, -, rfl⟩ := e3
        obtain ⟨rfl, -, rfl⟩ := e5
        have o3 := (hl3.each _ (List.getElem_mem hlt)).1
        have o5 := (hl5.each _ (List.getElem_mem hlt5)).1
        rw [← Hpair.out k hlt hlt5] at o5
        have hsucc := sumK_succ L3 k hlt
        have hle := sumK_le L3 (k + 1)
        have hS0 := HS.out
        have hplen : (L3[k]).2.length ≤ 16 := by omega
        clear hS0
        generalize L3[k] = y at *
        generalize L5[k] = z at *
        rcases y with ⟨y1, y2⟩
        rcases z with ⟨z1, z2⟩
        simp only at x3 x5 o3 o5 hsucc hplen
        obtain ⟨B3, q3, rfl⟩ := o3.shape
        obtain ⟨B5, q5, rfl⟩ := o5.shape
        have hS := HS.out
        have hsum : sumK L3 k ≤ 16 := by omega
        have hsum2 : sumK L3 (k + 1) ≤ 16 := by omega
        have hkl : (k : Int) < (L3.length : Int) := by omega
        have hkl5 : (k : Int) < (L5.length : Int) := by omega
        have Hl3 := Lib.hid hl3
        have Hl5 := Lib.hid hl5
        have Hb := Lib.hid hb
        have H3 := Lib.hid o3
        have H5 := Lib.hid o5
        have Hsucc := Lib.hid hsucc
        clear hl3 hl5 hb o3 o5 hsucc hle hS
        go_wp2_with fail
        with_reducible refine Calls.mono (ints_same y2 (by omega) _ _ _ _ _ H3.out H5.out) ?_
        rintro r w6 ⟨rfl, hb6⟩
        have Hl3 := Lib.hid (Hl3.out.below hb6)
        have Hl5 := Lib.hid (Hl5.out.below hb6)
        have Hb := Lib.hid (Hb.out.trans (hb6.mono Hb.out.size))
        clear hb6
        go_wp2
        go_roundw
        case measure => simp [intOf]; omega
        case rel => exact ⟨k + 1, hlt, by go_num, by rw [Hsucc.out]; go_num, Hl3.out, Hl5.out, Hb.out⟩
      · have hkk : k = L3.length := by omega
        subst hkk
        have hS := HS.out
        have hfin : ((sumK L3 L3.length : Nat) : Int) = ((countedL l).length : Int) := by rw [hS]
        have Hb := Lib.hid hb
        have Hfin := Lib.hid hfin
        clear hl3 hl5 hb hS hfin
        go_wp2_with (go_at_call 22; (with_reducible refine Calls.mono (refCounted_any A cap l _ _ (Hl.out.below Hb.out) Hb.out.size Hm.out) ?_); rintro r w7 ⟨A7, cap7, rfl, hst7, hb7⟩; have Hb := Lib.hid (Hb.out.trans (hb7.mono Hb.out.size)); clear hst7 hb7)
        go_ret
        refine ⟨?_, Hb.out⟩
        first
          | (simp; rw [← Hlen.out]; exact Hfin.out)
          | (simp [Hfin.out]; rw [← Hlen.out]; exact Hfin.out)
          | (rw [Hfin.out]; simp; done)
          | simp [Hfin.out]
          | (rw [← Hlen.out]; exact Hfin.out)
          | (rw [← Hlen.out]; simpa using Hfin.out)
          | (have h := Hfin.out; simp at h ⊢; omega)
  · go_ret
    exact ⟨rfl, Hb.out⟩

end Go.Proofs.Ytfhikkmgclkcdaa
