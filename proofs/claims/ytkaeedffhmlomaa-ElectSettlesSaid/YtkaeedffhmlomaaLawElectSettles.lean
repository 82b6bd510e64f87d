/-
  The law ElectSettles: its walk.
-/
import Derived.BigRegion
import Derived.Test.YtkaeedffhmlomaaProg
import Derived.Test.YtkaeedffhmlomaaLawElectIs
import Derived.Test.YtkaeedffhmlomaaElAgain
import Derived.Test.YtkaeedffhmlomaaAppend
import Derived.Test.YtkaeedffhmlomaaLawElectStable
namespace Go.Proofs.Ytkaeedffhmlomaa
open Go.RowKit

def rndN : Nat → List Cand → List Cand
  | 0, l => l
  | r + 1, l => rnd (rndN r l)
theorem rndN_len (r : Nat) (l : List Cand) : (rndN r l).length = l.length := by
  induction r with
  | zero => rfl
  | succ r ih => simp [rndN, rnd, ih]
/-- the first k have elected -/
def partR (l : List Cand) (k : Nat) : List Cand := (l.take k).map (fun c => { c with dr := (elect c.id l).1, bdr := (elect c.id l).2 }) ++ l.drop k
theorem partR_len (l : List Cand) (k : Nat) (h : k ≤ l.length) : (partR l k).length = l.length := by simp [partR]; omega
theorem partR_at (l : List Cand) (k : Nat) (h : k < l.length) : (partR l k)[k]'(by rw [partR_len l k (by omega)]; exact h) = l[k] := by
  unfold partR
  rw [List.getElem_append_right (by simp; omega)]
  have e : k - min k l.length = 0 := by omega
  simp [e]
theorem partR_succ (l : List Cand) (k : Nat) (h : k < l.length) : partR l (k + 1) = (partR l k).set k { l[k] with dr := (elect l[k].id l).1, bdr := (elect l[k].id l).2 } := by
  unfold partR
  rw [List.take_succ_eq_append_getElem h, List.map_append, List.set_append_right _ _ (by simp; omega)]
  have e : l.drop k = l[k] :: l.drop (k + 1) := List.drop_eq_getElem_cons h
  have h0 : k - min k l.length = 0 := by omega
  rw [e]
  simp only [List.length_map, List.length_take, List.append_assoc, List.map_cons, List.map_nil, List.cons_append, List.nil_append, h0, List.set_cons_zero]
theorem partR_all (l : List Cand) : partR l l.length = rnd l := by simp [partR, rnd]
theorem partR_zero (l : List Cand) : partR l 0 = l := by simp [partR]

set_option maxHeartbeats 4000000 in
set_option maxRecDepth 100000 in
theorem electSettles_any (A : Option Addr) (cap : Nat) (l : List Cand) (w : World) (hl : CandsAt w w.heap.size A l) (hm : l.length ≤ maxLen) :
    Calls Try.prog 7 #[.slice A l.length cap] w fun e w' => e = .returned (.bool true) ∧ Below w.heap.size w w' := by
  unfold maxLen at hm
  have Hl := Lib.hid hl
  clear hl
  by_cases h30 : 12 < l.length
  · go_enter Try.func7, Try.ntmps7
    go_wp2_with (go_at_call 15; (with_reducible refine Calls.mono (wakes9 _) ?_); rintro e w1 ⟨rfl, hb⟩)
    go_ret
    exact ⟨rfl, hb⟩
  · have hn : l.length ≤ 2 ^ 40 := by omega
    have Hn := Lib.hid hn
    have hm' : l.length ≤ maxLen := by unfold maxLen; omega
    have Hm := Lib.hid hm'
    clear hn hm'
    by_cases hap : apartB l = true
    · have Hap := Lib.hid hap
      obtain ⟨i0, hi, hz0, hz1, hz2⟩ := info_parts infoC'
      clear hap
      go_enter Try.func7, Try.ntmps7
      go_wp2_with (first
        | (go_at_call 15; (with_reducible refine Calls.mono (wakes9 _) ?_); rintro e w1 ⟨rfl, hb⟩)
        | (go_at_call 16; (with_reducible refine Calls.mono (apart_any A cap l _ _ (CandsAt.of Hl.out hb hb.size) (Nat.le_refl _) Hm.out) ?_); rw [Hap.out]; rintro e w2 ⟨rfl, hb2⟩; have Hb := Lib.hid (hb.trans (hb2.mono hb.size)); clear hb2 hb))
      go_loopw [21] (fun i wr => ∃ k : Nat, k ≤ l.length ∧ i = .int .i64 k ∧ Below w.heap.size w wr) (fun i _ => l.length - (intOf i).toNat)
      case atStart => exact ⟨0, Nat.zero_le _, rfl, Hb.out⟩
      case round =>
        obtain ⟨k, hk, rfl, hb⟩ := hrel
        by_cases hlt : k < l.length
        · obtain ⟨b, o, rfl, hbB, e0, e1, e2, e3⟩ := CandsAt.at_ (CandsAt.below Hl.out hb) k hlt
          generalize l[k] = c at *
          rcases c with ⟨ci, cpr, cd, cb⟩
          go_wp2
          all_goals first
            | (go_roundw
               case measure => simp [intOf]; omega
               case rel => exact ⟨k + 1, hlt, by go_num, hb.alloc hb.size _⟩)
            | (go_ret
               exact ⟨rfl, hb.alloc hb.size _⟩)
        · have : k = l.length := by omega
          subst this
          have hset := settles Hap.out
          have hN : ∀ r, apartB (rndN r l) = true := by
            intro r
            induction r with
            | zero => exact Hap.out
            | succ r ih => exact rnd_apart ih
          have hset' : stable (rndN 6 l) = true := hset
          have hlenN := fun r => rndN_len r l
          have HN := Lib.hid hN
          have Hset := Lib.hid hset'
          have HlenN := Lib.hid hlenN
          clear hset hset' hN hlenN
          go_wp2_with (at_builtin; refine wpList_copy_c rfl _ _ _ rfl i0 _ Try.underlying22 hi hz0 hz1 hz2 rfl A cap l rfl rfl (CandsAt.of Hl.out hb hb.size) Hn.out ?_; intro v3 w3 hown hb3; have Hown := Lib.hid (hown.lower hb.size); have Hb3 := Lib.hid (hb.trans (hb3.mono hb.size)); clear hown hb3 hb)
          go_loopw [5, 74] (fun v i wr => ∃ (r : Nat) (A2 : Option Addr) (cp : Nat), r ≤ 6 ∧ i = .int .i64 r ∧ v = .slice A2 l.length cp ∧ OwnC wr w.heap.size (.slice A2 l.length cp) (rndN r l) ∧ Below w.heap.size w wr) (fun _ i _ => 6 - (intOf i).toNat)
          case atStart =>
            obtain ⟨A2, cp, e, _⟩ := Hown.out.shape
            exact ⟨0, A2, cp, by omega, rfl, e, e ▸ Hown.out, Hb3.out⟩
          case round =>
            obtain ⟨r, A2, cp, hr, rfl, rfl, hown, hb⟩ := hrel
            have hL := HlenN.out r
            by_cases hr6 : r < 6
            · have hapL := HN.out r
              have hrnd : rndN (r + 1) l = rnd (rndN r l) := rfl
              have hown' := hown
              generalize rndN r l = L at *
              have hcA := (OwnC.cands hown).2
              have hln : L.length ≤ 2 ^ 40 := by rw [hL]; exact Hn.out
              have hpl := partR_len L
              have hpa := partR_at L
              have hps := partR_succ L
              have hpall := partR_all L
              have hp0 := partR_zero L
              have HcA := Lib.hid hcA
              have Hln := Lib.hid hln
              have HL := Lib.hid hL
              have HapL := Lib.hid hapL
              have Hrnd := Lib.hid hrnd
              have HownL := Lib.hid hown
              have Hb4 := Lib.hid hb
              have Hpl := Lib.hid hpl
              have Hpa := Lib.hid hpa
              have Hps := Lib.hid hps
              have Hpall := Lib.hid hpall
              have Hp0 := Lib.hid hp0
              clear hown hown' hcA hln hL hapL hrnd hpl hpa hps hpall hp0
              obtain ⟨wo, rfl⟩ : ∃ wo : World, wo = wr := ⟨_, rfl⟩
              go_wp2_with (at_builtin; refine wpList_copy_n rfl _ _ _ rfl i0 _ Try.underlying22 hi hz0 hz1 hz2 rfl A2 l.length cp L rfl rfl HL.out.symm HcA.out Hln.out ?_; intro v5 w5 hown5 hb5; have Hown5 := Lib.hid hown5; have HownL5 := Lib.hid (HownL.out.below hb5); have Hb5 := Lib.hid (hb.trans (hb5.mono hb.size)); have hsz5 := hb5.size; clear hown5 hb5)
              obtain ⟨A3, cp3, hv5, _⟩ := Hown5.out.shape
              subst hv5
              go_loopw [81] (fun i wr => ∃ k : Nat, k ≤ l.length ∧ i = .int .i64 k ∧ OwnC wr w.heap.size (.slice A2 l.length cp) L ∧ OwnC wr wo.heap.size (.slice A3 L.length cp3) (partR L k) ∧ Below w.heap.size w wr) (fun i _ => l.length - (intOf i).toNat)
              case atStart => exact ⟨0, Nat.zero_le _, rfl, HownL5.out, by rw [Hp0.out]; exact Hown5.out, Hb5.out⟩
              case round =>
                obtain ⟨k, hk, rfl, hownA, hownB, hb⟩ := hrel
                have hL := HL.out
                by_cases hlt : k < l.length
                · have hkL : k < L.length := by omega
                  have hkP : k < (partR L k).length := by rw [Hpl.out k (by omega)]; exact hkL
                  have hel := elect_claims HapL.out (claims_of ((apart_iff L).1 HapL.out).1) (List.getElem_mem hkL)
                  obtain ⟨g2, cp', hv, -, hg2, c0, c1, c2, c3, -⟩ := hownA.at_ k hkL
                  obtain rfl : A2 = some ⟨g2, 0, none⟩ := by simp only [Value.slice.injEq] at hv; exact hv.1
                  obtain ⟨g3, cp', hv', hg3, -⟩ := hownB.at_ k hkP
                  obtain rfl : A3 = some ⟨g3, 0, none⟩ := by simp only [Value.slice.injEq] at hv'; exact hv'.1
                  have hgw : g2 < wo.heap.size := by
                    obtain ⟨g', cp', hv, _, h, _⟩ := HownL.out.at_ k hkL
                    simp only [Value.slice.injEq, Option.some.injEq, Addr.mk.injEq] at hv
                    rw [hv.1.1]; exact h
                  have hset := fun (W : World) (ho : OwnC W wo.heap.size (.slice (some ⟨g3, 0, none⟩) L.length cp3) (partR L k)) => OwnC.set23 ho k hkP L[k] (Hpa.out k hkL) (elect L[k].id L).1 (elect L[k].id L).2
                  rw [← Hps.out k hkL] at hset
                  have hat3 := fun (W : World) (ho : OwnC W wo.heap.size (.slice (some ⟨g3, 0, none⟩) L.length cp3) (partR L k)) => OwnC.c4 ho k hkP L[k] (Hpa.out k hkL)
                  generalize hc : L[k] = c at *
                  rcases c with ⟨ci, cpr, cd, cb⟩
                  rcases hes : elect ci L with ⟨ex, ey⟩
                  simp only [hes] at hset
                  have Hes := Lib.hid hes
                  have Hset := Lib.hid hset
                  have Hat3 := Lib.hid hat3
                  have HbA := Lib.hid (hb.alloc hb.size (.cells #[.int .i64 ci, .int .i64 cpr, .int .i64 cd, .int .i64 cb] 33))
                  have HownA := Lib.hid (hownA.alloc (.cells #[.int .i64 ci, .int .i64 cpr, .int .i64 cd, .int .i64 cb] 33))
                  have HownB := Lib.hid (hownB.alloc (.cells #[.int .i64 ci, .int .i64 cpr, .int .i64 cd, .int .i64 cb] 33))
                  have hkL' : (k : Int) < (L.length : Int) := by omega
                  have hszo : w.heap.size ≤ wo.heap.size := Hb4.out.size
                  clear hv hv' hc hes hset hat3 hownA hownB hb hL hel hkP
                  go_wp2_with (go_at_call 19; (with_reducible refine Calls.mono (elect_vn (OwnC.cands HownA.out).2 (Nat.le_refl _) Hln.out Hes.out HL.out.symm) ?_); rintro e w6 ⟨rfl, hb6⟩; have hownB6 := HownB.out.below hb6; obtain ⟨x0, x1, x2, x3, f0, f1, f2, f3, _, _⟩ := Hat3.out _ hownB6; have HownA6 := Lib.hid (HownA.out.below hb6); have HownB6 := Lib.hid hownB6; have Hb6 := Lib.hid (HbA.out.trans (hb6.mono HbA.out.size)); clear hownB6 hb6)
                  go_roundw
                  case measure => simp [intOf]; omega
                  case rel =>
                    have hne : ∀ j, (⟨g3, j, none⟩ : Addr).block ≠ g2 := fun j => by show g3 ≠ g2; omega
                    have hgb : ∀ j, w.heap.size ≤ (⟨g3, j, none⟩ : Addr).block := fun j => Nat.le_trans hszo hg3
                    exact ⟨k + 1, hlt, by go_num, (HownA6.out.setOther (hne _) _).setOther (hne _) _, Hset.out _ HownB6.out, (Hb6.out.setCell (hgb _) _).setCell (hgb _) _⟩
                · have : k = l.length := by omega
                  subst this
                  have hfin : OwnC wr w.heap.size (.slice A3 l.length cp3) (rndN (r + 1) l) := by
                    have h := hownB.lower Hb4.out.size
                    rw [← hL, Hpall.out, hL] at h
                    rw [Hrnd.out]; exact h
                  have Hfin := Lib.hid hfin
                  have hv : Value.slice A3 L.length cp3 = Value.slice A3 l.length cp3 := by rw [hL]
                  have Hv := Lib.hid hv
                  clear hfin hownA hownB hL hv
                  go_wp2
                  go_roundw
                  case measure => simp [intOf]; omega
                  case rel => exact ⟨r + 1, A3, cp3, by omega, by go_num, Hv.out, Hfin.out, hb⟩
            · have : r = 6 := by omega
              subst this
              have hcA := (OwnC.cands hown).2
              have hln : (rndN 6 l).length ≤ 2 ^ 40 := by rw [hL]; exact Hn.out
              generalize rndN 6 l = m at *
              have HcA := Lib.hid hcA
              have Hln := Lib.hid hln
              have HL := Lib.hid hL
              clear hown hcA hln hL
              go_wp2_with (go_at_call 21; (with_reducible refine Calls.mono (stable_n _ _ cp m _ _ HcA.out (Nat.le_refl _) Hln.out HL.out.symm) ?_); rw [Hset.out]; rintro e w6 ⟨rfl, hb6⟩)
              go_ret
              exact ⟨rfl, hb.trans (hb6.mono hb.size)⟩
    · have hap := Bool.eq_false_iff.2 hap
      have Hap := Lib.hid hap
      clear hap
      go_enter Try.func7, Try.ntmps7
      go_wp2_with (first
        | (go_at_call 15; (with_reducible refine Calls.mono (wakes9 _) ?_); rintro e w1 ⟨rfl, hb⟩)
        | (go_at_call 16; (with_reducible refine Calls.mono (apart_any A cap l _ _ (CandsAt.of Hl.out hb hb.size) (Nat.le_refl _) Hm.out) ?_); rw [Hap.out]; rintro e w2 ⟨rfl, hb2⟩; have hb := hb.trans (hb2.mono hb.size); clear hb2))
      go_ret
      exact ⟨rfl, hb⟩

end Go.Proofs.Ytkaeedffhmlomaa
