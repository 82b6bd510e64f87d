/-
  The law ElectStable: its walk.
-/
import Derived.BigRegion
import Derived.Test.YtkaeedffhmlomaaProg
import Derived.Test.YtkaeedffhmlomaaLawElectIs
import Derived.Test.YtkaeedffhmlomaaElAgain
import Derived.Test.YtkaeedffhmlomaaAppend
namespace Go.Proofs.Ytkaeedffhmlomaa
open Go.RowKit

/-- the first k take the two -/
def takeK (l : List Cand) (a b : Int) (k : Nat) : List Cand := (l.take k).map (fun c => { c with dr := a, bdr := b }) ++ l.drop k
theorem takeK_len (l : List Cand) (a b : Int) (k : Nat) (h : k ≤ l.length) : (takeK l a b k).length = l.length := by simp [takeK]; omega
theorem takeK_at (l : List Cand) (a b : Int) (k : Nat) (h : k < l.length) : (takeK l a b k)[k]'(by rw [takeK_len l a b k (by omega)]; exact h) = l[k] := by
  unfold takeK
  rw [List.getElem_append_right (by simp; omega)]
  have e : k - min k l.length = 0 := by omega
  simp [e]
theorem takeK_succ (l : List Cand) (a b : Int) (k : Nat) (h : k < l.length) : takeK l a b (k + 1) = (takeK l a b k).set k { l[k] with dr := a, bdr := b } := by
  unfold takeK
  rw [List.take_succ_eq_append_getElem h, List.map_append, List.set_append_right _ _ (by simp; omega)]
  have e : l.drop k = l[k] :: l.drop (k + 1) := List.drop_eq_getElem_cons h
  have h0 : k - min k l.length = 0 := by omega
  rw [e]
  simp only [List.length_map, List.length_take, List.append_assoc, List.map_cons, List.map_nil, List.cons_append, List.nil_append, h0, List.set_cons_zero]
theorem takeK_all (l : List Cand) (a b : Int) : takeK l a b l.length = taking l a b := by simp [takeK, taking]
theorem OwnC.set23 {w : World} {B g cap n : Nat} {l : List Cand} (h : OwnC w B (.slice (some ⟨g, 0, none⟩) n cap) l) (k : Nat) (hk : k < l.length) (c : Cand) (hc : l[k] = c) (x y : Int) :
    OwnC ((w.setCell ⟨g, k * 4 + 2, none⟩ (.int .i64 x)).setCell ⟨g, k * 4 + 3, none⟩ (.int .i64 y)) B (.slice (some ⟨g, 0, none⟩) n cap) (l.set k { c with dr := x, bdr := y }) := by
  subst hc
  have h1 := (h.set2 h.len k hk x).set3 (by simpa using h.len) k (by simpa using hk) y
  simpa using h1
theorem taking_unstable {l : List Cand} (hap : apartB l = true) {a b : Int} (ha : 1 ≤ a) (h2 : 2 ≤ l.length) (c : Cand) (hc : (taking l a b)[0]'(by simp [taking]; omega) = c) :
    stable ((taking l a b).set 0 { c with dr := 0 }) = false := by
  rcases l with _ | ⟨x, _ | ⟨y, l⟩⟩
  · simp at h2
  · simp at h2
  · unfold stable
    rw [List.all_eq_false]
    refine ⟨{ y with dr := a, bdr := b }, by simp [taking], ?_⟩
    simp [taking]
    intro h; omega

set_option maxHeartbeats 4000000 in
set_option maxRecDepth 100000 in
theorem electStable_any (A : Option Addr) (cap : Nat) (l : List Cand) (x y : Nat) (hx : x ≤ 255) (hy : y ≤ 255) (w : World) (hl : CandsAt w w.heap.size A l) (hm : l.length ≤ maxLen) :
    Calls Try.prog 6 #[.slice A l.length cap, .agg #[.int .u8 (x : Int), .int .u8 (y : Int)]] w fun e w' => e = .returned (.bool true) ∧ Below w.heap.size w w' := by
  unfold maxLen at hm
  have Hl := Lib.hid hl
  clear hl
  have hb0 : Below w.heap.size w (w.alloc (.cells #[.int .u8 (x : Int), .int .u8 (y : Int)] 37)) := (Below.refl _ _).alloc (Nat.le_refl _) _
  have hz0 : w.heap.size < (w.alloc (.cells #[.int .u8 (x : Int), .int .u8 (y : Int)] 37)).heap.size := by simp
  have hT0 : Blk (w.alloc (.cells #[.int .u8 (x : Int), .int .u8 (y : Int)] 37)) w.heap.size 37 #[.int .u8 (x : Int), .int .u8 (y : Int)] := Blk.new _ _ _
  have Hb0 := Lib.hid hb0
  have Hz0 := Lib.hid hz0
  have HT0 := Lib.hid hT0
  clear hb0 hz0 hT0
  by_cases h30 : 30 < l.length
  · go_enter Try.func6, Try.ntmps6
    go_wp2_with (go_at_call 15; (with_reducible refine Calls.mono (wakes9 _) ?_); rintro e w1 ⟨rfl, hb⟩)
    go_ret
    exact ⟨rfl, Hb0.out.trans (hb.mono Hb0.out.size)⟩
  · by_cases h2 : l.length < 2
    · go_enter Try.func6, Try.ntmps6
      go_wp2_with (go_at_call 15; (with_reducible refine Calls.mono (wakes9 _) ?_); rintro e w1 ⟨rfl, hb⟩)
      go_ret
      exact ⟨rfl, Hb0.out.trans (hb.mono Hb0.out.size)⟩
    · have hn : l.length ≤ 2 ^ 40 := by omega
      have Hn := Lib.hid hn
      have hm' : l.length ≤ maxLen := by unfold maxLen; omega
      have Hm := Lib.hid hm'
      clear hn hm'
      by_cases hap : apartB l = true
      · have Hap := Lib.hid hap
        have hpos : 0 < l.length := by omega
        obtain ⟨i0, hi, hz0, hz1, hz2⟩ := info_parts infoC'
        obtain ⟨a, ha⟩ : ∃ a, a = x % l.length := ⟨_, rfl⟩
        obtain ⟨b, hb⟩ : ∃ b, b = y % l.length := ⟨_, rfl⟩
        have hal : a < l.length := by rw [ha]; exact Nat.mod_lt _ hpos
        have hbl : b < l.length := by rw [hb]; exact Nat.mod_lt _ hpos
        have hai : (x : Int) % (l.length : Int) = (a : Int) := by rw [ha]; omega
        have hbi : (y : Int) % (l.length : Int) = (b : Int) := by rw [hb]; omega
        have hat : ((x : Int)).tmod (l.length : Int) = (a : Int) := by rw [Int.tmod_eq_emod_of_nonneg (by omega)]; exact hai
        have hbt : ((y : Int)).tmod (l.length : Int) = (b : Int) := by rw [Int.tmod_eq_emod_of_nonneg (by omega)]; exact hbi
        have hne : ¬ (l.length : Int) = 0 := by omega
        obtain ⟨bb, o, rfl, hbB, _, _, _, _⟩ := CandsAt.at_ Hl.out 0 hpos
        have hE : ∀ W, Below w.heap.size w W → ∀ k, (hk : k < l.length) → W.cell? ⟨bb, o + k * 4, none⟩ = some (.int .i64 l[k].id) ∧ W.cell? ⟨bb, o + k * 4 + 1, none⟩ = some (.int .i64 l[k].prio) := by
          intro W h k hk
          obtain ⟨b', o', e, _, h1, h2, _, _⟩ := CandsAt.at_ (CandsAt.below Hl.out h) k hk
          cases e
          exact ⟨h1, h2⟩
        have HE := Lib.hid hE
        clear ha hb hap hE
        go_enter Try.func6, Try.ntmps6
        go_wp2_with (first
          | (go_at_call 15; (with_reducible refine Calls.mono (wakes9 _) ?_); rintro e w1 ⟨rfl, hb1⟩; have hT1 := HT0.out.below hb1 Hz0.out; have hb := Hb0.out.trans (hb1.mono Hb0.out.size); have hz := Nat.lt_of_lt_of_le Hz0.out hb1.size; clear hb1)
          | (go_at_call 16; (with_reducible refine Calls.mono (apart_any _ cap l _ _ (CandsAt.of Hl.out hb hb.size) (Nat.le_refl _) Hm.out) ?_); rw [Hap.out]; rintro e w2 ⟨rfl, hb2⟩; obtain ⟨t0, t1, _, _⟩ := (hT1.below hb2 hz).cells2; have Hb := Lib.hid (hb.trans (hb2.mono hb.size)); clear hb2 hb hT1))
        obtain ⟨a0, a1⟩ := HE.out _ Hb.out a hal
        obtain ⟨b0, b1⟩ := HE.out _ Hb.out b hbl
        go_quiet (fail)
        by_cases hab : a = b
        · have hab' : ((a : Int) == (b : Int)) = true := by simp [hab]
          clear hab
          go_wp2
          go_ret
          exact ⟨rfl, below_drewN Hb.out _⟩
        · have hab' : ((a : Int) == (b : Int)) = false := by simp; omega
          by_cases hpa : l[a].prio ≤ 0
          · clear hab
            go_wp2
            go_ret
            exact ⟨rfl, below_drewN Hb.out _⟩
          · by_cases hpb : l[b].prio ≤ 0
            · clear hab
              go_wp2
              go_ret
              exact ⟨rfl, below_drewN Hb.out _⟩
            · have hap := Hap.out
              have hA1 : 1 ≤ l[a].id := ((apart_iff l).1 hap).2 _ (List.getElem_mem hal)
              have hma : May l l[a].id := ⟨l[a], List.getElem_mem hal, rfl, by omega⟩
              have hmb : May l l[b].id := ⟨l[b], List.getElem_mem hbl, rfl, by omega⟩
              have hne2 : l[a].id ≠ l[b].id := by
                have hd := ((apart_iff l).1 hap).1
                rcases Nat.lt_or_gt_of_ne hab with h | h
                · exact List.pairwise_iff_getElem.1 hd a b hal hbl h
                · exact fun e => List.pairwise_iff_getElem.1 hd b a hbl hal h e.symm
              have hel : ∀ c ∈ taking l l[a].id l[b].id, elect c.id (taking l l[a].id l[b].id) = (l[a].id, l[b].id) := fun c hc => taking_elect hap hma hmb hne2 hc
              have hun := taking_unstable hap (b := l[b].id) hA1 (by omega)
              have htl : (taking l l[a].id l[b].id).length = l.length := by simp [taking]
              have hkl : ∀ k, k ≤ l.length → (takeK l l[a].id l[b].id k).length = l.length := fun k hk => takeK_len _ _ _ _ hk
              have hkt := takeK_at l l[a].id l[b].id
              have hks := takeK_succ l l[a].id l[b].id
              have hka := takeK_all l l[a].id l[b].id
              have Hel := Lib.hid hel
              have Hun := Lib.hid hun
              have Htl := Lib.hid htl
              have Hkl := Lib.hid hkl
              have Hkt := Lib.hid hkt
              have Hks := Lib.hid hks
              have Hka := Lib.hid hka
              clear hap hA1 hma hmb hne2 hel hun htl hkl hkt hks hka hab
              have hb := below_drewN Hb.out nq
              go_wp2_with (at_builtin; refine wpList_copy_c rfl _ _ _ rfl i0 _ Try.underlying22 hi hz0 hz1 hz2 rfl (some ⟨bb, o, none⟩) cap l rfl rfl (CandsAt.of Hl.out hb hb.size) Hn.out ?_; intro v3 w3 hown hb3; obtain ⟨g, cp, rfl, hg1, hg2, _, _, _, _, _⟩ := hown.at_ 0 hpos; have Hown := Lib.hid hown; have Hb3 := Lib.hid (hb.trans (hb3.mono hb.size)); have hgw := hb.size; clear hown hb3)
              go_loopw [64] (fun i wr => ∃ k : Nat, k ≤ l.length ∧ i = .int .i64 k ∧ OwnC wr w2.heap.size (.slice (some ⟨g, 0, none⟩) l.length cp) (takeK l l[a].id l[b].id k) ∧ Below w.heap.size w wr) (fun i _ => l.length - (intOf i).toNat)
              case atStart => exact ⟨0, Nat.zero_le _, rfl, by simpa [takeK] using Hown.out, Hb3.out⟩
              case round =>
                obtain ⟨k, hk, rfl, hown, hb⟩ := hrel
                by_cases hlt : k < l.length
                · have hlk := Hkl.out k hk
                  have hkk : k < (takeK l l[a].id l[b].id k).length := by omega
                  obtain ⟨c0, c1, c2, c3, f0, f1, f2, f3, hg3, hg4⟩ := hown.c4 k hkk _ (Hkt.out k hlt)
                  obtain ⟨a0, _⟩ := HE.out _ hb a hal
                  obtain ⟨b0, _⟩ := HE.out _ hb b hbl
                  have hown2 := fun (W : World) (ho : OwnC W w2.heap.size (.slice (some ⟨g, 0, none⟩) l.length cp) (takeK l l[a].id l[b].id k)) => OwnC.set23 (w := W) (B := w2.heap.size) (g := g) (cap := cp) (n := l.length) (l := takeK l l[a].id l[b].id k) ho k hkk l[k] (Hkt.out k hlt) l[a].id l[b].id
                  rw [← Hks.out k hlt] at hown2
                  have Hown2 := Lib.hid hown2
                  have Hown1 := Lib.hid hown
                  clear hown hown2 hlk hkk
                  go_wp2
                  go_region
                  all_goals go_wp2
                  all_goals go_roundw
                  case measure => simp [intOf]; omega
                  case rel =>
                    have hgw2 : ∀ j, w.heap.size ≤ (⟨g, j, none⟩ : Addr).block := fun j => Nat.le_trans hgw hg1
                    exact ⟨k + 1, hlt, by go_num, (Hown2.out _ Hown1.out).drew, ((hb.setCell (hgw2 (k * 4 + 2)) _).setCell (hgw2 (k * 4 + 3)) _).drew⟩
                · have : k = l.length := by omega
                  subst this
                  rw [Hka.out] at hown
                  have Hown1 := Lib.hid hown
                  have Hb1 := Lib.hid hb
                  obtain ⟨wo, rfl⟩ : ∃ wo : World, wo = wr := ⟨_, rfl⟩
                  clear hown hb
                  go_wp2
                  go_loopw [88] (fun i wr => ∃ k : Nat, k ≤ l.length ∧ i = .int .i64 k ∧ OwnC wr w2.heap.size (.slice (some ⟨g, 0, none⟩) l.length cp) (taking l l[a].id l[b].id) ∧ Below w.heap.size w wr) (fun i _ => l.length - (intOf i).toNat)
                  case atStart => exact ⟨0, Nat.zero_le _, rfl, Hown1.out, Hb1.out⟩
                  case round =>
                    obtain ⟨k, hk, rfl, hown, hb⟩ := hrel
                    have htl := Htl.out
                    by_cases hlt : k < l.length
                    · have hkk : k < (taking l l[a].id l[b].id).length := by omega
                      have hel := Hel.out _ (List.getElem_mem hkk)
                      obtain ⟨c0, c1, c2, c3, f0, f1, f2, f3, hg3, hg4⟩ := hown.c4 k hkk _ rfl
                      generalize (taking l l[a].id l[b].id)[k] = c at *
                      rcases c with ⟨ci, cpr, cd, cb⟩
                      have Hel1 := Lib.hid hel
                      have hbA := hb.alloc hb.size (.cells #[.int .i64 ci, .int .i64 cpr, .int .i64 cd, .int .i64 cb] 33)
                      have hownA := hown.alloc (.cells #[.int .i64 ci, .int .i64 cpr, .int .i64 cd, .int .i64 cb] 33)
                      have hcA := (OwnC.cands hownA).2
                      have hln : (taking l l[a].id l[b].id).length ≤ 2 ^ 40 := by rw [htl]; exact Hn.out
                      have HbA := Lib.hid hbA
                      have HownA := Lib.hid hownA
                      have HcA := Lib.hid hcA
                      have Hln := Lib.hid hln
                      clear hel hkk htl hbA hownA hcA hln hown hb
                      go_wp2_with (go_at_call 19; (with_reducible refine Calls.mono (elect_vn HcA.out (Nat.le_refl _) Hln.out Hel1.out Htl.out.symm) ?_); rintro e w5 ⟨rfl, hb5⟩; have hbn := HbA.out.trans (hb5.mono HbA.out.size); obtain ⟨a0, _⟩ := HE.out _ hbn a hal; obtain ⟨b0, _⟩ := HE.out _ hbn b hbl; have Hbn := Lib.hid hbn; have Hown5 := Lib.hid (HownA.out.below hb5); clear hb5 hbn)
                      go_roundw
                      case measure => simp [intOf]; omega
                      case rel => exact ⟨k + 1, hlt, by go_num, Hown5.out, Hbn.out⟩
                    · have : k = l.length := by omega
                      subst this
                      have hkk : 0 < (taking l l[a].id l[b].id).length := by omega
                      obtain ⟨c0, c1, c2, c3, f0, f1, f2, f3, hg3, hg4⟩ := hown.c4 0 hkk _ rfl
                      simp only [Nat.zero_mul, Nat.zero_add] at c0 c1 c2 c3 f0 f1 f2 f3
                      have hset := hown.set2 hown.len 0 hkk 0
                      have hun := Hun.out _ rfl
                      have hsl : ((taking l l[a].id l[b].id).set 0 { (taking l l[a].id l[b].id)[0] with dr := 0 }).length = l.length := by rw [List.length_set]; exact htl
                      have hsn : ((taking l l[a].id l[b].id).set 0 { (taking l l[a].id l[b].id)[0] with dr := 0 }).length ≤ 2 ^ 40 := by rw [hsl]; exact Hn.out
                      simp only [Nat.zero_mul, Nat.zero_add] at hset
                      have hbS := hb.setCell (p := ⟨g, 2, none⟩) (Nat.le_trans hgw hg1) (.int .i64 0)
                      generalize (taking l l[a].id l[b].id).set 0 _ = m at *
                      have hcS := (OwnC.cands hset).2
                      have HcS := Lib.hid hcS
                      have Hun1 := Lib.hid hun
                      have Hsl := Lib.hid hsl
                      have Hsn := Lib.hid hsn
                      have HbS := Lib.hid hbS
                      clear hset hun hsl hsn hcS hbS hb hown htl
                      go_wp2_with (go_at_call 21; (with_reducible refine Calls.mono (stable_n _ _ cp m _ _ HcS.out (Nat.le_refl _) Hsn.out Hsl.out.symm) ?_); rw [Hun1.out]; rintro e w6 ⟨rfl, hb6⟩)
                      go_ret
                      exact ⟨rfl, HbS.out.trans (hb6.mono HbS.out.size)⟩
      · have hap := Bool.eq_false_iff.2 hap
        have Hap := Lib.hid hap
        clear hap
        go_enter Try.func6, Try.ntmps6
        go_wp2_with (first
          | (go_at_call 15; (with_reducible refine Calls.mono (wakes9 _) ?_); rintro e w1 ⟨rfl, hb1⟩; have hb := Hb0.out.trans (hb1.mono Hb0.out.size))
          | (go_at_call 16; (with_reducible refine Calls.mono (apart_any A cap l _ _ (CandsAt.of Hl.out hb hb.size) (Nat.le_refl _) Hm.out) ?_); rw [Hap.out]; rintro e w2 ⟨rfl, hb2⟩; have hb := hb.trans (hb2.mono hb.size); clear hb2))
        go_ret
        exact ⟨rfl, hb⟩

end Go.Proofs.Ytkaeedffhmlomaa
