/-
  The law ElectMay: its walk.
-/
import Derived.Maps.OwnOps
import Derived.Test.YtkaeedffhmlomaaProg
import Derived.Test.YtkaeedffhmlomaaLawElectIs
import Derived.Test.YtkaeedffhmlomaaElAgain
import Derived.Test.YtkaeedffhmlomaaOpen
namespace Go.Proofs.Ytkaeedffhmlomaa
open Go.RowKit Go.Maps

theorem lawInt : Keyed Try.prog 3 := int_keyed Try.underlying3
theorem zeroInt (w : World) : (zeroValue 3).run Try.prog w = .ok (.int .i64 0) w := by kernel_rfl

/-- the priorities of the first k, by their numbers -/
def prios (l : List Cand) : Nat → DataW Unit
  | 0 => .map []
  | k + 1 => (prios l k).put (.int .i64 (l.getD k Cand.zero).id) (.lit (.int .i64 (l.getD k Cand.zero).prio))
theorem prios_map (l : List Cand) (k : Nat) : IsMap (prios l k) := by
  cases k with
  | zero => exact isMap_empty
  | succ k =>
    have := prios_map l k
    obtain ⟨es, e⟩ := this
    unfold prios
    rw [e]
    exact ⟨_, rfl⟩
theorem prios_at {l : List Cand} (hd : Distinct l) : ∀ (k : Nat), k ≤ l.length → ∀ j, (hj : j < k) → (hl : j < l.length) → (prios l k).atKey (.int .i64 l[j].id) (.lit (.int .i64 0)) = .lit (.int .i64 l[j].prio)
  | 0, _, j, hj, _ => absurd hj (Nat.not_lt_zero _)
  | k + 1, hk, j, hj, hl => by
    have hkl : k < l.length := by omega
    have e : l.getD k Cand.zero = l[k] := by simp [List.getD, hkl]
    unfold prios
    rw [e]
    by_cases h : j = k
    · subst h
      exact atKey_put_same (prios_map l j) (by simp [WideAt.IsKeyLit]) _ _
    · have hne : l[j].id ≠ l[k].id := List.pairwise_iff_getElem.1 hd j k hl hkl (by omega)
      rw [atKey_put_other (by intro e; injection e with _ e; exact hne e)]
      exact prios_at hd k (by omega) j (by omega) hl

def cntK (l : List Cand) (k : Nat) : Nat := ((l.take k).filter fun c => decide (0 < c.prio)).length
theorem cntK_succ (l : List Cand) (k : Nat) (h : k < l.length) : cntK l (k + 1) = cntK l k + if 0 < l[k].prio then 1 else 0 := by
  unfold cntK
  rw [List.take_succ_eq_append_getElem h, List.filter_append, List.length_append]
  congr 1
  by_cases hp : 0 < l[k].prio <;> simp [hp]
theorem cntK_le (l : List Cand) (k : Nat) : cntK l k ≤ k := by
  unfold cntK
  have := List.length_filter_le (fun c : Cand => decide (0 < c.prio)) (l.take k)
  have := List.length_take_le k l
  omega
theorem cnt_pos (l : List Cand) : 0 < cntK l l.length ↔ ∃ x, May l x := by
  unfold cntK
  rw [List.take_length, List.length_pos_iff_exists_mem]
  constructor
  · rintro ⟨c, hc⟩
    rw [List.mem_filter] at hc
    exact ⟨c.id, c, hc.1, rfl, by simpa using hc.2⟩
  · rintro ⟨x, c, hc, _, hp⟩
    exact ⟨c, List.mem_filter.2 ⟨hc, by simpa using hp⟩⟩

set_option maxHeartbeats 4000000 in
set_option maxRecDepth 100000 in
theorem electMay_any (A : Option Addr) (cap : Nat) (l : List Cand) (s : Nat) (hs255 : s ≤ 255) (w : World) (hl : CandsAt w w.heap.size A l) (hm : l.length ≤ maxLen) (hwf : ∀ c ∈ l, CWf c) :
    Calls Try.prog 4 #[.slice A l.length cap, .int .u8 (s : Int)] w fun e w' => e = .returned (.bool true) ∧ Below w.heap.size w w' := by
  unfold maxLen at hm
  have Hl := Lib.hid hl
  have Hwf := Lib.hid hwf
  clear hl hwf
  by_cases h30 : 30 < l.length
  · go_enter Try.func4, Try.ntmps4
    go_wp2_with (go_at_call 15; (with_reducible refine Calls.mono (wakes9 _) ?_); rintro e w1 ⟨rfl, hb⟩)
    go_ret
    exact ⟨rfl, hb⟩
  · have hn : l.length ≤ 2 ^ 40 := by omega
    have Hn := Lib.hid hn
    have hm' : l.length ≤ maxLen := by unfold maxLen; omega
    have Hm := Lib.hid hm'
    clear hn hm'
    by_cases hap : apartB l = true
    · by_cases h0 : l.length = 0
      · have Hap := Lib.hid hap
        have h0' : ((l.length : Int) == 0) = true := by simp [h0]
        clear h0 hap
        go_enter Try.func4, Try.ntmps4
        go_wp2_with (first
          | (go_at_call 15; (with_reducible refine Calls.mono (wakes9 _) ?_); rintro e w1 ⟨rfl, hb⟩)
          | (go_at_call 16; (with_reducible refine Calls.mono (apart_any A cap l _ _ (CandsAt.of Hl.out hb hb.size) (Nat.le_refl _) Hm.out) ?_); rw [Hap.out]; rintro e w2 ⟨rfl, hb2⟩; have hb := hb.trans (hb2.mono hb.size); clear hb2))
        go_ret
        exact ⟨rfl, hb⟩
      · have h0' : ((l.length : Int) == 0) = false := by simpa using h0
        have hpos : 0 < l.length := by omega
        have hmm := @run_makeMap Try.prog
        obtain ⟨k, hk⟩ : ∃ k, k = s % l.length := ⟨_, rfl⟩
        have hkl : k < l.length := by rw [hk]; exact Nat.mod_lt _ hpos
        have hki : (s : Int) % (l.length : Int) = (k : Int) := by rw [hk]; omega
        have hmay := elect_may hap (List.getElem_mem hkl)
        rcases hes : elect l[k].id l with ⟨dr, bdr⟩
        rw [hes] at hmay
        simp only at hmay
        have Hap := Lib.hid hap
        have Hes := Lib.hid hes
        have Hmay := Lib.hid hmay
        clear h0 hk hap hes hmay
        obtain ⟨b, o, rfl, hbB, -⟩ := CandsAt.at_ Hl.out 0 hpos
        have hE : ∀ W, Below w.heap.size w W → ∀ k, (hk : k < l.length) → W.cell? ⟨b, o + k * 4, none⟩ = some (.int .i64 l[k].id) ∧ W.cell? ⟨b, o + k * 4 + 1, none⟩ = some (.int .i64 l[k].prio) := by
          intro W h k hk
          obtain ⟨b', o', e, _, h1, h2, _, _⟩ := CandsAt.at_ (CandsAt.below Hl.out h) k hk
          cases e
          exact ⟨h1, h2⟩
        have HE := Lib.hid hE
        clear hE
        go_enter Try.func4, Try.ntmps4
        go_wp2_with (first
          | (go_at_call 15; (with_reducible refine Calls.mono (wakes9 _) ?_); rintro e w1 ⟨rfl, hb⟩)
          | (go_at_call 16; (with_reducible refine Calls.mono (apart_any _ cap l _ _ (CandsAt.of Hl.out hb hb.size) (Nat.le_refl _) Hm.out) ?_); rw [Hap.out]; rintro e w2 ⟨rfl, hb2⟩; have hb := hb.trans (hb2.mono hb.size); obtain ⟨x0, _⟩ := HE.out _ hb k hkl; clear hb2)
          | (go_at_call 19; (with_reducible refine Calls.mono (elect_v (CandsAt.of Hl.out hb hb.size) (Nat.le_refl _) Hn.out Hes.out) ?_); rintro e w3 ⟨rfl, hb3⟩; have hb := hb.trans (hb3.mono hb.size); clear hb3 x0))
        have Hb := Lib.hid hb
        have hsz := hb.size
        clear hb
        go_loopw [43, 7] (fun i m wr => ∃ k : Nat, k ≤ l.length ∧ i = .int .i64 k ∧ m = .int .i64 (cntK l k : Nat) ∧ wr.ownsMap Try.prog 3 (plainElem Try.prog 3) w3.heap.size k (prios l k) ∧ w3.heap.size < wr.heap.size ∧ Below w.heap.size w wr) (fun i _ _ => l.length - (intOf i).toNat)
        case atStart => exact ⟨0, Nat.zero_le _, rfl, rfl, World.ownsMap_made _ _ _ _, by simp, Hb.out.alloc hsz _⟩
        case round =>
          obtain ⟨k, hk, rfl, rfl, hown, hz3, hb⟩ := hrel
          have hcl := cntK_le l k
          by_cases hlt : k < l.length
          · obtain ⟨b', o', e, _, e0, e1, e2, e3⟩ := CandsAt.at_ (CandsAt.below Hl.out hb) k hlt
            cases e
            have hcs := cntK_succ l k hlt
            have hpr : prios l (k + 1) = (prios l k).put (.int .i64 l[k].id) (.lit (.int .i64 l[k].prio)) := by
              have e : l.getD k Cand.zero = l[k] := by simp [List.getD, hlt]
              rw [prios, e]
            have hw := Hwf.out _ (List.getElem_mem hlt)
            generalize l[k] = c at *
            rcases c with ⟨ci, cpr, cd, cb⟩
            have hkey := keyOf_int_mk Try.underlying3 hw.1
            have hel := plainElem_int (H := Unit) Try.underlying3 hw.2.1
            have hown1 := hown.alloc (.cells #[.int .i64 ci, .int .i64 cpr, .int .i64 cd, .int .i64 cb] 33)
            have Hkey := Lib.hid hkey
            have Hel := Lib.hid hel
            have Hown := Lib.hid hown1
            have Hpr := Lib.hid hpr
            clear hkey hel hown hown1 hw hpr
            by_cases hp : 0 < cpr
            · rw [if_pos hp] at hcs
              have Hcs := Lib.hid hcs
              clear hcs
              go_wp2_with (at_mapUpdate; refine wpList_mapUpdate_own _ rfl _ _ _ 35 rfl 3 3 lawInt Try.underlying35 _ w3.heap.size k _ rfl Hown.out (by unfold maxLen; omega) _ _ _ rfl rfl Hkey.out _ [] Hel.out ?_; intro w5 hown5 hg5; have Hown5 := Lib.hid hown5; have HT := (Blk.new wr _ _).grown hg5 (by simp; omega); obtain ⟨y0, y1, y2, y3, _, _, _, _⟩ := Blk.cells4 HT; clear hown5 HT)
              go_roundw
              case measure => simp [intOf]; omega
              case rel =>
                have hs5 := hg5.size
                simp at hs5
                exact ⟨k + 1, hlt, by go_num, by rw [Hcs.out]; go_num, by rw [Hpr.out]; exact Hown5.out, by omega, (hb.alloc hb.size _).grown hg5 (hb.alloc hb.size _).size (by intro j hj; injection hj with hj; omega)⟩
            · rw [if_neg hp] at hcs
              have Hcs := Lib.hid hcs
              clear hcs
              go_wp2_with (at_mapUpdate; refine wpList_mapUpdate_own _ rfl _ _ _ 35 rfl 3 3 lawInt Try.underlying35 _ w3.heap.size k _ rfl Hown.out (by unfold maxLen; omega) _ _ _ rfl rfl Hkey.out _ [] Hel.out ?_; intro w5 hown5 hg5; have Hown5 := Lib.hid hown5; have HT := (Blk.new wr _ _).grown hg5 (by simp; omega); obtain ⟨y0, y1, y2, y3, _, _, _, _⟩ := Blk.cells4 HT; clear hown5 HT)
              go_roundw
              case measure => simp [intOf]; omega
              case rel =>
                have hs5 := hg5.size
                simp at hs5
                exact ⟨k + 1, hlt, by go_num, by rw [Hcs.out]; rfl, by rw [Hpr.out]; exact Hown5.out, by omega, (hb.alloc hb.size _).grown hg5 (hb.alloc hb.size _).size (by intro j hj; injection hj with hj; omega)⟩
          · have : k = l.length := by omega
            subst this
            have hap := Hap.out
            have hd := ((apart_iff l).1 hap).1
            have hlook : ∀ x, May l x → ∃ c, (Instr.lookup 35 (.map (some w3.heap.size)) (.int .i64 x) false).run Try.prog wr = .ok (.int .i64 c) wr ∧ 0 < c := by
              rintro x ⟨c, hc, rfl, hp⟩
              obtain ⟨j, hj, rfl⟩ := List.getElem_of_mem hc
              obtain ⟨c, h1, h2, _⟩ := hown.lookup_int lawInt Try.underlying35 Try.underlying3 (zeroInt _) (keyOf_int_mk Try.underlying3 (Hwf.out _ hc).1)
              rw [prios_at hd _ (Nat.le_refl _) j hj hj] at h2
              refine ⟨c, h1, ?_⟩
              injection h2 with h2
              injection h2 with _ h2
              omega
            have hmay := Hmay.out
            have hcp := cnt_pos l
            have Hb2 := Lib.hid hb
            clear hown hb
            by_cases hex : ∃ x, May l x
            · have hd0 := hmay.2.2 hex
              obtain ⟨c1, hr1, hc1⟩ := hlook dr (hmay.1 hd0)
              have t1 : (dr != 0) = true := by simpa using hd0
              have hcn := hcp.2 hex
              have hcn' : decide ((0 : Int) < (cntK l l.length : Nat)) = true := by simpa using hcn
              by_cases hb0 : bdr = 0
              · have t2 : (bdr != 0) = false := by simpa using hb0
                clear hlook hmay hcp hex hd0 hb0 hap hd
                go_wp2
                go_ret
                exact ⟨rfl, Hb2.out⟩
              · obtain ⟨c2, hr2, hc2⟩ := hlook bdr (hmay.2.1 hb0)
                have t2 : (bdr != 0) = true := by simpa using hb0
                clear hlook hmay hcp hex hd0 hb0 hap hd
                go_wp2
                go_ret
                exact ⟨rfl, Hb2.out⟩
            · have hd0 : dr = 0 := Classical.byContradiction fun h => hex ⟨_, hmay.1 h⟩
              have hb0 : bdr = 0 := Classical.byContradiction fun h => hex ⟨_, hmay.2.1 h⟩
              have t1 : (dr != 0) = false := by simpa using hd0
              have t2 : (bdr != 0) = false := by simpa using hb0
              have hcn : ¬ 0 < cntK l l.length := fun h => hex (hcp.1 h)
              have hcn' : decide ((0 : Int) < (cntK l l.length : Nat)) = false := by simpa using hcn
              clear hlook hmay hcp hex hap hd hd0 hb0
              go_wp2
              go_ret
              exact ⟨rfl, Hb2.out⟩
    · have hap := Bool.eq_false_iff.2 hap
      have Hap := Lib.hid hap
      clear hap
      go_enter Try.func4, Try.ntmps4
      go_wp2_with (first
        | (go_at_call 15; (with_reducible refine Calls.mono (wakes9 _) ?_); rintro e w1 ⟨rfl, hb⟩)
        | (go_at_call 16; (with_reducible refine Calls.mono (apart_any A cap l _ _ (CandsAt.of Hl.out hb hb.size) (Nat.le_refl _) Hm.out) ?_); rw [Hap.out]; rintro e w2 ⟨rfl, hb2⟩; have hb := hb.trans (hb2.mono hb.size); clear hb2))
      go_ret
      exact ⟨rfl, hb⟩

end Go.Proofs.Ytkaeedffhmlomaa
