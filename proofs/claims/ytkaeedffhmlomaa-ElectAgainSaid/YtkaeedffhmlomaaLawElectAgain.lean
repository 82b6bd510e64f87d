/-
  The law ElectAgain: its walk.
-/
import Derived.Test.YtkaeedffhmlomaaProg
import Derived.Test.YtkaeedffhmlomaaLawElectIs
import Derived.Test.YtkaeedffhmlomaaElAgain
import Derived.Test.YtkaeedffhmlomaaAppend
namespace Go.Proofs.Ytkaeedffhmlomaa
open Go.RowKit

set_option maxHeartbeats 4000000 in
set_option maxRecDepth 100000 in
theorem electAgain_any (A : Option Addr) (cap : Nat) (l : List Cand) (s : Nat) (hs255 : s ≤ 255) (w : World) (hl : CandsAt w w.heap.size A l) (hm : l.length ≤ maxLen) :
    Calls Try.prog 5 #[.slice A l.length cap, .int .u8 (s : Int)] w fun e w' => e = .returned (.bool true) ∧ Below w.heap.size w w' := by
  unfold maxLen at hm
  have Hl := Lib.hid hl
  clear hl
  by_cases h30 : 30 < l.length
  · go_enter Try.func5, Try.ntmps5
    go_wp2_with (go_at_call 15; (with_reducible refine Calls.mono (wakes9 _) ?_); rintro e w1 ⟨rfl, hb⟩)
    go_ret
    exact ⟨rfl, hb⟩
  · have hn : l.length ≤ 2 ^ 40 := by omega
    have Hn := Lib.hid hn
    have hm' : l.length ≤ maxLen := by unfold maxLen; omega
    have Hm := Lib.hid hm'
    clear hn hm'
    by_cases hap : apartB l = true
    · by_cases h0 : l.length = 0
      · have Hap := Lib.hid hap
        have h0' : ((l.length : Int) == 0) = true := by simp [h0]
        clear h0 hap
        go_enter Try.func5, Try.ntmps5
        go_wp2_with (first
          | (go_at_call 15; (with_reducible refine Calls.mono (wakes9 _) ?_); rintro e w1 ⟨rfl, hb⟩)
          | (go_at_call 16; (with_reducible refine Calls.mono (apart_any A cap l _ _ (CandsAt.of Hl.out hb hb.size) (Nat.le_refl _) Hm.out) ?_); rw [Hap.out]; rintro e w2 ⟨rfl, hb2⟩; have hb := hb.trans (hb2.mono hb.size); clear hb2))
        go_ret
        exact ⟨rfl, hb⟩
      · have h0' : ((l.length : Int) == 0) = false := by simpa using h0
        have hpos : 0 < l.length := by omega
        obtain ⟨i0, hi, hz0, hz1, hz2⟩ := info_parts infoC'
        obtain ⟨k, hk⟩ : ∃ k, k = s % l.length := ⟨_, rfl⟩
        have hkl : k < l.length := by rw [hk]; exact Nat.mod_lt _ hpos
        have hki : (s : Int) % (l.length : Int) = (k : Int) := by rw [hk]; omega
        rcases hes : elect l[k].id l with ⟨dr, bdr⟩
        obtain ⟨hag, hag2⟩ := elect_again hap hkl hes
        have Hap := Lib.hid hap
        have Hes := Lib.hid hes
        have Hag := Lib.hid hag
        have Hag2 := Lib.hid hag2
        have hlen : ∀ c : Cand, (l.set k c).length = l.length := fun c => by simp
        have Hlen := Lib.hid hlen
        clear h0 hk hap hes hag hag2 hlen
        go_enter Try.func5, Try.ntmps5
        go_wp2_with (first
          | (go_at_call 15; (with_reducible refine Calls.mono (wakes9 _) ?_); rintro e w1 ⟨rfl, hb⟩)
          | (go_at_call 16; (with_reducible refine Calls.mono (apart_any A cap l _ _ (CandsAt.of Hl.out hb hb.size) (Nat.le_refl _) Hm.out) ?_); rw [Hap.out]; rintro e w2 ⟨rfl, hb2⟩; have hb := hb.trans (hb2.mono hb.size); clear hb2)
          | (at_builtin; refine wpList_copy_c rfl _ _ _ rfl i0 _ Try.underlying22 hi hz0 hz1 hz2 rfl A cap l rfl rfl (CandsAt.of Hl.out hb hb.size) Hn.out ?_; intro v3 w3 hown hb3; obtain ⟨g, cp, rfl, hg1, hg2, e0, e1, e2, e3, hfz⟩ := hown.at_ k hkl; have f2 := hfz (k * 4 + 2); have f3 := hfz (k * 4 + 3); have Hown := Lib.hid hown; have Hb3 := Lib.hid (hb.trans (hb3.mono hb.size)); have hgw := hb.size; clear hfz hown hb3))
        have hsetat : ∀ (W : World) (B : Nat) (x y : Int), OwnC W B (.slice (some ⟨g, 0, none⟩) l.length cp) l → OwnC ((W.setCell ⟨g, k * 4 + 2, none⟩ (.int .i64 x)).setCell ⟨g, k * 4 + 3, none⟩ (.int .i64 y)) B (.slice (some ⟨g, 0, none⟩) l.length cp) (l.set k { l[k] with dr := x, bdr := y }) := by
          intro W B x y h
          have h1 := (h.set2 rfl k hkl x).set3 (by simp) k (by simpa using hkl) y
          simpa using h1
        have Hsetat := Lib.hid hsetat
        clear hsetat e0 e1 e2 e3 f2 f3
        refine (elect_v (OwnC.cands Hown.out).2 (Nat.le_refl _) Hn.out Hes.out).mono ?_
        rintro e w4 ⟨rfl, hb4⟩
        have hown4 := Hown.out.below hb4
        obtain ⟨e0, e1, e2, e3, f0, f1, f2, f3, hg4, hg5⟩ := hown4.c4 k hkl _ rfl
        have Hown4 := Lib.hid hown4
        have Hb4 := Lib.hid (Hb3.out.trans (hb4.mono Hb3.out.size))
        clear hown4 hb4
        go_wp2_with fail
        have hown5 := Hsetat.out _ _ dr bdr Hown4.out
        refine (elect_vn (OwnC.cands hown5).2 (Nat.le_refl _) (by rw [Hlen.out]; exact Hn.out) Hag.out (Hlen.out _).symm).mono ?_
        rintro e w5 ⟨rfl, hb5⟩
        have hown6 := hown5.below hb5
        obtain ⟨e0, e1, e2, e3, f0, f1, f2, f3, _, _⟩ := hown6.c4 k (by rw [Hlen.out]; exact hkl) { l[k] with dr := dr, bdr := bdr } (by simp)
        have hbS := (Hb4.out.setCell (p := ⟨g, k * 4 + 2, none⟩) (Nat.le_trans hgw hg1) (.int .i64 dr)).setCell (p := ⟨g, k * 4 + 3, none⟩) (Nat.le_trans hgw hg1) (.int .i64 bdr)
        have Hb5 := Lib.hid (hbS.trans (hb5.mono hbS.size))
        have hag2 := Hag2.out
        generalize l[k].id = id at *
        have hcs : (dr != bdr) = true ∨ ((dr != bdr) = false ∧ (dr == 0) = true) ∨ ((dr != bdr) = false ∧ (dr == 0) = false ∧ (dr != id) = true) := by
          by_cases t1 : dr = bdr
          · by_cases t2 : dr = 0
            · right; left; simp [t1] at t2 ⊢; exact t2
            · right; right
              refine ⟨by simp [t1], by simpa using t2, ?_⟩
              rcases hag2 with h | h | h
              · exact absurd t1 h
              · exact absurd h t2
              · simpa using h
          · left; simpa using t1
        clear hag2 hbS hown5 hown6 hb5
        rcases hcs with t1 | ⟨t1, t2⟩ | ⟨t1, t2, t3⟩
        all_goals
          go_wp2
          go_ret
          exact ⟨rfl, Hb5.out⟩
    · have hap := Bool.eq_false_iff.2 hap
      have Hap := Lib.hid hap
      clear hap
      go_enter Try.func5, Try.ntmps5
      go_wp2_with (first
        | (go_at_call 15; (with_reducible refine Calls.mono (wakes9 _) ?_); rintro e w1 ⟨rfl, hb⟩)
        | (go_at_call 16; (with_reducible refine Calls.mono (apart_any A cap l _ _ (CandsAt.of Hl.out hb hb.size) (Nat.le_refl _) Hm.out) ?_); rw [Hap.out]; rintro e w2 ⟨rfl, hb2⟩; have hb := hb.trans (hb2.mono hb.size); clear hb2))
      go_ret
      exact ⟨rfl, hb⟩

end Go.Proofs.Ytkaeedffhmlomaa
