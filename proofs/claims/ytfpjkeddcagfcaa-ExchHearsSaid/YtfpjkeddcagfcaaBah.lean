/-
  Layer 14: an exchange that isn't agreed on hears a piece.
-/
import Derived.Test.YtfpjkeddcagfcaaBae
import Derived.Test.YtfpjkeddcagfcaaBag
namespace Go.Proofs.Ytfpjkeddcagfcaa
open Go.RowKit Go.Sort

def DdV.val (d : DdV) (A : Option Addr) (c : Nat) : Value := .agg #[.bool d.i, .bool d.m, .bool d.s, .int .i64 d.q, .slice A d.hs.length c]
/-- what a beginning leaves -/
def Began (x : ExM) (d : DdV) (S : List Hd) (p : Nat) (w w' : World) (r : Ending) : Prop :=
  match beginM x d S with
  | none => r = .returned (.int .i64 0) ∧ Below w.heap.size w w'
  | some y => r = .returned (.int .i64 2) ∧ (∃ s, w.heap.size ≤ s ∧ ExAt w' p s y) ∧ w.grownBy w' (some p)
theorem exNext_rng (n : Int) : 0 ≤ exNext n ∧ exNext n ≤ 4294967295 := by unfold exNext; omega
theorem key_one {i m s t : Bool} {nh : Nat} {a b : Int} (h : decide (i = true ∧ m = true ∧ s = true ∧ nh = 0 ∧ a < b) = t) : (t = true ∧ i = true ∧ m = true ∧ s = true ∧ nh = 0 ∧ a < b) ∨ (t = false ∧ i = true ∧ m = true ∧ s = true ∧ nh = 0 ∧ ¬ a < b) ∨ (t = false ∧ i = true ∧ m = true ∧ s = true ∧ ¬ nh = 0) ∨ (t = false ∧ i = true ∧ m = true ∧ s = false) ∨ (t = false ∧ i = true ∧ m = false) ∨ (t = false ∧ i = false) := by
  subst h
  cases i <;> cases m <;> cases s <;> by_cases h2 : nh = 0 <;> by_cases h3 : a < b <;> simp [h2, h3]
theorem key_two {i s t : Bool} {q n a b : Int} (h : decide (i = false ∧ s = false ∧ q = n ∧ b < a) = t) : (t = true ∧ i = false ∧ s = false ∧ q = n ∧ b < a) ∨ (t = false ∧ i = false ∧ s = false ∧ q = n ∧ ¬ b < a) ∨ (t = false ∧ i = false ∧ s = false ∧ ¬ q = n) ∨ (t = false ∧ i = false ∧ s = true) ∨ (t = false ∧ i = true) := by
  subst h
  cases i <;> cases s <;> by_cases h2 : q = n <;> by_cases h3 : b < a <;> simp [h2, h3]
set_option maxHeartbeats 16000000 in
set_option maxRecDepth 100000 in
theorem begin_any (p s0 : Nat) (x : ExM) (d : DdV) (hA : Option Addr) (hc : Nat) (A : Option Addr) (nn cap : Nat) (S : List Hd) (w : World) (h : ExAt w p s0 x) (hag : x.ag = false) (hq : 0 ≤ d.q ∧ d.q ≤ 4294967295) (hS : S.length ≤ 60) (hl : d.hs.length ≤ 2 ^ 40)
    (HN : ∀ W, w.grownBy W (some p) → Calls Try.prog 34 #[.slice A nn cap] W fun r w' => r = .returned (.pointer (some ⟨W.heap.size, 0, none⟩)) ∧ (∃ v, SmAt w' W.heap.size v 0 S) ∧ Below W.heap.size W w') :
    Calls Try.prog 24 #[.pointer (some ⟨p, 0, none⟩), d.val hA hc, .slice A nn cap] w fun r w' => Began x d S p w w' r := by
  obtain ⟨a, b, n, ag, ld, dn, l1, l2, l3, l4, ⟨si, sm, ss, sq, shs⟩, H, k⟩ := x
  obtain ⟨i, m, s, q, hs⟩ := d
  simp only at hag hq hl
  subst hag
  obtain ⟨hv, hp, ho⟩ := h.ptr
  have hrng := h.rng
  simp only [ExM.ar, Bool.false_eq_true, if_false] at hp ho hrng
  have hand := and32 (n + 1)
  obtain ⟨nh, hnh⟩ : ∃ z, hs.length = z := ⟨_, rfl⟩
  obtain ⟨t1, ht1⟩ : ∃ t, decide (i = true ∧ m = true ∧ s = true ∧ nh = 0 ∧ a < b) = t := ⟨_, rfl⟩
  obtain ⟨t2, ht2⟩ : ∃ t, decide (i = false ∧ s = false ∧ q = n ∧ b < a) = t := ⟨_, rfl⟩
  have HBg : Hid (beginM ⟨a, b, n, false, ld, dn, l1, l2, l3, l4, ⟨si, sm, ss, sq, shs⟩, H, k⟩ ⟨i, m, s, q, hs⟩ S = if t1 = true then some (sayM ⟨a, b, q, true, ld, dn, l1, l2, l3, l4, ⟨si, sm, ss, sq, shs⟩, S, 0⟩) else if t2 = true then some (sayM ⟨a, b, exNext n, true, true, dn, l1, l2, l3, l4, ⟨si, sm, ss, sq, shs⟩, S, 0⟩) else none) := Lib.hid (by
    unfold beginM
    simp only [← ht1, ← ht2, ← hnh, decide_eq_true_eq])
  simp only [DdV.val, hnh]
  obtain ⟨w1, hw1⟩ : ∃ w1, w.alloc (.cells #[.bool i, .bool m, .bool s, .int .i64 q, .slice hA nh hc] 33) = w1 := ⟨_, rfl⟩
  obtain ⟨g1, hg1⟩ : ∃ g1, w.heap.size = g1 := ⟨_, rfl⟩
  have hd := Blk.new w 33 #[.bool i, .bool m, .bool s, .int .i64 q, .slice hA nh hc]
  have hb1 := below_new w (.cells #[.bool i, .bool m, .bool s, .int .i64 q, .slice hA nh hc] 33)
  rw [hw1, hg1] at hd
  rw [hw1] at hb1
  have HP1 := Lib.hid (hp.below hb1 hp.lt)
  have HO1 := Lib.hid (ho.below hb1)
  have Hb1 := Lib.hid hb1
  have Hpg := Lib.hid (show p ≠ g1 from by have := hp.lt; omega)
  have HD := Lib.hid hd
  have Hq := Lib.hid hq
  have Hr := Lib.hid hrng
  have hn2 : 0 ≤ n := hrng.1
  have hn3 : n ≤ 4294967295 := hrng.2
  have Ht1 := Lib.hid ht1
  have Ht2 := Lib.hid ht2
  have HN' := Lib.hid HN
  have HS := Lib.hid hS
  obtain ⟨x0, x1, x2, x3, x4, x5, x6, x7, x8, x9, xa, xb, xc, xd, xe, xf⟩ := blk16 HP1.out
  obtain ⟨d0, d1, d2, d3, d4⟩ := blk5 hd
  have hnhi : (nh : Int) ≤ 1099511627776 := by omega
  clear h hp ho hrng hq hb1 hd HN hS hl ht1 ht2 hnh
  go_enter Try.func24, Try.ntmps24
  go_upto_region 2 with fail
  go_cut [7] from 8 (fun v wx => v = .bool t1 ∧ Below w1.heap.size w1 wx)
  case first =>
    have key := key_one Ht1.out
    clear Ht1
    rcases key with ⟨rfl, rfl, rfl, rfl, h4, h5⟩ | ⟨rfl, rfl, rfl, rfl, h4, h5⟩ | ⟨rfl, rfl, rfl, rfl, h4⟩ | ⟨rfl, rfl, rfl, rfl⟩ | ⟨rfl, rfl, rfl⟩ | ⟨rfl, rfl⟩
    case' inl => (have e4 : ((nh : Int) == 0) = true := by simp [h4]); clear h4
    case' inr.inl => (have e4 : ((nh : Int) == 0) = true := by simp [h4]); clear h4
    case' inr.inr.inl => (have e4 : ((nh : Int) == 0) = false := by simp [h4]); clear h4
    all_goals
      go_wp2
      go_quiet (fail)
      go_wp2_with fail
      go_meet
      exact ⟨by first | rfl | simp [*], below_drewN (Below.refl _ _) _⟩
  case rest =>
    obtain ⟨rfl, hbc⟩ := hcut
    clear x0 x1 x2 x3 x4 x5 x6 x7 x8 x9 xa xb xc xd xe xf d0 d1 d2 d3 d4
    have HPc := Lib.hid (HP1.out.below hbc HP1.out.lt)
    have HDc := Lib.hid (HD.out.below hbc HD.out.lt)
    have HOc := Lib.hid (HO1.out.below hbc)
    have Hbc := Lib.hid (below_trans Hb1.out Hb1.out.size hbc)
    obtain ⟨x0, x1, x2, x3, x4, x5, x6, x7, x8, x9, xa, xb, xc, xd, xe, xf⟩ := blk16 HPc.out
    obtain ⟨d0, d1, d2, d3, d4⟩ := blk5 HDc.out
    have hfz := fun j => HPc.out.frozen j
    clear hbc
    cases t1 with
    | true =>
      go_wp2_with fail
      have hp3 : Blk (wc.setCell ⟨p, 2, none⟩ (.int .i64 q)) p 65 (exA a b q false ld dn l1 l2 l3 l4 si sm ss sq hv (.pointer none)) := by simpa [exA] using HPc.out.set_ 2 (.int .i64 q)
      have HP3 := Lib.hid hp3
      have Hg3 := Lib.hid (gr_set (gr_below (row := some p) Hbc.out) 2 (.int .i64 q))
      clear x0 x1 x2 x3 x4 x5 x6 x7 x8 x9 xa xb xc xd xe xf d0 d1 d2 d3 d4 hp3 hfz
      obtain ⟨w3, hw3⟩ : ∃ W, wc.setCell ⟨p, 2, none⟩ (.int .i64 q) = W := ⟨_, rfl⟩
      rw [hw3] at HP3 Hg3 ⊢
      with_reducible refine Calls.mono (HN'.out _ Hg3.out) ?_
      rintro r w4 ⟨rfl, ⟨v4, hs4⟩, hb4⟩
      obtain ⟨s4, hs4e⟩ : ∃ s4, w3.heap.size = s4 := ⟨_, rfl⟩
      rw [hs4e] at hs4 ⊢
      have hp4 := HP3.out.below hb4 HP3.out.lt
      have HP4 := Lib.hid hp4
      have Hps := Lib.hid (show p < s4 from by have := HP3.out.lt; omega)
      have Hs4 := Lib.hid hs4
      have Hws := Lib.hid (show w.heap.size ≤ s4 by rw [← hs4e]; exact Hg3.out.size)
      have Hb4 := Lib.hid (gr_trans Hg3.out (gr_below hb4))
      obtain ⟨x0, x1, x2, x3, x4, x5, x6, x7, x8, x9, xa, xb, xc, xd, xe, xf⟩ := blk16 hp4
      have hfz := fun j => hp4.frozen j
      have ho4 : OwnR 56 7 Hd.cells w4 0 hv shs := (HOc.out.kept (row := some p) (by rw [← hw3]; exact grown_set wc p 2 _) (.inr (own_ne14 HOc.out HPc.out (by decide)))).below hb4
      have HO4 := Lib.hid ho4
      clear hp4 hs4 hb4 hs4e hw3 ho4
      go_wp2_with fail
      have hp5 : Blk ((w4.setCell ⟨p, 3, none⟩ (.bool true)).setCell ⟨p, 15, none⟩ (.pointer (some ⟨s4, 0, none⟩))) p 65 (exA a b q true ld dn l1 l2 l3 l4 si sm ss sq hv (.pointer (some ⟨s4, 0, none⟩))) := by simpa [exA] using (HP4.out.set_ 3 (.bool true)).set_ 15 (.pointer (some ⟨s4, 0, none⟩))
      have hne := own_ne14 HO4.out HP4.out (by decide)
      have HE5 : Hid (ExAt ((w4.setCell ⟨p, 3, none⟩ (.bool true)).setCell ⟨p, 15, none⟩ (.pointer (some ⟨s4, 0, none⟩))) p s4 ⟨a, b, q, true, ld, dn, l1, l2, l3, l4, ⟨si, sm, ss, sq, shs⟩, S, 0⟩) := Lib.hid ⟨⟨hv, hp5, (HO4.out.kept (grown_set _ p 3 _) (.inr hne)).kept (grown_set _ p 15 _) (.inr hne)⟩, fun _ => ⟨v4, (Hs4.out.set_far Hps.out 3 (.bool true)).set_far Hps.out 15 (.pointer (some ⟨s4, 0, none⟩))⟩, fun _ => ⟨Nat.zero_le _, HS.out⟩, Hq.out⟩
      have HSay := Lib.hid (say_any p s4 _ _ HE5.out rfl)
      have Hb5 := Lib.hid (gr_set (gr_set Hb4.out 3 (.bool true)) 15 (.pointer (some ⟨s4, 0, none⟩)))
      clear hp5 hfz x0 x1 x2 x3 x4 x5 x6 x7 x8 x9 xa xb xc xd xe xf hne
      with_reducible refine Calls.mono HSay.out ?_
      rintro r w6 ⟨rfl, he6, hb6⟩
      have HE6 := Lib.hid he6
      have Hb6 := Lib.hid (gr_trans Hb5.out hb6)
      clear he6 hb6
      go_wp2
      go_ret
      unfold Began
      rw [HBg.out]
      exact ⟨rfl, ⟨s4, Hws.out, HE6.out⟩, Hb6.out⟩
    | false =>
      go_upto_region 4 with fail
      go_cut [40] from 41 (fun v wx => v = .bool t2 ∧ Below wc.heap.size wc wx)
      case first =>
        have key := key_two Ht2.out
        clear Ht2
        rcases key with ⟨rfl, rfl, rfl, h4, h5⟩ | ⟨rfl, rfl, rfl, h4, h5⟩ | ⟨rfl, rfl, rfl, h4⟩ | ⟨rfl, rfl, rfl⟩ | ⟨rfl, rfl⟩
        case' inl => (have e4 : (q == n) = true := by simp [h4]); clear h4
        case' inr.inl => (have e4 : (q == n) = true := by simp [h4]); clear h4
        case' inr.inr.inl => (have e4 : (q == n) = false := by simp [h4]); clear h4
        all_goals
          go_wp2
          go_quiet (fail)
          go_wp2_with fail
          go_meet
          exact ⟨by first | rfl | simp [*], below_drewN (Below.refl _ _) _⟩
      case rest =>
        obtain ⟨rfl, hbd⟩ := hcut
        clear x0 x1 x2 x3 x4 x5 x6 x7 x8 x9 xa xb xc xd xe xf d0 d1 d2 d3 d4 hfz
        have HPd := Lib.hid (HPc.out.below hbd HPc.out.lt)
        have HOd := Lib.hid (HOc.out.below hbd)
        have Hbd := Lib.hid (below_trans Hbc.out Hbc.out.size hbd)
        obtain ⟨x0, x1, x2, x3, x4, x5, x6, x7, x8, x9, xa, xb, xc, xd, xe, xf⟩ := blk16 HPd.out
        have hfz := fun j => HPd.out.frozen j
        clear hbd
        cases t2 with
        | false =>
          go_wp2
          go_ret
          unfold Began
          rw [HBg.out]
          exact ⟨rfl, Hbd.out⟩
        | true =>
          go_wp2_with fail
          have hp3 : Blk ((wc.setCell ⟨p, 2, none⟩ (.int .i64 ((n + 1) % 4294967296))).setCell ⟨p, 4, none⟩ (.bool true)) p 65 (exA a b ((n + 1) % 4294967296) false true dn l1 l2 l3 l4 si sm ss sq hv (.pointer none)) := by simpa [exA] using (HPd.out.set_ 2 (.int .i64 ((n + 1) % 4294967296))).set_ 4 (.bool true)
          have HP3 := Lib.hid hp3
          have Hg3 := Lib.hid (gr_set (gr_set (gr_below (row := some p) Hbd.out) 2 (.int .i64 ((n + 1) % 4294967296))) 4 (.bool true))
          clear x0 x1 x2 x3 x4 x5 x6 x7 x8 x9 xa xb xc xd xe xf hp3 hfz
          obtain ⟨w3, hw3⟩ : ∃ W, (wc.setCell ⟨p, 2, none⟩ (.int .i64 ((n + 1) % 4294967296))).setCell ⟨p, 4, none⟩ (.bool true) = W := ⟨_, rfl⟩
          rw [hw3] at HP3 Hg3 ⊢
          with_reducible refine Calls.mono (HN'.out _ Hg3.out) ?_
          rintro r w4 ⟨rfl, ⟨v4, hs4⟩, hb4⟩
          obtain ⟨s4, hs4e⟩ : ∃ s4, w3.heap.size = s4 := ⟨_, rfl⟩
          rw [hs4e] at hs4 ⊢
          have hp4 := HP3.out.below hb4 HP3.out.lt
          have HP4 := Lib.hid hp4
          have Hps := Lib.hid (show p < s4 from by have := HP3.out.lt; omega)
          have Hs4 := Lib.hid hs4
          have Hws := Lib.hid (show w.heap.size ≤ s4 by rw [← hs4e]; exact Hg3.out.size)
          have Hb4 := Lib.hid (gr_trans Hg3.out (gr_below hb4))
          obtain ⟨x0, x1, x2, x3, x4, x5, x6, x7, x8, x9, xa, xb, xc, xd, xe, xf⟩ := blk16 hp4
          have hfz := fun j => hp4.frozen j
          have ho4 : OwnR 56 7 Hd.cells w4 0 hv shs := ((HOd.out.kept (row := some p) (grown_set wc p 2 (.int .i64 ((n + 1) % 4294967296))) (.inr (own_ne14 HOd.out HPd.out (by decide)))).kept (row := some p) (by rw [← hw3]; exact grown_set _ p 4 _) (.inr (own_ne14 HOd.out HPd.out (by decide)))).below hb4
          have HO4 := Lib.hid ho4
          clear hp4 hs4 hb4 hs4e hw3 ho4
          go_wp2_with fail
          have hp5 : Blk ((w4.setCell ⟨p, 3, none⟩ (.bool true)).setCell ⟨p, 15, none⟩ (.pointer (some ⟨s4, 0, none⟩))) p 65 (exA a b ((n + 1) % 4294967296) true true dn l1 l2 l3 l4 si sm ss sq hv (.pointer (some ⟨s4, 0, none⟩))) := by simpa [exA] using (HP4.out.set_ 3 (.bool true)).set_ 15 (.pointer (some ⟨s4, 0, none⟩))
          have hne := own_ne14 HO4.out HP4.out (by decide)
          have HE5 : Hid (ExAt ((w4.setCell ⟨p, 3, none⟩ (.bool true)).setCell ⟨p, 15, none⟩ (.pointer (some ⟨s4, 0, none⟩))) p s4 ⟨a, b, exNext n, true, true, dn, l1, l2, l3, l4, ⟨si, sm, ss, sq, shs⟩, S, 0⟩) := Lib.hid ⟨⟨hv, hp5, (HO4.out.kept (grown_set _ p 3 _) (.inr hne)).kept (grown_set _ p 15 _) (.inr hne)⟩, fun _ => ⟨v4, (Hs4.out.set_far Hps.out 3 (.bool true)).set_far Hps.out 15 (.pointer (some ⟨s4, 0, none⟩))⟩, fun _ => ⟨Nat.zero_le _, HS.out⟩, exNext_rng n⟩
          have HSay := Lib.hid (say_any p s4 _ _ HE5.out rfl)
          have Hb5 := Lib.hid (gr_set (gr_set Hb4.out 3 (.bool true)) 15 (.pointer (some ⟨s4, 0, none⟩)))
          clear hp5 hfz x0 x1 x2 x3 x4 x5 x6 x7 x8 x9 xa xb xc xd xe xf hne
          with_reducible refine Calls.mono HSay.out ?_
          rintro r w6 ⟨rfl, he6, hb6⟩
          have HE6 := Lib.hid he6
          have Hb6 := Lib.hid (gr_trans Hb5.out hb6)
          clear he6 hb6
          go_wp2
          go_ret
          unfold Began
          rw [HBg.out]
          exact ⟨rfl, ⟨s4, Hws.out, HE6.out⟩, Hb6.out⟩

end Go.Proofs.Ytfpjkeddcagfcaa

/-
  Layer 14: whether a piece is the next one.
-/
namespace Go.Proofs.Ytfpjkeddcagfcaa
open Go.RowKit Go.Sort

theorem key_fits {dn i s ld t : Bool} {q n : Int} (h : (!dn && (!i && ((s != ld) && decide (q = if ld then n else exNext n)))) = t) : (dn = true ∧ t = false) ∨ (dn = false ∧ i = true ∧ t = false) ∨ (dn = false ∧ i = false ∧ ld = true ∧ s = true ∧ t = false) ∨ (dn = false ∧ i = false ∧ ld = false ∧ s = false ∧ t = false) ∨
    (dn = false ∧ i = false ∧ ld = true ∧ s = false ∧ (q == n) = true ∧ t = true) ∨ (dn = false ∧ i = false ∧ ld = true ∧ s = false ∧ (q == n) = false ∧ t = false) ∨ (dn = false ∧ i = false ∧ ld = false ∧ s = true ∧ (q == (n + 1) % 4294967296) = true ∧ t = true) ∨ (dn = false ∧ i = false ∧ ld = false ∧ s = true ∧ (q == (n + 1) % 4294967296) = false ∧ t = false) := by
  subst h
  unfold exNext
  cases dn <;> cases i <;> cases ld <;> cases s <;> simp <;> omega
set_option maxHeartbeats 16000000 in
set_option maxRecDepth 100000 in
theorem fits_any (p s0 : Nat) (x : ExM) (d : DdV) (hA : Option Addr) (hc : Nat) (w : World) (h : ExAt w p s0 x) :
    Calls Try.prog 25 #[.pointer (some ⟨p, 0, none⟩), d.val hA hc] w fun r w' => r = .returned (.bool (fitsM x d)) ∧ Below w.heap.size w w' := by
  obtain ⟨a, b, n, ag, ld, dn, l1, l2, l3, l4, ⟨si, sm, ss, sq, shs⟩, H, k⟩ := x
  obtain ⟨i, m, s, q, hs⟩ := d
  obtain ⟨hv, hp, ho⟩ := h.ptr
  have hrng := h.rng
  simp only [ExM.ar] at hp hrng
  have hand := and32 (n + 1)
  obtain ⟨pv, hpv⟩ : ∃ z, (if ag = true then Value.pointer (some ⟨s0, 0, none⟩) else Value.pointer none) = z := ⟨_, rfl⟩
  rw [hpv] at hp
  simp only [DdV.val, fitsM, wantM]
  obtain ⟨t, ht⟩ : ∃ t, (!dn && (!i && ((s != ld) && decide (q = if ld then n else exNext n)))) = t := ⟨_, rfl⟩
  rw [ht]
  have key := key_fits ht
  obtain ⟨nh, hnh⟩ : ∃ z, hs.length = z := ⟨_, rfl⟩
  rw [hnh]
  obtain ⟨w1, hw1⟩ : ∃ w1, w.alloc (.cells #[.bool i, .bool m, .bool s, .int .i64 q, .slice hA nh hc] 33) = w1 := ⟨_, rfl⟩
  obtain ⟨g1, hg1⟩ : ∃ g1, w.heap.size = g1 := ⟨_, rfl⟩
  have hd := Blk.new w 33 #[.bool i, .bool m, .bool s, .int .i64 q, .slice hA nh hc]
  have hb1 := below_new w (.cells #[.bool i, .bool m, .bool s, .int .i64 q, .slice hA nh hc] 33)
  rw [hw1, hg1] at hd
  rw [hw1] at hb1
  have hp1 := hp.below hb1 hp.lt
  have Hb1 := Lib.hid hb1
  have hn2 : 0 ≤ n := hrng.1
  have hn3 : n ≤ 4294967295 := hrng.2
  obtain ⟨x0, x1, x2, x3, x4, x5, x6, x7, x8, x9, xa, xb, xc, xd, xe, xf⟩ := blk16 hp1
  obtain ⟨d0, d1, d2, d3, d4⟩ := blk5 hd
  clear h hp ho hrng hb1 hp1 hd ht hpv hnh
  rcases key with ⟨rfl, rfl⟩ | ⟨rfl, rfl, rfl⟩ | ⟨rfl, rfl, rfl, rfl, rfl⟩ | ⟨rfl, rfl, rfl, rfl, rfl⟩ | ⟨rfl, rfl, rfl, rfl, e4, rfl⟩ | ⟨rfl, rfl, rfl, rfl, e4, rfl⟩ | ⟨rfl, rfl, rfl, rfl, e4, rfl⟩ | ⟨rfl, rfl, rfl, rfl, e4, rfl⟩
  case' inl => cases ld
  case' inr.inl => cases ld
  all_goals
    go_enter Try.func25, Try.ntmps25
    go_wp2
    go_quiet (fail)
    go_wp2
    go_ret
    exact ⟨rfl, below_drewN Hb1.out _⟩

end Go.Proofs.Ytfpjkeddcagfcaa

/-
  Layer 14: an exchange takes the next piece.
-/
namespace Go.Proofs.Ytfpjkeddcagfcaa
open Go.RowKit Go.Sort

section
variable {w w' : World} {p s : Nat} {x y : ExM}
theorem ExAt.apart (h : ExAt w p s x) (hag : x.ag = true) : p ≠ s := fun e => by
  obtain ⟨hv, h1, -⟩ := h.ptr
  obtain ⟨v, h3⟩ := h.sum hag
  have := blk_type (e ▸ h1) h3.ptr
  revert this
  decide
theorem ExAt.put (h : ExAt w p s x) (i : Nat) (u : Value) (y : ExM) (hy : ∀ hv pv, (x.ar hv pv).setIfInBounds i u = y.ar hv pv) (hag : y.ag = x.ag) (hk : y.k = x.k) (hH : y.H = x.H) (hs : y.said.hs = x.said.hs) (hr : 0 ≤ y.n ∧ y.n ≤ 4294967295) : ExAt (w.setCell ⟨p, i, none⟩ u) p s y := by
  obtain ⟨hv, h1, h2⟩ := h.ptr
  refine ⟨⟨hv, ?_, ?_⟩, fun e => ?_, fun e => by rw [hk, hH]; exact h.le (hag ▸ e), hr⟩
  · have := h1.set_ i u
    rw [hy] at this
    rw [hag]
    exact this
  · rw [hs]
    exact h2.kept (grown_set w p i u) (.inr (own_ne14 h2 h1 (by decide)))
  · obtain ⟨v, h3⟩ := h.sum (hag ▸ e)
    refine ⟨v, ?_⟩
    rw [hk, hH]
    exact ⟨h3.ptr.grown (grown_set w p i u) (fun e2 => h.apart (hag ▸ e) (by injection e2 with e2; exact e2.symm)), h3.own.kept (grown_set w p i u) (.inr (own_ne14 h3.own h1 (by decide)))⟩
theorem ExAt.stepped {v : Value} (h : ExAt w p s x) (hag : x.ag = true) (hg : w.grownBy w' (some s)) (hs : SmAt w' s v (nextAt x.k x.H.length : Nat) x.H) (hs0 : ∃ v, SmAt w s v x.k x.H) : ExAt w' p s (stepM x) := by
  obtain ⟨hv, h1, h2⟩ := h.ptr
  obtain ⟨v0, h0⟩ := hs0
  have hne := h.apart hag
  refine ⟨⟨hv, h1.grown hg (fun e => hne (by injection e)), h2.kept hg (.inr (own_ne14 h2 h0.ptr (by decide)))⟩, fun _ => ⟨v, hs⟩, fun _ => ?_, h.rng⟩
  exact ⟨(next_ge (h.le hag).1).2, (h.le hag).2⟩
end
theorem key_take {m sm t : Bool} (h : (!m && !sm) = t) : (m = false ∧ sm = false ∧ t = true) ∨ (m = true ∧ t = false) ∨ (m = false ∧ sm = true ∧ t = false) := by
  subst h
  cases m <;> cases sm <;> simp
/-- step, then say -/
theorem mvs_step {w w1 w2 : World} {p s : Nat} (h1 : w.grownBy w1 (some s)) (h2 : w1.grownBy w2 (some p)) : Mvs (fun g => g = p ∨ g = s) w w2 := .step (.one h1 (.inr rfl)) h2 (.inl rfl)
set_option maxHeartbeats 16000000 in
set_option maxRecDepth 100000 in
theorem take_any (p s0 : Nat) (x : ExM) (d : DdV) (hA : Option Addr) (hc : Nat) (w : World) (h : ExAt w p s0 x) (hag : x.ag = true) (hq : 0 ≤ d.q ∧ d.q ≤ 4294967295) :
    Calls Try.prog 26 #[.pointer (some ⟨p, 0, none⟩), d.val hA hc] w fun r w' => r = .returned (.tuple #[]) ∧ ExAt w' p s0 (takeM x d) ∧ Mvs (fun g => g = p ∨ g = s0) w w' := by
  obtain ⟨i, m, s, q, hs⟩ := d
  obtain ⟨a, b, n, ag, ld, dn, l1, l2, l3, l4, ⟨si, sm, ss, sq, shs⟩, H, k⟩ := x
  simp only at hq hag
  subst hag
  have hand := and32 (q + 1)
  simp only [DdV.val]
  obtain ⟨nh, hnh⟩ : ∃ z, hs.length = z := ⟨_, rfl⟩
  rw [hnh]
  obtain ⟨w1, hw1⟩ : ∃ w1, w.alloc (.cells #[.bool i, .bool m, .bool s, .int .i64 q, .slice hA nh hc] 33) = w1 := ⟨_, rfl⟩
  obtain ⟨g1, hg1⟩ : ∃ g1, w.heap.size = g1 := ⟨_, rfl⟩
  have hd := Blk.new w 33 #[.bool i, .bool m, .bool s, .int .i64 q, .slice hA nh hc]
  have hb1 := below_new w (.cells #[.bool i, .bool m, .bool s, .int .i64 q, .slice hA nh hc] 33)
  rw [hw1, hg1] at hd
  rw [hw1] at hb1
  have h1 := h.below hb1
  have Hm1 := Lib.hid (show Mvs (fun g => g = p ∨ g = s0) w w1 from .one (gr_below (row := some p) hb1) (.inl rfl))
  have h2 := h1.put 2 (.int .i64 q) ⟨a, b, q, true, ld, dn, l1, l2, l3, l4, ⟨si, sm, ss, sq, shs⟩, H, k⟩ (fun _ _ => by simp [ExM.ar, exA]) rfl rfl rfl rfl hq
  obtain ⟨hv0, hp0, -⟩ := h1.ptr
  have hpg : p ≠ g1 := fun e => by have := h.ptr; obtain ⟨hv, h9, -⟩ := this; have := h9.lt; omega
  have hsg : s0 ≠ g1 := fun e => by obtain ⟨v, h9⟩ := h.sum rfl; have := h9.ptr.lt; omega
  have Hpg := Lib.hid (And.intro hpg hsg)
  have hd2 : Blk (w1.setCell ⟨p, 2, none⟩ (.int .i64 q)) g1 33 #[.bool i, .bool m, .bool s, .int .i64 q, .slice hA nh hc] := hd.grown (grown_set w1 p 2 _) (fun e => hpg (by injection e with e; exact e.symm))
  have Hd2 := Lib.hid hd2
  have H2 := Lib.hid h2
  have hq2 := hq.1
  have hq3 := hq.2
  have hm2 := Hm1.out.step (grown_set w1 p 2 (.int .i64 q)) (.inl rfl)
  have Hm2 := Lib.hid hm2
  simp only [ExM.ar, if_true] at hp0
  obtain ⟨x0, x1, x2, x3, x4, x5, x6, x7, x8, x9, xa, xb, xc, xd, xe, xf⟩ := blk16 hp0
  have hfz := fun j => hp0.frozen j
  obtain ⟨d0, d1, d2, d3, d4⟩ := blk5 hd
  obtain ⟨t, ht⟩ : ∃ t, (!m && !sm) = t := ⟨_, rfl⟩
  have key := key_take ht
  have Hq := Lib.hid hq
  clear h h1 h2 hp0 hpg hsg hd hd2 hm2 hb1 hnh hq ht
  go_enter Try.func26, Try.ntmps26
  go_upto_region 2 with fail
  obtain ⟨w2, hw2⟩ : ∃ W, w1.setCell ⟨p, 2, none⟩ (.int .i64 q) = W := ⟨_, rfl⟩
  rw [hw2] at H2 Hd2 Hm2 ⊢
  clear x0 x1 x2 x3 x4 x5 x6 x7 x8 x9 xa xb xc xd xe xf d0 d1 d2 d3 d4 hfz hw2
  obtain ⟨hv2, hp2, -⟩ := H2.out.ptr
  simp only [ExM.ar, if_true] at hp2
  obtain ⟨x0, x1, x2, x3, x4, x5, x6, x7, x8, x9, xa, xb, xc, xd, xe, xf⟩ := blk16 hp2
  have hfz := fun j => hp2.frozen j
  obtain ⟨d0, d1, d2, d3, d4⟩ := blk5 Hd2.out
  clear hp2
  cases ld with
  | true =>
    rcases key with ⟨rfl, rfl, rfl⟩ | ⟨rfl, rfl⟩ | ⟨rfl, rfl, rfl⟩
    · go_wp2
      refine bodyPost_ret (results_none rfl _ _ _) rfl ?_
      refine ⟨rfl, ?_, (Hm2.out.step (grown_set w2 p 2 (.int .i64 ((q + 1) % 4294967296))) (.inl rfl)).step (grown_set _ p 5 (.bool true)) (.inl rfl)⟩
      exact (H2.out.put 2 (.int .i64 ((q + 1) % 4294967296)) ⟨a, b, exNext q, true, true, dn, l1, l2, l3, l4, ⟨si, false, ss, sq, shs⟩, H, k⟩ (fun _ _ => by simp [ExM.ar, exA, exNext]) rfl rfl rfl rfl (exNext_rng q)).put 5 (.bool true) ⟨a, b, exNext q, true, true, true, l1, l2, l3, l4, ⟨si, false, ss, sq, shs⟩, H, k⟩ (fun _ _ => by simp [ExM.ar, exA]) rfl rfl rfl rfl (exNext_rng q)
    all_goals
      go_wp2_with fail
      have hm4 := (Hm2.out.step (grown_set w2 p 2 (.int .i64 ((q + 1) % 4294967296))) (.inl rfl)).step (grown_set _ p 5 (.bool false)) (.inl rfl)
      have h4 := (H2.out.put 2 (.int .i64 ((q + 1) % 4294967296)) ⟨a, b, exNext q, true, true, dn, l1, l2, l3, l4, ⟨si, _, ss, sq, shs⟩, H, k⟩ (fun _ _ => by simp only [ExM.ar, exA, exNext]; rfl) rfl rfl rfl rfl (exNext_rng q)).put 5 (.bool false) ⟨a, b, exNext q, true, true, false, l1, l2, l3, l4, ⟨si, _, ss, sq, shs⟩, H, k⟩ (fun _ _ => by simp only [ExM.ar, exA]; rfl) rfl rfl rfl rfl (exNext_rng q)
      obtain ⟨w4, hw4⟩ : ∃ W, (w2.setCell ⟨p, 2, none⟩ (.int .i64 ((q + 1) % 4294967296))).setCell ⟨p, 5, none⟩ (.bool false) = W := ⟨_, rfl⟩
      rw [hw4] at hm4 h4 ⊢
      obtain ⟨v4, hs4⟩ := h4.sum rfl
      have hle := h4.le rfl
      simp only at hs4 hle
      have HSt := Lib.hid (SuStep_any s0 v4 k H w4 hs4 hle.1 (by omega))
      have Hm4 := Lib.hid hm4
      have H4 := Lib.hid h4
      clear x0 x1 x2 x3 x4 x5 x6 x7 x8 x9 xa xb xc xd xe xf d0 d1 d2 d3 d4 hfz hw4 hm4 h4 hs4 hle
      with_reducible refine Calls.mono HSt.out ?_
      rintro r w5 ⟨rfl, hs5, hg5⟩
      have h5 := H4.out.stepped rfl hg5 hs5 (H4.out.sum rfl)
      have HSay := Lib.hid (say_any p s0 _ w5 h5 rfl)
      have Hm5 := Lib.hid (Hm4.out.step hg5 (.inr rfl))
      clear hs5 hg5 h5
      go_wp2_with fail
      with_reducible refine Calls.mono HSay.out ?_
      rintro r w6 ⟨rfl, h6, hg6⟩
      have H6 := Lib.hid h6
      have Hm6 := Lib.hid (Hm5.out.step hg6 (.inl rfl))
      obtain ⟨hv6, hp6, -⟩ := h6.ptr
      simp only [ExM.ar, sayM, stepM, if_true] at hp6
      obtain ⟨x0, x1, x2, x3, x4, x5, x6, x7, x8, x9, xa, xb, xc, xd, xe, xf⟩ := blk16 hp6
      clear h6 hg6 hp6
      go_wp2
      refine bodyPost_end (results_none rfl _ _ _) rfl ?_
      exact ⟨rfl, H6.out, Hm6.out⟩
  | false =>
    go_wp2_with fail
    have hle := H2.out.le rfl
    obtain ⟨v4, hs4⟩ := H2.out.sum rfl
    simp only at hs4 hle
    have HSt := Lib.hid (SuStep_any s0 v4 k H w2 hs4 hle.1 (by omega))
    clear x0 x1 x2 x3 x4 x5 x6 x7 x8 x9 xa xb xc xd xe xf d0 d1 d2 d3 d4 hfz hs4 hle key
    with_reducible refine Calls.mono HSt.out ?_
    rintro r w5 ⟨rfl, hs5, hg5⟩
    have h5 := H2.out.stepped rfl hg5 hs5 (H2.out.sum rfl)
    have HSay := Lib.hid (say_any p s0 _ w5 h5 rfl)
    have Hm5 := Lib.hid (Hm2.out.step hg5 (.inr rfl))
    have Hd5 := Lib.hid (Hd2.out.grown hg5 (fun e => Hpg.out.2 (by injection e with e; exact e.symm)))
    clear hs5 hg5 h5
    go_wp2_with fail
    with_reducible refine Calls.mono HSay.out ?_
    rintro r w6 ⟨rfl, h6, hg6⟩
    have H6 := Lib.hid h6
    have Hm6 := Lib.hid (Hm5.out.step hg6 (.inl rfl))
    have hd6 := Hd5.out.grown hg6 (fun e => Hpg.out.1 (by injection e with e; exact e.symm))
    obtain ⟨hv6, hp6, -⟩ := h6.ptr
    obtain ⟨t2, ht2⟩ : ∃ t2, decide (nextAt k H.length + 3 < H.length) = t2 := ⟨_, rfl⟩
    have hp6 : Blk w6 p 65 (exA a b q true false dn l1 l2 l3 l4 false t2 false q hv6 (.pointer (some ⟨s0, 0, none⟩))) := by rw [← ht2]; exact hp6
    obtain ⟨x0, x1, x2, x3, x4, x5, x6, x7, x8, x9, xa, xb, xc, xd, xe, xf⟩ := blk16 hp6
    have hfz := fun j => hp6.frozen j
    obtain ⟨d0, d1, d2, d3, d4⟩ := blk5 hd6
    obtain ⟨t3, ht3⟩ : ∃ t3, (!m && !t2) = t3 := ⟨_, rfl⟩
    have key := key_take ht3
    have hz := H6.out.put 5 (.bool t3) { sayM (stepM ⟨a, b, q, true, false, dn, l1, l2, l3, l4, ⟨si, sm, ss, sq, shs⟩, H, k⟩) with dn := t3 } (fun _ _ => by simp [ExM.ar, exA, sayM, stepM]) rfl rfl rfl rfl Hq.out
    have hmz := Hm6.out.step (grown_set w6 p 5 (.bool t3)) (.inl rfl)
    have Hz := Lib.hid (show ExAt (w6.setCell ⟨p, 5, none⟩ (.bool t3)) p s0 (takeM ⟨a, b, n, true, false, dn, l1, l2, l3, l4, ⟨si, sm, ss, sq, shs⟩, H, k⟩ ⟨i, m, s, q, hs⟩) from by
      have e : takeM ⟨a, b, n, true, false, dn, l1, l2, l3, l4, ⟨si, sm, ss, sq, shs⟩, H, k⟩ ⟨i, m, s, q, hs⟩ = { sayM (stepM ⟨a, b, q, true, false, dn, l1, l2, l3, l4, ⟨si, sm, ss, sq, shs⟩, H, k⟩) with dn := t3 } := by
        rw [← ht3, ← ht2]
        rfl
      rw [e]
      exact hz)
    have Hmz := Lib.hid hmz
    clear h6 hg6 hd6 hp6 hz hmz ht2 ht3
    rcases key with ⟨rfl, rfl, rfl⟩ | ⟨rfl, rfl⟩ | ⟨rfl, rfl, rfl⟩
    all_goals
      go_wp2
      refine bodyPost_end (results_none rfl _ _ _) rfl ?_
      exact ⟨rfl, Hz.out, Hmz.out⟩

end Go.Proofs.Ytfpjkeddcagfcaa

/-
  Layer 14: an exchange hears a piece.
-/
namespace Go.Proofs.Ytfpjkeddcagfcaa
open Go.RowKit Go.Sort

theorem eqMark (a b c : Bool) (q : Int) (a' b' c' : Bool) (q' : Int) (w : World) : (Op.equalIn 10000 62 (.agg #[.bool a, .bool b, .bool c, .int .i64 q]) (.agg #[.bool a', .bool b', .bool c', .int .i64 q'])).run Try.prog w = .ok (a == a' && b == b' && c == c' && q == q') w := by
  have hS : Try.prog.underlying 62 = some (.struct (Try.prog.fieldsOf 62)) := by kernel_rfl
  have hp : Try.prog.stoodInHeld 62 = false := by kernel_rfl
  rw [show (10000 : Nat) = 9999 + 1 from rfl, run_equalIn_struct w 9999 62 _ _ hS hp]
  simp only [Program.fieldsOf, Try.underlying62]
  go_simp
  by_cases h1 : a = a' <;> by_cases h2 : b = b' <;> by_cases h3 : c = c' <;> by_cases h4 : q = q' <;> simp [h1, h2, h3, h4]
theorem eqMarkN (a b c : Bool) (q : Int) (a' b' c' : Bool) (q' : Int) {t : Bool} (ht : decide (a = a' ∧ b = b' ∧ c = c' ∧ q = q') = t) (w : World) : (Op.equalIn 10000 62 (.agg #[.bool a, .bool b, .bool c, .int .i64 q]) (.agg #[.bool a', .bool b', .bool c', .int .i64 q'])).run Try.prog w = .ok t w := by
  rw [eqMark, ← ht]
  congr 1
  by_cases h1 : a = a' <;> by_cases h2 : b = b' <;> by_cases h3 : c = c' <;> by_cases h4 : q = q' <;> simp [h1, h2, h3, h4]
theorem ExAt.mark {w : World} {p s : Nat} {y : ExM} (h : ExAt w p s y) (d : DdV) : ExAt ((((w.setCell ⟨p, 6, none⟩ (.bool d.i)).setCell ⟨p, 7, none⟩ (.bool d.m)).setCell ⟨p, 8, none⟩ (.bool d.s)).setCell ⟨p, 9, none⟩ (.int .i64 d.q)) p s (markM y d) :=
  (((h.put 6 (.bool d.i) { y with l1 := d.i } (fun _ _ => by simp [ExM.ar, exA]) rfl rfl rfl rfl h.rng).put 7 (.bool d.m) { y with l1 := d.i, l2 := d.m } (fun _ _ => by simp [ExM.ar, exA]) rfl rfl rfl rfl h.rng).put 8 (.bool d.s) { y with l1 := d.i, l2 := d.m, l3 := d.s } (fun _ _ => by simp [ExM.ar, exA]) rfl rfl rfl rfl h.rng).put 9 (.int .i64 d.q) (markM y d) (fun _ _ => by simp [ExM.ar, exA, markM]) rfl rfl rfl rfl h.rng
theorem Mvs.mark {P : Nat → Prop} {w w1 : World} {p : Nat} (h : Mvs P w w1) (hp : P p) (d : DdV) : Mvs P w ((((w1.setCell ⟨p, 6, none⟩ (.bool d.i)).setCell ⟨p, 7, none⟩ (.bool d.m)).setCell ⟨p, 8, none⟩ (.bool d.s)).setCell ⟨p, 9, none⟩ (.int .i64 d.q)) :=
  (((h.step (grown_set w1 p 6 _) hp).step (grown_set _ p 7 _) hp).step (grown_set _ p 8 _) hp).step (grown_set _ p 9 _) hp
/-- what hearing leaves -/
def Heard (x : ExM) (d : DdV) (S : List Hd) (p s0 : Nat) (w w' : World) (r : Ending) : Prop :=
  ∃ s, r = .returned (.int .i64 (hearM x d S).2) ∧ ExAt w' p s (hearM x d S).1 ∧ (x.ag = true → s = s0) ∧ (x.ag = false → s = s0 ∨ w.heap.size ≤ s) ∧ Mvs (fun g => g = p ∨ (x.ag = true ∧ g = s0)) w w'
set_option maxHeartbeats 16000000 in
set_option maxRecDepth 100000 in
theorem hear_any (p s0 : Nat) (x : ExM) (d : DdV) (hA : Option Addr) (hc : Nat) (A : Option Addr) (nn cap : Nat) (S : List Hd) (w : World) (h : ExAt w p s0 x) (hS : S.length ≤ 60) (hl : d.hs.length ≤ 2 ^ 40)
    (HN : ∀ W, w.grownBy W (some p) → Calls Try.prog 34 #[.slice A nn cap] W fun r w' => r = .returned (.pointer (some ⟨W.heap.size, 0, none⟩)) ∧ (∃ v, SmAt w' W.heap.size v 0 S) ∧ Below W.heap.size W w') :
    Calls Try.prog 11 #[.pointer (some ⟨p, 0, none⟩), d.val hA hc, .slice A nn cap] w fun r w' => Heard x d S p s0 w w' r := by
  obtain ⟨i, m, s, q, hs⟩ := d
  simp only at hl
  simp only [DdV.val]
  obtain ⟨nh, hnh⟩ : ∃ z, hs.length = z := ⟨_, rfl⟩
  rw [hnh]
  obtain ⟨w1, hw1⟩ : ∃ w1, w.alloc (.cells #[.bool i, .bool m, .bool s, .int .i64 q, .slice hA nh hc] 33) = w1 := ⟨_, rfl⟩
  obtain ⟨g1, hg1⟩ : ∃ g1, w.heap.size = g1 := ⟨_, rfl⟩
  have hd := Blk.new w 33 #[.bool i, .bool m, .bool s, .int .i64 q, .slice hA nh hc]
  have hb1 := below_new w (.cells #[.bool i, .bool m, .bool s, .int .i64 q, .slice hA nh hc] 33)
  rw [hw1, hg1] at hd
  rw [hw1] at hb1
  have h1 := h.below hb1
  obtain ⟨w2, hw2⟩ : ∃ w2, w1.alloc (.cells #[.bool i, .bool m, .bool s, .int .i64 q] 62) = w2 := ⟨_, rfl⟩
  obtain ⟨g2, hg2⟩ : ∃ g2, w1.heap.size = g2 := ⟨_, rfl⟩
  have hk := Blk.new w1 62 #[.bool i, .bool m, .bool s, .int .i64 q]
  have hb2 := below_new w1 (.cells #[.bool i, .bool m, .bool s, .int .i64 q] 62)
  rw [hw2, hg2] at hk
  rw [hw2] at hb2
  have hd2 := hd.below hb2 hd.lt
  have hb12 := below_trans hb1 hb1.size hb2
  have h2 := h1.below hb2
  obtain ⟨d0, d1, d2, d3, d4⟩ := blk5 hd
  have Hb12 := Lib.hid hb12
  have Hb1 := Lib.hid hb1
  have H2 := Lib.hid h2
  have H1 := Lib.hid h1
  have Hk := Lib.hid hk
  have Hd2 := Lib.hid hd2
  have HNe := Lib.hid HN
  have HS := Lib.hid hS
  have Hl := Lib.hid hl
  have Hnh := Lib.hid hnh
  clear h h1 hd hb1 hk hb2 hd2 hb12 h2 HN hS hl hnh
  have hx : ¬ (Value.pointer (some ⟨p, 0, none⟩) = Value.pointer none) := by simp
  by_cases hq0 : q < 0
  · have He : Hid (hearM x ⟨i, m, s, q, hs⟩ S = (x, 0)) := Lib.hid (by unfold hearM; rw [if_pos (.inl hq0)])
    go_enter Try.func11, Try.ntmps11
    go_wp2
    go_ret
    unfold Heard
    rw [He.out]
    exact ⟨s0, rfl, H1.out, fun _ => rfl, fun _ => .inl rfl, .one (gr_below (row := some p) Hb1.out) (.inl rfl)⟩
  by_cases hq1 : 4294967295 < q
  · have He : Hid (hearM x ⟨i, m, s, q, hs⟩ S = (x, 0)) := Lib.hid (by unfold hearM; rw [if_pos (.inr hq1)])
    go_enter Try.func11, Try.ntmps11
    go_wp2
    go_ret
    unfold Heard
    rw [He.out]
    exact ⟨s0, rfl, H1.out, fun _ => rfl, fun _ => .inl rfl, .one (gr_below (row := some p) Hb1.out) (.inl rfl)⟩
  have hq : 0 ≤ q ∧ q ≤ 4294967295 := ⟨by omega, by omega⟩
  have hqn : ¬ (q < 0 ∨ 4294967295 < q) := by omega
  have Hp2 := Lib.hid (show p ≠ g2 from fun e => by obtain ⟨hv, h9, -⟩ := H2.out.ptr; have := blk_type (e ▸ h9) Hk.out; revert this; decide)
  cases hag : x.ag with
  | false =>
    have HB := Lib.hid (begin_any p s0 x ⟨i, m, s, q, hs⟩ hA hc A nn cap S w2 H2.out hag hq HS.out Hl.out (fun W hW => HNe.out W (gr_trans (gr_below Hb12.out) hW)))
    simp only [DdV.val, Hnh.out] at HB
    obtain ⟨hv, hp, -⟩ := H2.out.ptr
    simp only [ExM.ar, hag] at hp
    obtain ⟨x0, x1, x2, x3, x4, x5, x6, x7, x8, x9, xa, xb, xc, xd, xe, xf⟩ := blk16 hp
    obtain ⟨e0, e1, e2, e3, e4⟩ := blk5 Hd2.out
    cases hbm : beginM x ⟨i, m, s, q, hs⟩ S with
    | none =>
      have He : Hid (hearM x ⟨i, m, s, q, hs⟩ S = (x, 0)) := Lib.hid (by unfold hearM; rw [if_neg hqn, if_pos hag, hbm])
      have Hbm := Lib.hid hbm
      clear hbm hqn hq hp hag x0 x1 x2 x4 x5 x6 x7 x8 x9 xa xb xc xd xe xf
      go_enter Try.func11, Try.ntmps11
      go_wp2_with fail
      with_reducible refine Calls.mono HB.out ?_
      rintro r w3 hbg
      unfold Began at hbg
      rw [Hbm.out] at hbg
      obtain ⟨rfl, hb3⟩ := hbg
      have Hb3 := Lib.hid hb3
      clear hb3
      go_wp2
      go_ret
      unfold Heard
      rw [He.out]
      exact ⟨s0, rfl, H2.out.below Hb3.out, fun _ => rfl, fun _ => .inl rfl, .step (.one (gr_below (row := some p) Hb12.out) (.inl rfl)) (gr_below (row := some p) Hb3.out) (.inl rfl)⟩
    | some y =>
      have He : Hid (hearM x ⟨i, m, s, q, hs⟩ S = (markM y ⟨i, m, s, q, hs⟩, 2)) := Lib.hid (by unfold hearM; rw [if_neg hqn, if_pos hag, hbm])
      have Hbm := Lib.hid hbm
      have Hag := Lib.hid hag
      clear hbm hqn hq hp hag x0 x1 x2 x4 x5 x6 x7 x8 x9 xa xb xc xd xe xf
      go_enter Try.func11, Try.ntmps11
      go_wp2_with fail
      with_reducible refine Calls.mono HB.out ?_
      rintro r w3 hbg
      unfold Began at hbg
      rw [Hbm.out] at hbg
      obtain ⟨rfl, ⟨s4, hs4, he⟩, hg3⟩ := hbg
      have hk3 := Hk.out.grown hg3 (fun e => Hp2.out (by injection e with e; exact e.symm))
      have k0 := hk3.cell 0
      have k1 := hk3.cell 1
      have k2 := hk3.cell 2
      have k3 := hk3.cell 3
      simp only [List.getElem?_toArray, List.getElem?_cons_zero, List.getElem?_cons_succ] at k0 k1 k2 k3
      obtain ⟨hv3, hp3, -⟩ := he.ptr
      have hfz := fun j => hp3.frozen j
      simp only [ExM.ar] at hp3
      obtain ⟨z0, z1, z2, z3, z4, z5, z6, z7, z8, z9, za, zb, zc, zd, ze, zf⟩ := blk16 hp3
      clear z0 z1 z2 z3 z4 z5 za zb zc zd ze zf
      have He3 := Lib.hid (he.mark ⟨i, m, s, q, hs⟩)
      have Hm3 := Lib.hid ((Mvs.step (P := fun g => g = p ∨ (x.ag = true ∧ g = s0)) (.one (gr_below (row := some p) Hb12.out) (.inl rfl)) hg3 (.inl rfl)).mark (.inl rfl) ⟨i, m, s, q, hs⟩)
      have Hs4 := Lib.hid (Nat.le_trans Hb12.out.size hs4)
      clear x3 hk3 hp3 he hg3 hs4
      go_wp2
      go_ret
      unfold Heard
      rw [He.out]
      exact ⟨s4, rfl, He3.out, (fun h => by rw [Hag.out] at h; cases h), fun _ => .inr Hs4.out, Hm3.out⟩
  | true =>
    obtain ⟨t, ht⟩ : ∃ t, sameM x ⟨i, m, s, q, hs⟩ = t := ⟨_, rfl⟩
    have heq := fun W => eqMarkN i m s q x.l1 x.l2 x.l3 x.l4 (t := t) ht W
    obtain ⟨u, hu⟩ : ∃ u, fitsM x ⟨i, m, s, q, hs⟩ = u := ⟨_, rfl⟩
    have HFt := Lib.hid (fun W (hW : Below w2.heap.size w2 W) => fits_any p s0 x ⟨i, m, s, q, hs⟩ hA hc W (H2.out.below hW))
    have HTk := Lib.hid (fun W (hW : Below w2.heap.size w2 W) => take_any p s0 x ⟨i, m, s, q, hs⟩ hA hc W (H2.out.below hW) hag hq)
    rw [hu] at HFt
    simp only [DdV.val, Hnh.out] at HFt HTk
    have He : Hid (hearM x ⟨i, m, s, q, hs⟩ S = if t = true then (x, if x.ld then 0 else 1) else if u = true then (markM (takeM x ⟨i, m, s, q, hs⟩) ⟨i, m, s, q, hs⟩, 2) else (x, 3)) := Lib.hid (by unfold hearM; rw [if_neg hqn, if_neg (by rw [hag]; simp), ht, hu])
    obtain ⟨hv, hp, -⟩ := H2.out.ptr
    have Hps := Lib.hid (H2.out.apart hag)
    have Hs2 := Lib.hid (H2.out.sum hag)
    simp only [ExM.ar, hag, if_true] at hp
    have HP := Lib.hid hp
    obtain ⟨e0, e1, e2, e3, e4⟩ := blk5 Hd2.out
    have k0 := Hk.out.cell 0
    have k1 := Hk.out.cell 1
    have k2 := Hk.out.cell 2
    have k3 := Hk.out.cell 3
    simp only [List.getElem?_toArray, List.getElem?_cons_zero, List.getElem?_cons_succ] at k0 k1 k2 k3
    have Hag := Lib.hid hag
    clear hqn hq ht hu hag
    obtain ⟨ld, hld⟩ : ∃ z, x.ld = z := ⟨_, rfl⟩
    rw [hld] at hp He
    obtain ⟨x0, x1, x2, x3, x4, x5, x6, x7, x8, x9, xa, xb, xc, xd, xe, xf⟩ := blk16 hp
    clear hp hld x0 x1 x2 x5 xa xb xc xd xe xf
    cases t with
    | true =>
      cases ld
      all_goals
        go_enter Try.func11, Try.ntmps11
        go_wp2
        go_quiet (fail)
        go_wp2
        try (go_quiet (fail); go_wp2)
        go_ret
        unfold Heard
        rw [He.out]
        first
          | exact ⟨s0, rfl, H2.out.below (below_drewN (Below.refl _ _) _), fun _ => rfl, (fun h => by rw [Hag.out] at h; cases h), .one (gr_below (row := some p) (below_drewN Hb12.out _)) (.inl rfl)⟩
          | exact ⟨s0, rfl, H2.out.below (below_drewN (below_drewN (Below.refl _ _) _) _), fun _ => rfl, (fun h => by rw [Hag.out] at h; cases h), .one (gr_below (row := some p) (below_drewN (below_drewN Hb12.out _) _)) (.inl rfl)⟩
    | false =>
      go_enter Try.func11, Try.ntmps11
      go_wp2
      go_quiet (fail)
      go_wp2
      go_quiet (fail)
      go_wp2_with fail
      with_reducible refine Calls.mono (HFt.out _ (below_drewN (Below.refl _ _) _)) ?_
      rintro r w3 ⟨rfl, hb3⟩
      have hb23 := below_trans (below_drewN (Below.refl w2.heap.size w2) _) (Nat.le_refl _) hb3
      have Hb3 := Lib.hid hb23
      obtain ⟨e0, e1, e2, e3, e4⟩ := blk5 (Hd2.out.below hb23 Hd2.out.lt)
      clear hb3 hb23 k0 k1 k2 k3 x3 x4 x6 x7 x8 x9 heq
      cases u with
      | false =>
        go_wp2
        go_ret
        unfold Heard
        rw [He.out]
        exact ⟨s0, rfl, H2.out.below Hb3.out, fun _ => rfl, (fun h => by rw [Hag.out] at h; cases h), .one (gr_below (row := some p) (below_trans Hb12.out Hb12.out.size Hb3.out)) (.inl rfl)⟩
      | true =>
        go_wp2_with fail
        with_reducible refine Calls.mono (HTk.out _ Hb3.out) ?_
        rintro r w4 ⟨rfl, he, hm4⟩
        have hgs : g2 ≠ s0 := fun e => by obtain ⟨v, h9⟩ := Hs2.out; have := blk_type (e ▸ Hk.out) h9.ptr; revert this; decide
        have hk3 := hm4.blk (Hk.out.below Hb3.out Hk.out.lt) (fun e => e.elim (fun e => Hp2.out e.symm) hgs)
        have k0 := hk3.cell 0
        have k1 := hk3.cell 1
        have k2 := hk3.cell 2
        have k3 := hk3.cell 3
        simp only [List.getElem?_toArray, List.getElem?_cons_zero, List.getElem?_cons_succ] at k0 k1 k2 k3
        obtain ⟨hv3, hp3, -⟩ := he.ptr
        have hfz := fun j => hp3.frozen j
        simp only [ExM.ar] at hp3
        obtain ⟨z0, z1, z2, z3, z4, z5, z6, z7, z8, z9, za, zb, zc, zd, ze, zf⟩ := blk16 hp3
        clear z0 z1 z2 z3 z4 z5 za zb zc zd ze zf
        have He3 := Lib.hid (he.mark ⟨i, m, s, q, hs⟩)
        have Hm3 := Lib.hid (((Mvs.one (P := fun g => g = p ∨ (x.ag = true ∧ g = s0)) (gr_below (row := some p) (below_trans Hb12.out Hb12.out.size Hb3.out)) (.inl rfl)).trans (hm4.imp fun g hg => hg.imp id fun e => ⟨Hag.out, e⟩)).mark (.inl rfl) ⟨i, m, s, q, hs⟩)
        clear hk3 hp3 he hm4 hgs
        go_wp2
        go_ret
        unfold Heard
        rw [He.out]
        exact ⟨s0, rfl, He3.out, fun _ => rfl, (fun h => by rw [Hag.out] at h; cases h), Hm3.out⟩

end Go.Proofs.Ytfpjkeddcagfcaa

/-
  Layer 14: the document's exchange hears a piece: just as the exchange of the program's values does.
-/
namespace Go.Proofs.Ytfpjkeddcagfcaa
open Go.RowKit Go.Sort

/-- what holds of the document's exchange besides its cells -/
structure RxOk (w : World) (x : ExM) (hl pv : Value) (j J : Nat) : Prop where
  le : j ≤ J
  isl : ∃ A n c, hl = .slice A n c
  no : x.ag = false → j = 0 ∧ x.ld = false ∧ x.dn = false
  yes : x.ag = true → (∃ V, Pcs w pv V x.H) ∧ x.k = kOf x.H.length j ∧ x.H.length ≤ 2 ^ 19
  rng : 0 ≤ x.n ∧ x.n ≤ 4294967295
/-- the document's exchange in memory -/
def RxAt (w : World) (p : Nat) (x : ExM) (J : Nat) : Prop :=
  ∃ hl hv pv j, Blk w p 68 (rxA x.a x.b x.n x.ag x.ld x.dn x.l1 x.l2 x.l3 x.l4 hl x.said.i x.said.m x.said.s x.said.q hv pv (j : Nat)) ∧ OwnR 56 7 Hd.cells w 0 hv x.said.hs ∧ RxOk w x hl pv j J
theorem RxOk.below {w w' : World} {x : ExM} {hl pv : Value} {j J : Nat} (h : RxOk w x hl pv j J) (hb : Below w.heap.size w w') : RxOk w' x hl pv j J :=
  ⟨h.le, h.isl, h.no, fun e => by obtain ⟨⟨V, h1⟩, h2⟩ := h.yes e; exact ⟨⟨V, h1.below hb⟩, h2⟩, h.rng⟩
theorem RxAt.below {w w' : World} {p : Nat} {x : ExM} {J : Nat} (h : RxAt w p x J) (hb : Below w.heap.size w w') : RxAt w' p x J := by
  obtain ⟨hl, hv, pv, j, h1, h2, h3⟩ := h
  exact ⟨hl, hv, pv, j, h1.below hb h1.lt, h2.below hb, h3.below hb⟩
theorem RxAt.later {w : World} {p : Nat} {x : ExM} {J J' : Nat} (h : RxAt w p x J) (hJ : J ≤ J') : RxAt w p x J' := by
  obtain ⟨hl, hv, pv, j, h1, h2, h3⟩ := h
  exact ⟨hl, hv, pv, j, h1, h2, ⟨Nat.le_trans h3.le hJ, h3.isl, h3.no, h3.yes, h3.rng⟩⟩
/-- what hearing leaves -/
def RHeard (x : ExM) (d : DdV) (S : List Hd) (p J : Nat) (w w' : World) (r : Ending) : Prop :=
  r = .returned (.int .i64 (hearM x d S).2) ∧ RxAt w' p (hearM x d S).1 (J + 1) ∧ w.grownBy w' (some p)
theorem RHeard.stay {x : ExM} {d : DdV} {S : List Hd} {p J : Nat} {w w' : World} {z : Int} (h : RxAt w p x J) (he : hearM x d S = (x, z)) (hb : Below w.heap.size w w') : RHeard x d S p J w w' (.returned (.int .i64 z)) := by
  unfold RHeard
  rw [he]
  exact ⟨rfl, (h.below hb).later (Nat.le_succ _), gr_below hb⟩
theorem said_zero (S : List Hd) : decide (0 + 3 < S.length) = moreP S 0 ∧ pieceAt S 0 = pcP S 0 := by
  have h := kOf_more S 0
  rw [kOf_zero] at h
  refine ⟨h, ?_⟩
  unfold pcP
  rw [kOf_zero]
theorem said_next (S : List Hd) (j : Nat) : decide (nextAt (kOf S.length j) S.length + 3 < S.length) = moreP S (j + 1) ∧ pieceAt S (nextAt (kOf S.length j) S.length) = pcP S (j + 1) := by
  rw [kOf_next]
  exact ⟨kOf_more S (j + 1), rfl⟩
theorem rxBegin_any (p J : Nat) (x : ExM) (d : DdV) (hA : Option Addr) (hc : Nat) (A : Option Addr) (nn cap : Nat) (S : List Hd) (w : World) (h : RxAt w p x J) (hag : x.ag = false) (hS : S.length ≤ 60) (hl : d.hs.length ≤ 2 ^ 40)
    (HN : ∀ W, w.grownBy W (some p) → Calls Try.prog 14 #[.slice A nn cap] W fun r w' => (∃ u, r = .returned u ∧ OwnR 56 7 Hd.cells w' W.heap.size u S) ∧ Below W.heap.size W w') :
    Calls Try.prog 12 #[.pointer (some ⟨p, 0, none⟩), d.val hA hc, .slice A nn cap] w fun r w' => RHeard x d S p J w w' r := by
  have h0 := h
  obtain ⟨a, b, n, ag, ld, dn, l1, l2, l3, l4, ⟨si, sm, ss, sq, shs⟩, H, k⟩ := x
  obtain ⟨i, m, s, q, hs⟩ := d
  simp only at hag hl
  subst hag
  obtain ⟨hlv, hv, pv, j, hp, ho, hok⟩ := h
  obtain ⟨hj, hld, hdn⟩ := hok.no rfl
  simp only at hld hdn
  subst hj hld hdn
  have hrng := hok.rng
  simp only at hp ho hrng
  simp only [DdV.val]
  have hnh : (hs.length : Int) ≤ 1099511627776 := by omega
  by_cases hq0 : q < 0
  · exact (rxNo_far0 p _ _ _ _ _ _ _ _ _ _ _ _ _ _ _ _ _ _ i m s q hA hs.length hc A nn cap hq0 hnh w hp).mono (by rintro r w' ⟨rfl, hb⟩; exact .stay h0 (by simp [hearM, hq0]) hb)
  by_cases hq1 : 4294967296 ≤ q
  · exact (rxNo_far1 p _ _ _ _ _ _ _ _ _ _ _ _ _ _ _ _ _ _ i m s q hA hs.length hc A nn cap hq0 hq1 hnh w hp).mono (by rintro r w' ⟨rfl, hb⟩; exact .stay h0 (by simp [hearM, show q < 0 ∨ 4294967295 < q by omega]) hb)
  have hqn : ¬ (q < 0 ∨ 4294967295 < q) := by omega
  have hn1 : ∀ (h : ¬ (i = true ∧ m = true ∧ s = true ∧ hs.length = 0 ∧ a < b)) (h2 : ¬ (i = false ∧ s = false ∧ q = n ∧ b < a)), hearM ⟨a, b, n, false, false, false, l1, l2, l3, l4, ⟨si, sm, ss, sq, shs⟩, H, k⟩ ⟨i, m, s, q, hs⟩ S = (⟨a, b, n, false, false, false, l1, l2, l3, l4, ⟨si, sm, ss, sq, shs⟩, H, k⟩, 0) := fun h h2 => by
    unfold hearM beginM
    rw [if_neg hqn, if_pos rfl, if_neg h, if_neg h2]
  cases i with
  | true =>
    cases m with
    | false => exact (rxNo_f1 p _ _ _ _ _ _ _ _ _ _ _ _ _ _ s q hA hs.length hc A nn cap hq0 hq1 hnh w hp).mono (by rintro r w' ⟨rfl, hb⟩; exact .stay h0 (hn1 (by simp) (by simp)) hb)
    | true =>
      cases s with
      | false => exact (rxNo_f2 p _ _ _ _ _ _ _ _ _ _ _ _ _ _ q hA hs.length hc A nn cap hq0 hq1 hnh w hp).mono (by rintro r w' ⟨rfl, hb⟩; exact .stay h0 (hn1 (by simp) (by simp)) hb)
      | true =>
        by_cases h4 : hs.length = 0
        · have e4 : ((hs.length : Int) == 0) = true := by simp [h4]
          by_cases h5 : a < b
          · refine (rxYes_first p _ _ _ _ _ _ _ _ _ _ _ _ _ _ q hA hs.length hc A nn cap hq0 hq1 h5 e4 hnh S hS w hp HN).mono ?_
            rintro r w' ⟨rfl, ⟨hv', pv', hp', ho', hV⟩, hg⟩
            have he : hearM ⟨a, b, n, false, false, false, l1, l2, l3, l4, ⟨si, sm, ss, sq, shs⟩, H, k⟩ ⟨true, true, true, q, hs⟩ S = (⟨a, b, q, true, false, false, true, true, true, q, ⟨false, moreP S 0, false, q, pcP S 0⟩, S, 0⟩, 2) := by
              unfold hearM beginM
              rw [if_neg hqn, if_pos rfl, if_pos ⟨rfl, rfl, rfl, h4, h5⟩]
              simp only [markM, sayM, (said_zero S).1, (said_zero S).2]
            unfold RHeard
            rw [he]
            exact ⟨rfl, ⟨_, hv', pv', 0, hp', ho', ⟨Nat.zero_le _, ⟨_, _, _, rfl⟩, (fun e => by cases e), fun _ => ⟨hV, (kOf_zero _).symm, (show S.length ≤ 2 ^ 19 by omega)⟩, (show 0 ≤ q by omega), (show q ≤ 4294967295 by omega)⟩⟩, hg⟩
          · exact (rxNo_f4 p _ _ _ _ _ _ _ _ _ _ _ _ _ _ q hA hs.length hc A nn cap hq0 hq1 e4 h5 hnh w hp).mono (by rintro r w' ⟨rfl, hb⟩; exact .stay h0 (hn1 (by simp [h5]) (by simp)) hb)
        · have e4 : ((hs.length : Int) == 0) = false := by rw [beq_eq_false_iff_ne]; omega
          exact (rxNo_f3 p _ _ _ _ _ _ _ _ _ _ _ _ _ _ q hA hs.length hc A nn cap hq0 hq1 e4 hnh w hp).mono (by rintro r w' ⟨rfl, hb⟩; exact .stay h0 (hn1 (fun e => h4 e.2.2.2.1) (by simp)) hb)
  | false =>
    cases s with
    | true => exact (rxNo_s1 p _ _ _ _ _ _ _ _ _ _ _ _ _ _ m q hA hs.length hc A nn cap hq0 hq1 hnh w hp).mono (by rintro r w' ⟨rfl, hb⟩; exact .stay h0 (hn1 (by simp) (by simp)) hb)
    | false =>
      by_cases h4 : q = n
      · have e4 : (q == n) = true := by simp [h4]
        by_cases h5 : b < a
        · refine (rxYes_second p _ _ _ _ _ _ _ _ _ _ _ _ _ _ m q hA hs.length hc A nn cap hq0 hq1 h5 e4 hnh S hS w hp HN).mono ?_
          rintro r w' ⟨rfl, ⟨hv', pv', hp', ho', hV⟩, hg⟩
          have he : hearM ⟨a, b, n, false, false, false, l1, l2, l3, l4, ⟨si, sm, ss, sq, shs⟩, H, k⟩ ⟨false, m, false, q, hs⟩ S = (⟨a, b, exNext q, true, true, false, false, m, false, q, ⟨false, moreP S 0, true, exNext q, pcP S 0⟩, S, 0⟩, 2) := by
            unfold hearM beginM
            rw [if_neg hqn, if_pos rfl, if_neg (by simp), if_pos ⟨rfl, rfl, h4, h5⟩]
            simp only [markM, sayM, (said_zero S).1, (said_zero S).2, h4]
          unfold RHeard
          rw [he]
          exact ⟨rfl, ⟨_, hv', pv', 0, hp', ho', ⟨Nat.zero_le _, ⟨_, _, _, rfl⟩, (fun e => by cases e), fun _ => ⟨hV, (kOf_zero _).symm, (show S.length ≤ 2 ^ 19 by omega)⟩, exNext_rng q⟩⟩, hg⟩
        · exact (rxNo_s3 p _ _ _ _ _ _ _ _ _ _ _ _ _ _ m q hA hs.length hc A nn cap hq0 hq1 e4 h5 hnh w hp).mono (by rintro r w' ⟨rfl, hb⟩; exact .stay h0 (hn1 (by simp) (fun e => h5 e.2.2.2)) hb)
      · have e4 : (q == n) = false := by simp [h4]
        exact (rxNo_s2 p _ _ _ _ _ _ _ _ _ _ _ _ _ _ m q hA hs.length hc A nn cap hq0 hq1 e4 hnh w hp).mono (by rintro r w' ⟨rfl, hb⟩; exact .stay h0 (hn1 (by simp) (fun e => h4 e.2.2.1)) hb)
theorem rxAgreed_any (p J : Nat) (x : ExM) (d : DdV) (hA : Option Addr) (hc : Nat) (A : Option Addr) (nn cap : Nat) (S : List Hd) (w : World) (h : RxAt w p x J) (hag : x.ag = true) (hJ : J + 1 ≤ 2 ^ 20) (hl : d.hs.length ≤ 2 ^ 40) :
    Calls Try.prog 12 #[.pointer (some ⟨p, 0, none⟩), d.val hA hc, .slice A nn cap] w fun r w' => RHeard x d S p J w w' r := by
  have h0 := h
  obtain ⟨a, b, n, ag, ld, dn, l1, l2, l3, l4, ⟨si, sm, ss, sq, shs⟩, H, k⟩ := x
  obtain ⟨i, m, s, q, hs⟩ := d
  simp only at hag hl
  subst hag
  obtain ⟨hlv, hv, pv, j, hp, ho, hok⟩ := h
  obtain ⟨⟨V, hP⟩, hk, hH⟩ := hok.yes rfl
  obtain ⟨LA, Ln, Lc, hle⟩ := hok.isl
  subst hle
  have hrng := hok.rng
  have hjJ := hok.le
  simp only at hp ho hrng hk hH hP
  subst hk
  simp only [DdV.val]
  have hnh : (hs.length : Int) ≤ 1099511627776 := by omega
  by_cases hq0 : q < 0
  · exact (rxNo_far0 p _ _ _ _ _ _ _ _ _ _ _ _ _ _ _ _ _ _ i m s q hA hs.length hc A nn cap hq0 hnh w hp).mono (by rintro r w' ⟨rfl, hb⟩; exact .stay h0 (by simp [hearM, hq0]) hb)
  by_cases hq1 : 4294967296 ≤ q
  · exact (rxNo_far1 p _ _ _ _ _ _ _ _ _ _ _ _ _ _ _ _ _ _ i m s q hA hs.length hc A nn cap hq0 hq1 hnh w hp).mono (by rintro r w' ⟨rfl, hb⟩; exact .stay h0 (by simp [hearM, show q < 0 ∨ 4294967295 < q by omega]) hb)
  have hqn : ¬ (q < 0 ∨ 4294967295 < q) := by omega
  obtain ⟨X, hX⟩ : ∃ X : ExM, X = ⟨a, b, n, true, ld, dn, l1, l2, l3, l4, ⟨si, sm, ss, sq, shs⟩, H, kOf H.length j⟩ := ⟨_, rfl⟩
  by_cases ht : i = l1 ∧ m = l2 ∧ s = l3 ∧ q = l4
  · have ht2 : decide (i = l1 ∧ m = l2 ∧ s = l3 ∧ q = l4) = true := decide_eq_true ht
    have he : hearM ⟨a, b, n, true, ld, dn, l1, l2, l3, l4, ⟨si, sm, ss, sq, shs⟩, H, kOf H.length j⟩ ⟨i, m, s, q, hs⟩ S = (⟨a, b, n, true, ld, dn, l1, l2, l3, l4, ⟨si, sm, ss, sq, shs⟩, H, kOf H.length j⟩, if ld = true then 0 else 1) := by
      unfold hearM
      rw [if_neg hqn, if_neg (by simp), if_pos (by simpa [sameM] using ht)]
    cases ld with
    | true => exact (rxAgain_true p _ _ _ i m s dn _ _ _ _ _ _ _ _ _ _ _ _ _ j q hA hs.length hc A nn cap hq0 hq1 hrng.1 hrng.2 ht2 w hp).mono (by rintro r w' ⟨rfl, hb⟩; exact .stay h0 he hb)
    | false => exact (rxAgain_false p _ _ _ i m s dn _ _ _ _ _ _ _ _ _ _ _ _ _ j q hA hs.length hc A nn cap hq0 hq1 hrng.1 hrng.2 ht2 w hp).mono (by rintro r w' ⟨rfl, hb⟩; exact .stay h0 he hb)
  · have ht2 : decide (i = l1 ∧ m = l2 ∧ s = l3 ∧ q = l4) = false := decide_eq_false ht
    have hsm : sameM ⟨a, b, n, true, ld, dn, l1, l2, l3, l4, ⟨si, sm, ss, sq, shs⟩, H, kOf H.length j⟩ ⟨i, m, s, q, hs⟩ = false := ht2
    have hbad : fitsM ⟨a, b, n, true, ld, dn, l1, l2, l3, l4, ⟨si, sm, ss, sq, shs⟩, H, kOf H.length j⟩ ⟨i, m, s, q, hs⟩ = false → hearM ⟨a, b, n, true, ld, dn, l1, l2, l3, l4, ⟨si, sm, ss, sq, shs⟩, H, kOf H.length j⟩ ⟨i, m, s, q, hs⟩ S = (⟨a, b, n, true, ld, dn, l1, l2, l3, l4, ⟨si, sm, ss, sq, shs⟩, H, kOf H.length j⟩, 3) := fun hf => by
      unfold hearM
      rw [if_neg hqn, if_neg (by simp), if_neg (by rw [hsm]; simp), if_neg (by rw [hf]; simp)]
    have hgood : fitsM ⟨a, b, n, true, ld, dn, l1, l2, l3, l4, ⟨si, sm, ss, sq, shs⟩, H, kOf H.length j⟩ ⟨i, m, s, q, hs⟩ = true → hearM ⟨a, b, n, true, ld, dn, l1, l2, l3, l4, ⟨si, sm, ss, sq, shs⟩, H, kOf H.length j⟩ ⟨i, m, s, q, hs⟩ S = (markM (takeM ⟨a, b, n, true, ld, dn, l1, l2, l3, l4, ⟨si, sm, ss, sq, shs⟩, H, kOf H.length j⟩ ⟨i, m, s, q, hs⟩) ⟨i, m, s, q, hs⟩, 2) := fun hf => by
      unfold hearM
      rw [if_neg hqn, if_neg (by simp), if_neg (by rw [hsm]; simp), if_pos hf]
    cases dn with
    | true =>
      cases ld with
      | true => exact (rxBad_dn_true p _ _ _ i m s _ _ _ _ _ _ _ _ _ _ _ _ _ j q hA hs.length hc A nn cap hq0 hq1 hrng.1 hrng.2 ht2 w hp).mono (by rintro r w' ⟨rfl, hb⟩; exact .stay h0 (hbad (by simp [fitsM])) hb)
      | false => exact (rxBad_dn_false p _ _ _ i m s _ _ _ _ _ _ _ _ _ _ _ _ _ j q hA hs.length hc A nn cap hq0 hq1 hrng.1 hrng.2 ht2 w hp).mono (by rintro r w' ⟨rfl, hb⟩; exact .stay h0 (hbad (by simp [fitsM])) hb)
    | false =>
      cases i with
      | true =>
        cases ld with
        | true => exact (rxBad_in_true p _ _ _ m s _ _ _ _ _ _ _ _ _ _ _ _ _ j q hA hs.length hc A nn cap hq0 hq1 hrng.1 hrng.2 ht2 w hp).mono (by rintro r w' ⟨rfl, hb⟩; exact .stay h0 (hbad (by simp [fitsM])) hb)
        | false => exact (rxBad_in_false p _ _ _ m s _ _ _ _ _ _ _ _ _ _ _ _ _ j q hA hs.length hc A nn cap hq0 hq1 hrng.1 hrng.2 ht2 w hp).mono (by rintro r w' ⟨rfl, hb⟩; exact .stay h0 (hbad (by simp [fitsM])) hb)
      | false =>
        cases ld with
        | true =>
          cases s with
          | true => exact (rxBad_ms_true p _ _ _ m _ _ _ _ _ _ _ _ _ _ _ _ _ j q hA hs.length hc A nn cap hq0 hq1 hrng.1 hrng.2 ht2 w hp).mono (by rintro r w' ⟨rfl, hb⟩; exact .stay h0 (hbad (by simp [fitsM])) hb)
          | false =>
            by_cases h4 : q = n
            · have e4 : (q == n) = true := by simp [h4]
              have hf := hgood (by simp [fitsM, wantM, h4])
              by_cases hd : m = false ∧ sm = false
              · obtain ⟨rfl, rfl⟩ := hd
                refine (rxLead_done p _ _ _ _ _ _ _ _ _ _ _ _ _ _ _ _ j q hA hs.length hc A nn cap hq0 hq1 hrng.1 hrng.2 ht2 e4 rfl w hp).mono ?_
                rintro r w' ⟨rfl, hp', hg⟩
                have he := hf.trans (show _ = ((⟨a, b, exNext n, true, true, true, false, false, false, q, ⟨si, false, ss, sq, shs⟩, H, kOf H.length j⟩ : ExM), (2 : Int)) by simp [markM, takeM, h4])
                unfold RHeard
                rw [he]
                exact ⟨rfl, ⟨_, hv, pv, j, hp', ho.kept hg (.inr (own_ne14 ho hp (by decide))), ⟨by omega, ⟨_, _, _, rfl⟩, (fun e => by cases e), fun _ => ⟨⟨V, hP.grown hp (by decide) (by decide) hg⟩, rfl, hH⟩, exNext_rng n⟩⟩, hg⟩
              · have hstep : ∀ r w', (r = .returned (.int .i64 2) ∧ (∃ hv', Blk w' p 68 (rxA a b (exNext n) true true false false m false q (.slice hA hs.length hc) false (moreP H (j + 1)) true (exNext n) hv' pv (j + 1 : Nat)) ∧ OwnR 56 7 Hd.cells w' 0 hv' (pcP H (j + 1)) ∧ Pcs w' pv V H) ∧ w.grownBy w' (some p)) → RHeard ⟨a, b, n, true, true, false, l1, l2, l3, l4, ⟨si, sm, ss, sq, shs⟩, H, kOf H.length j⟩ ⟨false, m, false, q, hs⟩ S p J w w' r := by
                  rintro r w' ⟨rfl, ⟨hv', hp', ho', hP'⟩, hg⟩
                  have he := hf.trans (show _ = ((⟨a, b, exNext n, true, true, false, false, m, false, q, ⟨false, moreP H (j + 1), true, exNext n, pcP H (j + 1)⟩, H, kOf H.length (j + 1)⟩ : ExM), (2 : Int)) by
                    have hd2 : (!m && !sm) = false := by cases m <;> cases sm <;> simp_all
                    simp only [markM, takeM, h4, if_true, hd2, Bool.false_eq_true, if_false, sayM, stepM, kOf_next, kOf_more, pcP])
                  unfold RHeard
                  rw [he]
                  exact ⟨rfl, ⟨_, hv', pv, j + 1, hp', ho', ⟨by omega, ⟨_, _, _, rfl⟩, (fun e => by cases e), fun _ => ⟨⟨V, hP'⟩, rfl, hH⟩, exNext_rng n⟩⟩, hg⟩
                cases m with
                | true => exact (rxLead_step1 p _ _ _ _ _ _ _ _ _ _ _ _ _ _ _ _ j q hA hs.length hc A nn cap hq0 hq1 hrng.1 hrng.2 ht2 e4 w hp hP (by omega) hH).mono hstep
                | false =>
                  have hsmt : sm = true := by cases sm <;> simp_all
                  exact (rxLead_step2 p _ _ _ _ _ _ _ _ _ _ _ _ _ _ _ _ j q hA hs.length hc A nn cap hq0 hq1 hrng.1 hrng.2 ht2 e4 hsmt w hp hP (by omega) hH).mono hstep
            · have e4 : (q == n) = false := by simp [h4]
              exact (rxBad_sq_true p _ _ _ m _ _ _ _ _ _ _ _ _ _ _ _ _ j q hA hs.length hc A nn cap hq0 hq1 hrng.1 hrng.2 ht2 e4 w hp).mono (by rintro r w' ⟨rfl, hb⟩; exact .stay h0 (hbad (by simp [fitsM, wantM, h4])) hb)
        | false =>
          cases s with
          | false => exact (rxBad_ms_false p _ _ _ m _ _ _ _ _ _ _ _ _ _ _ _ _ j q hA hs.length hc A nn cap hq0 hq1 hrng.1 hrng.2 ht2 w hp).mono (by rintro r w' ⟨rfl, hb⟩; exact .stay h0 (hbad (by simp [fitsM])) hb)
          | true =>
            by_cases h4 : q = exNext n
            · have e4 : (q == (n + 1) % 4294967296) = true := by rw [h4]; simp [exNext]
              have hf := hgood (by simp [fitsM, wantM, h4])
              have hq2 : 0 ≤ q ∧ q ≤ 4294967295 := by omega
              have hstep : ∀ r w', (r = .returned (.int .i64 2) ∧ (∃ hv', Blk w' p 68 (rxA a b q true false (!m && !moreP H (j + 1)) false m true q (.slice hA hs.length hc) false (moreP H (j + 1)) false q hv' pv (j + 1 : Nat)) ∧ OwnR 56 7 Hd.cells w' 0 hv' (pcP H (j + 1)) ∧ Pcs w' pv V H) ∧ w.grownBy w' (some p)) → RHeard ⟨a, b, n, true, false, false, l1, l2, l3, l4, ⟨si, sm, ss, sq, shs⟩, H, kOf H.length j⟩ ⟨false, m, true, q, hs⟩ S p J w w' r := by
                rintro r w' ⟨rfl, ⟨hv', hp', ho', hP'⟩, hg⟩
                have he := hf.trans (show _ = ((⟨a, b, q, true, false, !m && !moreP H (j + 1), false, m, true, q, ⟨false, moreP H (j + 1), false, q, pcP H (j + 1)⟩, H, kOf H.length (j + 1)⟩ : ExM), (2 : Int)) by
                  simp only [markM, takeM, Bool.false_eq_true, if_false, sayM, stepM, kOf_next, kOf_more, pcP])
                unfold RHeard
                rw [he]
                exact ⟨rfl, ⟨_, hv', pv, j + 1, hp', ho', ⟨by omega, ⟨_, _, _, rfl⟩, (fun e => by cases e), fun _ => ⟨⟨V, hP'⟩, rfl, hH⟩, hq2⟩⟩, hg⟩
              cases m with
              | true => exact (rxFol_true p _ _ _ _ _ _ _ _ _ _ _ _ _ _ _ _ j q hA hs.length hc A nn cap hq0 hq1 hrng.1 hrng.2 ht2 e4 w hp hP (by omega) hH).mono (by simpa using hstep)
              | false => exact (rxFol_false p _ _ _ _ _ _ _ _ _ _ _ _ _ _ _ _ j q hA hs.length hc A nn cap hq0 hq1 hrng.1 hrng.2 ht2 e4 w hp hP (by omega) hH).mono (by simpa using hstep)
            · have e4 : (q == (n + 1) % 4294967296) = false := by simpa [exNext] using h4
              exact (rxBad_sq_false p _ _ _ m _ _ _ _ _ _ _ _ _ _ _ _ _ j q hA hs.length hc A nn cap hq0 hq1 hrng.1 hrng.2 ht2 e4 w hp).mono (by rintro r w' ⟨rfl, hb⟩; exact .stay h0 (hbad (by simp [fitsM, wantM, h4])) hb)
/-- the document's exchange hears a piece -/
theorem rxHear_any (p J : Nat) (x : ExM) (d : DdV) (hA : Option Addr) (hc : Nat) (A : Option Addr) (nn cap : Nat) (S : List Hd) (w : World) (h : RxAt w p x J) (hJ : J + 1 ≤ 2 ^ 20) (hS : S.length ≤ 60) (hl : d.hs.length ≤ 2 ^ 40)
    (HN : ∀ W, w.grownBy W (some p) → Calls Try.prog 14 #[.slice A nn cap] W fun r w' => (∃ u, r = .returned u ∧ OwnR 56 7 Hd.cells w' W.heap.size u S) ∧ Below W.heap.size W w') :
    Calls Try.prog 12 #[.pointer (some ⟨p, 0, none⟩), d.val hA hc, .slice A nn cap] w fun r w' => RHeard x d S p J w w' r := by
  cases hag : x.ag with
  | false => exact rxBegin_any p J x d hA hc A nn cap S w h hag hS hl HN
  | true => exact rxAgreed_any p J x d hA hc A nn cap S w h hag hJ hl

end Go.Proofs.Ytfpjkeddcagfcaa

/-
  Layer 14: an exchange is what is told of it.
-/
namespace Go.Proofs.Ytfpjkeddcagfcaa
open Go.RowKit Go.Sort

set_option maxHeartbeats 2000000 in
set_option maxRecDepth 100000 in
theorem same14_any (i m s : Bool) (q : Int) (A A' : Option Addr) (c c' : Nat) (l : List Hd) (w : World) (h : RowsAt 7 Hd.cells w w.heap.size A l) (h' : RowsAt 7 Hd.cells w w.heap.size A' l) (hlen : l.length ≤ 2 ^ 20) (n : Nat) (hn : n = l.length) :
    Calls Try.prog 20 #[.agg #[.bool i, .bool m, .bool s, .int .i64 q, .slice A n c], .agg #[.bool i, .bool m, .bool s, .int .i64 q, .slice A' n c']] w fun r w' => r = .returned (.bool true) ∧ Below w.heap.size w w' := by
  have HS := Lib.hid (fun W (hW : Below w.heap.size w W) => Same13s A A' c c' l W w.heap.size w.heap.size (h.below hW) (h'.below hW) hW.size hW.size hlen n n hn hn)
  have HA := Lib.hid (fun W => alike_any i m s q (.slice A n c) i m s q (.slice A' n c') (t := true) (by simp) ⟨_, _, _, rfl⟩ ⟨_, _, _, rfl⟩ W)
  obtain ⟨w1, hw1⟩ : ∃ w1, (w.alloc (.cells #[.bool i, .bool m, .bool s, .int .i64 q, .slice A n c] 33)).alloc (.cells #[.bool i, .bool m, .bool s, .int .i64 q, .slice A' n c'] 33) = w1 := ⟨_, rfl⟩
  have hd : Blk w1 w.heap.size 33 #[.bool i, .bool m, .bool s, .int .i64 q, .slice A n c] := by rw [← hw1]; exact (Blk.new _ _ _).alloc _
  have hd' : Blk w1 (w.heap.size + 1) 33 #[.bool i, .bool m, .bool s, .int .i64 q, .slice A' n c'] := by rw [← hw1]; exact Blk.size (by simp)
  have hb1 : Below w.heap.size w w1 := by rw [← hw1]; exact (below_new _ _).alloc (by simp) _
  have HD := Lib.hid hd
  have HD' := Lib.hid hd'
  have Hb1 := Lib.hid hb1
  obtain ⟨d0, d1, d2, d3, d4⟩ := blk5 hd
  obtain ⟨e0, e1, e2, e3, e4⟩ := blk5 hd'
  clear hd hd' hb1 h h' hlen hn
  go_enter Try.func20, Try.ntmps20
  go_wp2_with fail
  with_reducible refine Calls.mono (HA.out _) ?_
  rintro r w2 ⟨rfl, hb2⟩
  have Hb2 := Lib.hid (below_trans Hb1.out Hb1.out.size hb2)
  have hd2 := HD.out.below hb2 HD.out.lt
  have hd2' := HD'.out.below hb2 HD'.out.lt
  clear d0 d1 d2 d3 d4 e0 e1 e2 e3 e4 hb2
  obtain ⟨d0, d1, d2, d3, d4⟩ := blk5 hd2
  obtain ⟨e0, e1, e2, e3, e4⟩ := blk5 hd2'
  clear hd2 hd2'
  go_wp2_with fail
  with_reducible refine Calls.mono (HS.out _ Hb2.out) ?_
  rintro r w3 ⟨rfl, hb3⟩
  have Hb3 := Lib.hid (below_trans Hb2.out Hb2.out.size hb3)
  clear hb3
  go_wp2
  go_ret
  exact ⟨rfl, Hb3.out⟩
theorem pinned14 {f : FuncId} {args : Array Value} {v : Value} {w : World} (h : ∀ W, Below w.heap.size w W → Calls Try.prog f args W fun r w' => r = .returned v ∧ w' = W) : ∀ W, Below w.heap.size w W → Calls Try.prog f args W fun r w' => r = .returned v ∧ Below W.heap.size W w' := fun W hW => (h W hW).mono fun r w' ⟨e, e2⟩ => ⟨e, by rw [e2]; exact Below.refl _ _⟩
set_option maxHeartbeats 4000000 in
set_option maxRecDepth 100000 in
theorem lawSame14 (p s0 py J : Nat) (x : ExM) (w : World) (h : ExAt w p s0 x) (hr : RxAt w py x J) (hl : x.said.hs.length ≤ 2 ^ 20) :
    Calls Try.prog 10 #[.pointer (some ⟨p, 0, none⟩), .pointer (some ⟨py, 0, none⟩)] w fun r w' => r = .returned (.bool true) ∧ Below w.heap.size w w' := by
  have HT := Lib.hid (told_any p s0 x w h hl)
  have HE := Lib.hid h
  obtain ⟨hlv, hv, pv, j, hp, ho, -⟩ := hr
  obtain ⟨xv, hx, -⟩ := h.ptr
  have HX := Lib.hid hx
  have HY := Lib.hid hp
  have HO := Lib.hid ho
  have Hl := Lib.hid hl
  obtain ⟨a, b, n, ag, ld, dn, l1, l2, l3, l4, ⟨si, sm, ss, sq, shs⟩, H, k⟩ := x
  simp only [ExM.ar] at HX HY HO HT Hl
  obtain ⟨pw, hpw⟩ : ∃ z, (if ag = true then Value.pointer (some ⟨s0, 0, none⟩) else Value.pointer none) = z := ⟨_, rfl⟩
  rw [hpw] at HX
  obtain ⟨A', c', hv2⟩ := HO.out.shape
  obtain ⟨nh, hnh⟩ : ∃ z, shs.length = z := ⟨_, rfl⟩
  rw [hnh] at hv2
  subst hv2
  have Hnh := Lib.hid hnh
  clear hpw hnh h hp ho hl hx HE
  go_enter Try.func10, Try.ntmps10
  go_wp2_with fail
  with_reducible refine Calls.mono HT.out ?_
  rintro r w2 ⟨u, rfl, ho2, hb2⟩
  obtain ⟨A2, c2, hu⟩ := ho2.shape
  rw [Hnh.out] at hu
  subst hu
  have HX2 := Lib.hid (HX.out.below hb2 HX.out.lt)
  have HY2 := Lib.hid (HY.out.below hb2 HY.out.lt)
  have HO2 := Lib.hid (HO.out.below hb2)
  have HU2 := Lib.hid ho2
  have Hb2 := Lib.hid hb2
  clear hb2 ho2 HX HY HO
  go_wp2_with fail
  obtain ⟨w3, hw3⟩ : ∃ w3, w2.alloc (.cells #[.bool si, .bool sm, .bool ss, .int .i64 sq, .slice A2 nh c2] 33) = w3 := ⟨_, rfl⟩
  rw [hw3]
  obtain ⟨g3, hg3⟩ : ∃ g3, w2.heap.size = g3 := ⟨_, rfl⟩
  rw [hg3]
  have hd := Blk.new w2 33 #[.bool si, .bool sm, .bool ss, .int .i64 sq, .slice A2 nh c2]
  have hb3 := below_new w2 (.cells #[.bool si, .bool sm, .bool ss, .int .i64 sq, .slice A2 nh c2] 33)
  rw [hw3, hg3] at hd
  rw [hw3] at hb3
  have hx3 := HX2.out.below hb3 HX2.out.lt
  have hy3 := HY2.out.below hb3 HY2.out.lt
  obtain ⟨x0, x1, x2, x3, x4, x5, x6, x7, x8, x9, xa, xb, xc, xd, xe, xf⟩ := blk16 hx3
  obtain ⟨y0, y1, y2, y3, y4, y5, y6, y7, y8, y9, ya, yb, yc, yd, ye, yf, yg, yh⟩ := blk18 hy3
  obtain ⟨d0, d1, d2, d3, d4⟩ := blk5 hd
  have CS := Lib.hid (fun dd os => Calls.regrown_of (w := w3) (d := dd) (os := os) (same14_any si sm ss sq A2 A' c2 c' shs _ ((OwnR.rows (C := 7) (cells := Hd.cells) (fun _ => rfl) ((HU2.out.below hb3).below (below_regrown w3 dd os))).2) ((OwnR.rows (C := 7) (cells := Hd.cells) (fun _ => rfl) ((HO2.out.below hb3).below (below_regrown w3 dd os))).2) Hl.out nh Hnh.out.symm))
  have CA := Lib.hid (fun dd os => Calls.regrown_of (w := w3) (d := dd) (os := os) (pinned14 (w := w3) (v := .bool ag) (fun W hW => agreed_any p ag W (((hx3.below hW hx3.lt).cell 3).trans rfl)) _ (below_regrown w3 dd os)))
  have CL := Lib.hid (fun dd os => Calls.regrown_of (w := w3) (d := dd) (os := os) (pinned14 (w := w3) (v := .bool ld) (fun W hW => leads_any p ld W (((hx3.below hW hx3.lt).cell 4).trans rfl)) _ (below_regrown w3 dd os)))
  have CD := Lib.hid (fun dd os => Calls.regrown_of (w := w3) (d := dd) (os := os) (pinned14 (w := w3) (v := .bool dn) (fun W hW => done_any p dn W (((hx3.below hW hx3.lt).cell 5).trans rfl)) _ (below_regrown w3 dd os)))
  have CQ := Lib.hid (fun dd os => Calls.regrown_of (w := w3) (d := dd) (os := os) (pinned14 (w := w3) (v := .int .i64 n) (fun W hW => seq_any p n W (((hx3.below hW hx3.lt).cell 2).trans rfl)) _ (below_regrown w3 dd os)))
  have d0 := cell_regrown d0
  have d1 := cell_regrown d1
  have d2 := cell_regrown d2
  have d3 := cell_regrown d3
  have d4 := cell_regrown d4
  have y2 := cell_regrown y2
  have y3 := cell_regrown y3
  have y4 := cell_regrown y4
  have y5 := cell_regrown y5
  have yb := cell_regrown yb
  have yc := cell_regrown yc
  have yd := cell_regrown yd
  have ye := cell_regrown ye
  have yf := cell_regrown yf
  have Hb3 := Lib.hid (below_trans Hb2.out Hb2.out.size hb3)
  clear hd hb3 hx3 hy3 x0 x1 x2 x3 x4 x5 x6 x7 x8 x9 xa xb xc xd xe xf y0 y1 y6 y7 y8 y9 ya yg yh hw3 hg3
  refine wp_region_quiet_below (by kernel_rfl) (by kernel_rfl) ?_
  repeat (go_big_quiet_step (first | exact CS.out _ _ | exact CA.out _ _ | exact CL.out _ _ | exact CD.out _ _ | exact CQ.out _ _))
  refine wpQuiet_nil ?_
  rintro w5 ⟨⟨dq, osq⟩, rfl⟩
  have Hb5 := Lib.hid (below_trans Hb3.out Hb3.out.size (below_regrown w3 dq osq))
  go_wp2
  go_ret
  exact ⟨by simp, Hb5.out⟩

end Go.Proofs.Ytfpjkeddcagfcaa
