/-
  Layer 14: an exchange that isn't agreed on hears a piece.
-/
import Derived.Test.YtfpjkeddcagfcaaBad
namespace Go.Proofs.Ytfpjkeddcagfcaa
open Go.RowKit Go.Sort

def DdV.val (d : DdV) (A : Option Addr) (c : Nat) : Value := .agg #[.bool d.i, .bool d.m, .bool d.s, .int .i64 d.q, .slice A d.hs.length c]
/-- what a beginning leaves -/
def Began (X : Nat → Prop) (x : ExM) (d : DdV) (S : List Hd) (p : Nat) (w w' : World) (r : Ending) : Prop :=
  match beginM x d S with
  | none => r = .returned (.int .i64 0) ∧ Below w.heap.size w w'
  | some y => r = .returned (.int .i64 2) ∧ (∃ s, w.heap.size ≤ s ∧ ExAt X w' p s y) ∧ w.grownBy w' (some p)
theorem exNext_rng (n : Int) : 0 ≤ exNext n ∧ exNext n ≤ 4294967295 := by unfold exNext; omega
theorem key_one {i m s t : Bool} {nh : Nat} {a b : Int} (h : decide (i = true ∧ m = true ∧ s = true ∧ nh = 0 ∧ a < b) = t) : (t = true ∧ i = true ∧ m = true ∧ s = true ∧ nh = 0 ∧ a < b) ∨ (t = false ∧ i = true ∧ m = true ∧ s = true ∧ nh = 0 ∧ ¬ a < b) ∨ (t = false ∧ i = true ∧ m = true ∧ s = true ∧ ¬ nh = 0) ∨ (t = false ∧ i = true ∧ m = true ∧ s = false) ∨ (t = false ∧ i = true ∧ m = false) ∨ (t = false ∧ i = false) := by
  subst h
  cases i <;> cases m <;> cases s <;> by_cases h2 : nh = 0 <;> by_cases h3 : a < b <;> simp [h2, h3]
theorem key_two {i s t : Bool} {q n a b : Int} (h : decide (i = false ∧ s = false ∧ q = n ∧ b < a) = t) : (t = true ∧ i = false ∧ s = false ∧ q = n ∧ b < a) ∨ (t = false ∧ i = false ∧ s = false ∧ q = n ∧ ¬ b < a) ∨ (t = false ∧ i = false ∧ s = false ∧ ¬ q = n) ∨ (t = false ∧ i = false ∧ s = true) ∨ (t = false ∧ i = true) := by
  subst h
  cases i <;> cases s <;> by_cases h2 : q = n <;> by_cases h3 : b < a <;> simp [h2, h3]
set_option maxHeartbeats 16000000 in
set_option maxRecDepth 100000 in
theorem begin_any {X : Nat → Prop} (p s0 : Nat) (x : ExM) (d : DdV) (hA : Option Addr) (hc : Nat) (A : Option Addr) (nn cap : Nat) (S : List Hd) (w : World) (h : ExAt X w p s0 x) (hX : ∀ g, X g → g < w.heap.size) (hag : x.ag = false) (hq : 0 ≤ d.q ∧ d.q ≤ 4294967295) (hS : S.length ≤ 60) (hl : d.hs.length ≤ 2 ^ 40)
    (HN : ∀ W, w.grownBy W (some p) → Calls Try.prog 34 #[.slice A nn cap] W fun r w' => r = .returned (.pointer (some ⟨W.heap.size, 0, none⟩)) ∧ (∃ v, SmAt w' W.heap.size v 0 S) ∧ Below W.heap.size W w') :
    Calls Try.prog 24 #[.pointer (some ⟨p, 0, none⟩), d.val hA hc, .slice A nn cap] w fun r w' => Began X x d S p w w' r := by
  obtain ⟨a, b, n, ag, ld, dn, l1, l2, l3, l4, ⟨si, sm, ss, sq, shs⟩, H, k⟩ := x
  obtain ⟨i, m, s, q, hs⟩ := d
  simp only at hag hq hl
  subst hag
  obtain ⟨hv, hp, ho, hoff⟩ := h.ptrX
  have HOff := Lib.hid hoff
  have HXs := Lib.hid hX
  have hrng := h.rng
  simp only [ExM.ar, Bool.false_eq_true, if_false] at hp ho hrng
  have hand := and32 (n + 1)
  obtain ⟨nh, hnh⟩ : ∃ z, hs.length = z := ⟨_, rfl⟩
  obtain ⟨t1, ht1⟩ : ∃ t, decide (i = true ∧ m = true ∧ s = true ∧ nh = 0 ∧ a < b) = t := ⟨_, rfl⟩
  obtain ⟨t2, ht2⟩ : ∃ t, decide (i = false ∧ s = false ∧ q = n ∧ b < a) = t := ⟨_, rfl⟩
  have HBg : Hid (beginM ⟨a, b, n, false, ld, dn, l1, l2, l3, l4, ⟨si, sm, ss, sq, shs⟩, H, k⟩ ⟨i, m, s, q, hs⟩ S = if t1 = true then some (sayM ⟨a, b, q, true, ld, dn, l1, l2, l3, l4, ⟨si, sm, ss, sq, shs⟩, S, 0⟩) else if t2 = true then some (sayM ⟨a, b, exNext n, true, true, dn, l1, l2, l3, l4, ⟨si, sm, ss, sq, shs⟩, S, 0⟩) else none) := Lib.hid (by
    unfold beginM
    simp only [← ht1, ← ht2, ← hnh, decide_eq_true_eq])
  simp only [DdV.val, hnh]
  obtain ⟨w1, hw1⟩ : ∃ w1, w.alloc (.cells #[.bool i, .bool m, .bool s, .int .i64 q, .slice hA nh hc] 33) = w1 := ⟨_, rfl⟩
  obtain ⟨g1, hg1⟩ : ∃ g1, w.heap.size = g1 := ⟨_, rfl⟩
  have hd := Blk.new w 33 #[.bool i, .bool m, .bool s, .int .i64 q, .slice hA nh hc]
  have hb1 := below_new w (.cells #[.bool i, .bool m, .bool s, .int .i64 q, .slice hA nh hc] 33)
  rw [hw1, hg1] at hd
  rw [hw1] at hb1
  have HP1 := Lib.hid (hp.below hb1 hp.lt)
  have HO1 := Lib.hid (ho.below hb1)
  have Hb1 := Lib.hid hb1
  have Hpg := Lib.hid (show p ≠ g1 from by have := hp.lt; omega)
  have HD := Lib.hid hd
  have Hq := Lib.hid hq
  have Hr := Lib.hid hrng
  have hn2 : 0 ≤ n := hrng.1
  have hn3 : n ≤ 4294967295 := hrng.2
  have Ht1 := Lib.hid ht1
  have Ht2 := Lib.hid ht2
  have HN' := Lib.hid HN
  have HS := Lib.hid hS
  obtain ⟨x0, x1, x2, x3, x4, x5, x6, x7, x8, x9, xa, xb, xc, xd, xe, xf⟩ := blk16 HP1.out
  obtain ⟨d0, d1, d2, d3, d4⟩ := blk5 hd
  have hnhi : (nh : Int) ≤ 1099511627776 := by omega
  clear h hp ho hrng hq hb1 hd HN hS hl ht1 ht2 hnh hX hoff
  go_enter Try.func24, Try.ntmps24
  go_upto_region 2 with fail
  go_cut [7] from 8 (fun v wx => v = .bool t1 ∧ Below w1.heap.size w1 wx)
  case first =>
    have key := key_one Ht1.out
    clear Ht1
    rcases key with ⟨rfl, rfl, rfl, rfl, h4, h5⟩ | ⟨rfl, rfl, rfl, rfl, h4, h5⟩ | ⟨rfl, rfl, rfl, rfl, h4⟩ | ⟨rfl, rfl, rfl, rfl⟩ | ⟨rfl, rfl, rfl⟩ | ⟨rfl, rfl⟩
    case' inl => (have e4 : ((nh : Int) == 0) = true := by simp [h4]); clear h4
    case' inr.inl => (have e4 : ((nh : Int) == 0) = true := by simp [h4]); clear h4
    case' inr.inr.inl => (have e4 : ((nh : Int) == 0) = false := by simp [h4]); clear h4
    all_goals
      go_wp2
      go_quiet (fail)
      go_wp2_with fail
      go_meet
      exact ⟨by first | rfl | simp [*], below_drewN (Below.refl _ _) _⟩
  case rest =>
    obtain ⟨rfl, hbc⟩ := hcut
    clear x0 x1 x2 x3 x4 x5 x6 x7 x8 x9 xa xb xc xd xe xf d0 d1 d2 d3 d4
    have HPc := Lib.hid (HP1.out.below hbc HP1.out.lt)
    have HDc := Lib.hid (HD.out.below hbc HD.out.lt)
    have HOc := Lib.hid (HO1.out.below hbc)
    have Hbc := Lib.hid (below_trans Hb1.out Hb1.out.size hbc)
    obtain ⟨x0, x1, x2, x3, x4, x5, x6, x7, x8, x9, xa, xb, xc, xd, xe, xf⟩ := blk16 HPc.out
    obtain ⟨d0, d1, d2, d3, d4⟩ := blk5 HDc.out
    have hfz := fun j => HPc.out.frozen j
    clear hbc
    cases t1 with
    | true =>
      go_wp2_with fail
      have hp3 : Blk (wc.setCell ⟨p, 2, none⟩ (.int .i64 q)) p 65 (exA a b q false ld dn l1 l2 l3 l4 si sm ss sq hv (.pointer none)) := by simpa [exA] using HPc.out.set_ 2 (.int .i64 q)
      have HP3 := Lib.hid hp3
      have Hg3 := Lib.hid (gr_set (gr_below (row := some p) Hbc.out) 2 (.int .i64 q))
      clear x0 x1 x2 x3 x4 x5 x6 x7 x8 x9 xa xb xc xd xe xf d0 d1 d2 d3 d4 hp3 hfz
      obtain ⟨w3, hw3⟩ : ∃ W, wc.setCell ⟨p, 2, none⟩ (.int .i64 q) = W := ⟨_, rfl⟩
      rw [hw3] at HP3 Hg3 ⊢
      with_reducible refine Calls.mono (HN'.out _ Hg3.out) ?_
      rintro r w4 ⟨rfl, ⟨v4, hs4⟩, hb4⟩
      obtain ⟨s4, hs4e⟩ : ∃ s4, w3.heap.size = s4 := ⟨_, rfl⟩
      rw [hs4e] at hs4 ⊢
      have hp4 := HP3.out.below hb4 HP3.out.lt
      have HP4 := Lib.hid hp4
      have Hps := Lib.hid (show p < s4 from by have := HP3.out.lt; omega)
      have Hs4 := Lib.hid hs4
      have Hws := Lib.hid (show w.heap.size ≤ s4 by rw [← hs4e]; exact Hg3.out.size)
      have HVo := Lib.hid (show ∀ g, v4.ownBlock = some g → ¬ X g from fun g e hg => by have := (hs4.own.block g e).1; have := HXs.out g hg; have := Hws.out; omega)
      have HX4 := Lib.hid (show ∀ g, X g → g < ((w4.setCell ⟨p, 3, none⟩ (.bool true)).setCell ⟨p, 15, none⟩ (.pointer (some ⟨s4, 0, none⟩))).heap.size from fun g hg => by have := HXs.out g hg; have := Hws.out; have := hs4.ptr.lt; simp; omega)
      have Hb4 := Lib.hid (gr_trans Hg3.out (gr_below hb4))
      obtain ⟨x0, x1, x2, x3, x4, x5, x6, x7, x8, x9, xa, xb, xc, xd, xe, xf⟩ := blk16 hp4
      have hfz := fun j => hp4.frozen j
      have ho4 : OwnR 56 7 Hd.cells w4 0 hv shs := (HOc.out.kept (row := some p) (by rw [← hw3]; exact grown_set wc p 2 _) (.inr (own_ne14 HOc.out HPc.out (by decide)))).below hb4
      have HO4 := Lib.hid ho4
      clear hp4 hs4 hb4 hs4e hw3 ho4
      go_wp2_with fail
      have hp5 : Blk ((w4.setCell ⟨p, 3, none⟩ (.bool true)).setCell ⟨p, 15, none⟩ (.pointer (some ⟨s4, 0, none⟩))) p 65 (exA a b q true ld dn l1 l2 l3 l4 si sm ss sq hv (.pointer (some ⟨s4, 0, none⟩))) := by simpa [exA] using (HP4.out.set_ 3 (.bool true)).set_ 15 (.pointer (some ⟨s4, 0, none⟩))
      have hne := own_ne14 HO4.out HP4.out (by decide)
      have HE5 : Hid (ExAt X ((w4.setCell ⟨p, 3, none⟩ (.bool true)).setCell ⟨p, 15, none⟩ (.pointer (some ⟨s4, 0, none⟩))) p s4 ⟨a, b, q, true, ld, dn, l1, l2, l3, l4, ⟨si, sm, ss, sq, shs⟩, S, 0⟩) := Lib.hid (.of ⟨hv, hp5, (HO4.out.kept (grown_set _ p 3 _) (.inr hne)).kept (grown_set _ p 15 _) (.inr hne), HOff.out⟩ (fun _ => ⟨v4, (Hs4.out.set_far Hps.out 3 (.bool true)).set_far Hps.out 15 (.pointer (some ⟨s4, 0, none⟩)), HVo.out⟩) (fun _ => ⟨Nat.zero_le _, HS.out⟩) Hq.out)
      have HSay := Lib.hid (say_any p s4 _ _ HE5.out rfl HX4.out)
      have Hb5 := Lib.hid (gr_set (gr_set Hb4.out 3 (.bool true)) 15 (.pointer (some ⟨s4, 0, none⟩)))
      clear hp5 hfz x0 x1 x2 x3 x4 x5 x6 x7 x8 x9 xa xb xc xd xe xf hne
      with_reducible refine Calls.mono HSay.out ?_
      rintro r w6 ⟨rfl, he6, hb6⟩
      have HE6 := Lib.hid he6
      have Hb6 := Lib.hid (gr_trans Hb5.out hb6)
      clear he6 hb6
      go_wp2
      go_ret
      unfold Began
      rw [HBg.out]
      exact ⟨rfl, ⟨s4, Hws.out, HE6.out⟩, Hb6.out⟩
    | false =>
      go_upto_region 4 with fail
      go_cut [40] from 41 (fun v wx => v = .bool t2 ∧ Below wc.heap.size wc wx)
      case first =>
        have key := key_two Ht2.out
        clear Ht2
        rcases key with ⟨rfl, rfl, rfl, h4, h5⟩ | ⟨rfl, rfl, rfl, h4, h5⟩ | ⟨rfl, rfl, rfl, h4⟩ | ⟨rfl, rfl, rfl⟩ | ⟨rfl, rfl⟩
        case' inl => (have e4 : (q == n) = true := by simp [h4]); clear h4
        case' inr.inl => (have e4 : (q == n) = true := by simp [h4]); clear h4
        case' inr.inr.inl => (have e4 : (q == n) = false := by simp [h4]); clear h4
        all_goals
          go_wp2
          go_quiet (fail)
          go_wp2_with fail
          go_meet
          exact ⟨by first | rfl | simp [*], below_drewN (Below.refl _ _) _⟩
      case rest =>
        obtain ⟨rfl, hbd⟩ := hcut
        clear x0 x1 x2 x3 x4 x5 x6 x7 x8 x9 xa xb xc xd xe xf d0 d1 d2 d3 d4 hfz
        have HPd := Lib.hid (HPc.out.below hbd HPc.out.lt)
        have HOd := Lib.hid (HOc.out.below hbd)
        have Hbd := Lib.hid (below_trans Hbc.out Hbc.out.size hbd)
        obtain ⟨x0, x1, x2, x3, x4, x5, x6, x7, x8, x9, xa, xb, xc, xd, xe, xf⟩ := blk16 HPd.out
        have hfz := fun j => HPd.out.frozen j
        clear hbd
        cases t2 with
        | false =>
          go_wp2
          go_ret
          unfold Began
          rw [HBg.out]
          exact ⟨rfl, Hbd.out⟩
        | true =>
          go_wp2_with fail
          have hp3 : Blk ((wc.setCell ⟨p, 2, none⟩ (.int .i64 ((n + 1) % 4294967296))).setCell ⟨p, 4, none⟩ (.bool true)) p 65 (exA a b ((n + 1) % 4294967296) false true dn l1 l2 l3 l4 si sm ss sq hv (.pointer none)) := by simpa [exA] using (HPd.out.set_ 2 (.int .i64 ((n + 1) % 4294967296))).set_ 4 (.bool true)
          have HP3 := Lib.hid hp3
          have Hg3 := Lib.hid (gr_set (gr_set (gr_below (row := some p) Hbd.out) 2 (.int .i64 ((n + 1) % 4294967296))) 4 (.bool true))
          clear x0 x1 x2 x3 x4 x5 x6 x7 x8 x9 xa xb xc xd xe xf hp3 hfz
          obtain ⟨w3, hw3⟩ : ∃ W, (wc.setCell ⟨p, 2, none⟩ (.int .i64 ((n + 1) % 4294967296))).setCell ⟨p, 4, none⟩ (.bool true) = W := ⟨_, rfl⟩
          rw [hw3] at HP3 Hg3 ⊢
          with_reducible refine Calls.mono (HN'.out _ Hg3.out) ?_
          rintro r w4 ⟨rfl, ⟨v4, hs4⟩, hb4⟩
          obtain ⟨s4, hs4e⟩ : ∃ s4, w3.heap.size = s4 := ⟨_, rfl⟩
          rw [hs4e] at hs4 ⊢
          have hp4 := HP3.out.below hb4 HP3.out.lt
          have HP4 := Lib.hid hp4
          have Hps := Lib.hid (show p < s4 from by have := HP3.out.lt; omega)
          have Hs4 := Lib.hid hs4
          have Hws := Lib.hid (show w.heap.size ≤ s4 by rw [← hs4e]; exact Hg3.out.size)
          have HVo := Lib.hid (show ∀ g, v4.ownBlock = some g → ¬ X g from fun g e hg => by have := (hs4.own.block g e).1; have := HXs.out g hg; have := Hws.out; omega)
          have HX4 := Lib.hid (show ∀ g, X g → g < ((w4.setCell ⟨p, 3, none⟩ (.bool true)).setCell ⟨p, 15, none⟩ (.pointer (some ⟨s4, 0, none⟩))).heap.size from fun g hg => by have := HXs.out g hg; have := Hws.out; have := hs4.ptr.lt; simp; omega)
          have Hb4 := Lib.hid (gr_trans Hg3.out (gr_below hb4))
          obtain ⟨x0, x1, x2, x3, x4, x5, x6, x7, x8, x9, xa, xb, xc, xd, xe, xf⟩ := blk16 hp4
          have hfz := fun j => hp4.frozen j
          have ho4 : OwnR 56 7 Hd.cells w4 0 hv shs := ((HOd.out.kept (row := some p) (grown_set wc p 2 (.int .i64 ((n + 1) % 4294967296))) (.inr (own_ne14 HOd.out HPd.out (by decide)))).kept (row := some p) (by rw [← hw3]; exact grown_set _ p 4 _) (.inr (own_ne14 HOd.out HPd.out (by decide)))).below hb4
          have HO4 := Lib.hid ho4
          clear hp4 hs4 hb4 hs4e hw3 ho4
          go_wp2_with fail
          have hp5 : Blk ((w4.setCell ⟨p, 3, none⟩ (.bool true)).setCell ⟨p, 15, none⟩ (.pointer (some ⟨s4, 0, none⟩))) p 65 (exA a b ((n + 1) % 4294967296) true true dn l1 l2 l3 l4 si sm ss sq hv (.pointer (some ⟨s4, 0, none⟩))) := by simpa [exA] using (HP4.out.set_ 3 (.bool true)).set_ 15 (.pointer (some ⟨s4, 0, none⟩))
          have hne := own_ne14 HO4.out HP4.out (by decide)
          have HE5 : Hid (ExAt X ((w4.setCell ⟨p, 3, none⟩ (.bool true)).setCell ⟨p, 15, none⟩ (.pointer (some ⟨s4, 0, none⟩))) p s4 ⟨a, b, exNext n, true, true, dn, l1, l2, l3, l4, ⟨si, sm, ss, sq, shs⟩, S, 0⟩) := Lib.hid (.of ⟨hv, hp5, (HO4.out.kept (grown_set _ p 3 _) (.inr hne)).kept (grown_set _ p 15 _) (.inr hne), HOff.out⟩ (fun _ => ⟨v4, (Hs4.out.set_far Hps.out 3 (.bool true)).set_far Hps.out 15 (.pointer (some ⟨s4, 0, none⟩)), HVo.out⟩) (fun _ => ⟨Nat.zero_le _, HS.out⟩) (exNext_rng n))
          have HSay := Lib.hid (say_any p s4 _ _ HE5.out rfl HX4.out)
          have Hb5 := Lib.hid (gr_set (gr_set Hb4.out 3 (.bool true)) 15 (.pointer (some ⟨s4, 0, none⟩)))
          clear hp5 hfz x0 x1 x2 x3 x4 x5 x6 x7 x8 x9 xa xb xc xd xe xf hne
          with_reducible refine Calls.mono HSay.out ?_
          rintro r w6 ⟨rfl, he6, hb6⟩
          have HE6 := Lib.hid he6
          have Hb6 := Lib.hid (gr_trans Hb5.out hb6)
          clear he6 hb6
          go_wp2
          go_ret
          unfold Began
          rw [HBg.out]
          exact ⟨rfl, ⟨s4, Hws.out, HE6.out⟩, Hb6.out⟩

end Go.Proofs.Ytfpjkeddcagfcaa

/-
  Layer 14: whether a piece is the next one.
-/
namespace Go.Proofs.Ytfpjkeddcagfcaa
open Go.RowKit Go.Sort

theorem key_fits {dn i s ld t : Bool} {q n : Int} (h : (!dn && (!i && ((s != ld) && decide (q = if ld then n else exNext n)))) = t) : (dn = true ∧ t = false) ∨ (dn = false ∧ i = true ∧ t = false) ∨ (dn = false ∧ i = false ∧ ld = true ∧ s = true ∧ t = false) ∨ (dn = false ∧ i = false ∧ ld = false ∧ s = false ∧ t = false) ∨
    (dn = false ∧ i = false ∧ ld = true ∧ s = false ∧ (q == n) = true ∧ t = true) ∨ (dn = false ∧ i = false ∧ ld = true ∧ s = false ∧ (q == n) = false ∧ t = false) ∨ (dn = false ∧ i = false ∧ ld = false ∧ s = true ∧ (q == (n + 1) % 4294967296) = true ∧ t = true) ∨ (dn = false ∧ i = false ∧ ld = false ∧ s = true ∧ (q == (n + 1) % 4294967296) = false ∧ t = false) := by
  subst h
  unfold exNext
  cases dn <;> cases i <;> cases ld <;> cases s <;> simp <;> omega
set_option maxHeartbeats 16000000 in
set_option maxRecDepth 100000 in
theorem fits_any {X : Nat → Prop} (p s0 : Nat) (x : ExM) (d : DdV) (hA : Option Addr) (hc : Nat) (w : World) (h : ExAt X w p s0 x) :
    Calls Try.prog 25 #[.pointer (some ⟨p, 0, none⟩), d.val hA hc] w fun r w' => r = .returned (.bool (fitsM x d)) ∧ Below w.heap.size w w' := by
  obtain ⟨a, b, n, ag, ld, dn, l1, l2, l3, l4, ⟨si, sm, ss, sq, shs⟩, H, k⟩ := x
  obtain ⟨i, m, s, q, hs⟩ := d
  obtain ⟨hv, hp, ho⟩ := h.ptr
  have hrng := h.rng
  simp only [ExM.ar] at hp hrng
  have hand := and32 (n + 1)
  obtain ⟨pv, hpv⟩ : ∃ z, (if ag = true then Value.pointer (some ⟨s0, 0, none⟩) else Value.pointer none) = z := ⟨_, rfl⟩
  rw [hpv] at hp
  simp only [DdV.val, fitsM, wantM]
  obtain ⟨t, ht⟩ : ∃ t, (!dn && (!i && ((s != ld) && decide (q = if ld then n else exNext n)))) = t := ⟨_, rfl⟩
  rw [ht]
  have key := key_fits ht
  obtain ⟨nh, hnh⟩ : ∃ z, hs.length = z := ⟨_, rfl⟩
  rw [hnh]
  obtain ⟨w1, hw1⟩ : ∃ w1, w.alloc (.cells #[.bool i, .bool m, .bool s, .int .i64 q, .slice hA nh hc] 33) = w1 := ⟨_, rfl⟩
  obtain ⟨g1, hg1⟩ : ∃ g1, w.heap.size = g1 := ⟨_, rfl⟩
  have hd := Blk.new w 33 #[.bool i, .bool m, .bool s, .int .i64 q, .slice hA nh hc]
  have hb1 := below_new w (.cells #[.bool i, .bool m, .bool s, .int .i64 q, .slice hA nh hc] 33)
  rw [hw1, hg1] at hd
  rw [hw1] at hb1
  have hp1 := hp.below hb1 hp.lt
  have Hb1 := Lib.hid hb1
  have hn2 : 0 ≤ n := hrng.1
  have hn3 : n ≤ 4294967295 := hrng.2
  obtain ⟨x0, x1, x2, x3, x4, x5, x6, x7, x8, x9, xa, xb, xc, xd, xe, xf⟩ := blk16 hp1
  obtain ⟨d0, d1, d2, d3, d4⟩ := blk5 hd
  clear h hp ho hrng hb1 hp1 hd ht hpv hnh
  rcases key with ⟨rfl, rfl⟩ | ⟨rfl, rfl, rfl⟩ | ⟨rfl, rfl, rfl, rfl, rfl⟩ | ⟨rfl, rfl, rfl, rfl, rfl⟩ | ⟨rfl, rfl, rfl, rfl, e4, rfl⟩ | ⟨rfl, rfl, rfl, rfl, e4, rfl⟩ | ⟨rfl, rfl, rfl, rfl, e4, rfl⟩ | ⟨rfl, rfl, rfl, rfl, e4, rfl⟩
  case' inl => cases ld
  case' inr.inl => cases ld
  all_goals
    go_enter Try.func25, Try.ntmps25
    go_wp2
    go_quiet (fail)
    go_wp2
    go_ret
    exact ⟨rfl, below_drewN Hb1.out _⟩

end Go.Proofs.Ytfpjkeddcagfcaa

/-
  Layer 14: an exchange takes the next piece.
-/
namespace Go.Proofs.Ytfpjkeddcagfcaa
open Go.RowKit Go.Sort

section
variable {X : Nat → Prop} {w w' : World} {p s : Nat} {x y : ExM}
theorem ExAt.apart (h : ExAt X w p s x) (hag : x.ag = true) : p ≠ s := fun e => by
  obtain ⟨hv, h1, -⟩ := h.ptr
  obtain ⟨v, h3⟩ := h.sum hag
  have := blk_type (e ▸ h1) h3.ptr
  revert this
  decide
theorem ExAt.put (h : ExAt X w p s x) (i : Nat) (u : Value) (y : ExM) (hy : ∀ hv pv, (x.ar hv pv).setIfInBounds i u = y.ar hv pv) (hag : y.ag = x.ag) (hk : y.k = x.k) (hH : y.H = x.H) (hs : y.said.hs = x.said.hs) (hr : 0 ≤ y.n ∧ y.n ≤ 4294967295) : ExAt X (w.setCell ⟨p, i, none⟩ u) p s y := by
  obtain ⟨hv, h1, h2, hx⟩ := h.ptrX
  refine .of ⟨hv, ?_, ?_, hx⟩ (fun e => ?_) (fun e => by rw [hk, hH]; exact h.le (hag ▸ e)) hr
  · have := h1.set_ i u
    rw [hy] at this
    rw [hag]
    exact this
  · rw [hs]
    exact h2.kept (grown_set w p i u) (.inr (own_ne14 h2 h1 (by decide)))
  · obtain ⟨v, h3, h4⟩ := h.sumX (hag ▸ e)
    refine ⟨v, ?_, h4⟩
    rw [hk, hH]
    exact ⟨h3.ptr.grown (grown_set w p i u) (fun e2 => h.apart (hag ▸ e) (by injection e2 with e2; exact e2.symm)), h3.own.kept (grown_set w p i u) (.inr (own_ne14 h3.own h1 (by decide)))⟩
theorem ExAt.stepped {v : Value} (h : ExAt X w p s x) (hag : x.ag = true) (hg : w.grownBy w' (some s)) (hs : SmAt w' s v (nextAt x.k x.H.length : Nat) x.H) (hs0 : ∃ v, SmAt w s v x.k x.H) (hvx : ∀ g, v.ownBlock = some g → ¬ X g) : ExAt X w' p s (stepM x) := by
  obtain ⟨hv, h1, h2, hx⟩ := h.ptrX
  obtain ⟨v0, h0⟩ := hs0
  have hne := h.apart hag
  refine .of ⟨hv, h1.grown hg (fun e => hne (by injection e)), h2.kept hg (.inr (own_ne14 h2 h0.ptr (by decide))), hx⟩ (fun _ => ⟨v, hs, hvx⟩) (fun _ => ?_) h.rng
  exact ⟨(next_ge (h.le hag).1).2, (h.le hag).2⟩
end
theorem key_take {m sm t : Bool} (h : (!m && !sm) = t) : (m = false ∧ sm = false ∧ t = true) ∨ (m = true ∧ t = false) ∨ (m = false ∧ sm = true ∧ t = false) := by
  subst h
  cases m <;> cases sm <;> simp
/-- step, then say -/
theorem mvs_step {w w1 w2 : World} {p s : Nat} (h1 : w.grownBy w1 (some s)) (h2 : w1.grownBy w2 (some p)) : Mvs (fun g => g = p ∨ g = s) w w2 := .step (.one h1 (.inr rfl)) h2 (.inl rfl)
set_option maxHeartbeats 16000000 in
set_option maxRecDepth 100000 in
theorem take_any {X : Nat → Prop} (p s0 : Nat) (x : ExM) (d : DdV) (hA : Option Addr) (hc : Nat) (w : World) (h : ExAt X w p s0 x) (hX : ∀ g, X g → g < w.heap.size) (hag : x.ag = true) (hq : 0 ≤ d.q ∧ d.q ≤ 4294967295) :
    Calls Try.prog 26 #[.pointer (some ⟨p, 0, none⟩), d.val hA hc] w fun r w' => r = .returned (.tuple #[]) ∧ ExAt X w' p s0 (takeM x d) ∧ Mvs (fun g => g = p ∨ g = s0) w w' := by
  obtain ⟨i, m, s, q, hs⟩ := d
  obtain ⟨a, b, n, ag, ld, dn, l1, l2, l3, l4, ⟨si, sm, ss, sq, shs⟩, H, k⟩ := x
  simp only at hq hag
  subst hag
  have hand := and32 (q + 1)
  simp only [DdV.val]
  obtain ⟨nh, hnh⟩ : ∃ z, hs.length = z := ⟨_, rfl⟩
  rw [hnh]
  obtain ⟨w1, hw1⟩ : ∃ w1, w.alloc (.cells #[.bool i, .bool m, .bool s, .int .i64 q, .slice hA nh hc] 33) = w1 := ⟨_, rfl⟩
  obtain ⟨g1, hg1⟩ : ∃ g1, w.heap.size = g1 := ⟨_, rfl⟩
  have hd := Blk.new w 33 #[.bool i, .bool m, .bool s, .int .i64 q, .slice hA nh hc]
  have hb1 := below_new w (.cells #[.bool i, .bool m, .bool s, .int .i64 q, .slice hA nh hc] 33)
  rw [hw1, hg1] at hd
  rw [hw1] at hb1
  have h1 := h.below hb1
  have Hm1 := Lib.hid (show Mvs (fun g => g = p ∨ g = s0) w w1 from .one (gr_below (row := some p) hb1) (.inl rfl))
  have h2 := h1.put 2 (.int .i64 q) ⟨a, b, q, true, ld, dn, l1, l2, l3, l4, ⟨si, sm, ss, sq, shs⟩, H, k⟩ (fun _ _ => by simp [ExM.ar, exA]) rfl rfl rfl rfl hq
  obtain ⟨hv0, hp0, -⟩ := h1.ptr
  have hpg : p ≠ g1 := fun e => by have := h.ptr; obtain ⟨hv, h9, -⟩ := this; have := h9.lt; omega
  have hsg : s0 ≠ g1 := fun e => by obtain ⟨v, h9⟩ := h.sum rfl; have := h9.ptr.lt; omega
  have Hpg := Lib.hid (And.intro hpg hsg)
  have hd2 : Blk (w1.setCell ⟨p, 2, none⟩ (.int .i64 q)) g1 33 #[.bool i, .bool m, .bool s, .int .i64 q, .slice hA nh hc] := hd.grown (grown_set w1 p 2 _) (fun e => hpg (by injection e with e; exact e.symm))
  have Hd2 := Lib.hid hd2
  have H2 := Lib.hid h2
  have hq2 := hq.1
  have hq3 := hq.2
  have hm2 := Hm1.out.step (grown_set w1 p 2 (.int .i64 q)) (.inl rfl)
  have Hm2 := Lib.hid hm2
  simp only [ExM.ar, if_true] at hp0
  obtain ⟨x0, x1, x2, x3, x4, x5, x6, x7, x8, x9, xa, xb, xc, xd, xe, xf⟩ := blk16 hp0
  have hfz := fun j => hp0.frozen j
  obtain ⟨d0, d1, d2, d3, d4⟩ := blk5 hd
  obtain ⟨t, ht⟩ : ∃ t, (!m && !sm) = t := ⟨_, rfl⟩
  have key := key_take ht
  have Hq := Lib.hid hq
  have HXs := Lib.hid hX
  clear h h1 h2 hp0 hpg hsg hd hd2 hm2 hb1 hnh hq ht hX
  go_enter Try.func26, Try.ntmps26
  go_upto_region 2 with fail
  obtain ⟨w2, hw2⟩ : ∃ W, w1.setCell ⟨p, 2, none⟩ (.int .i64 q) = W := ⟨_, rfl⟩
  rw [hw2] at H2 Hd2 Hm2 ⊢
  clear x0 x1 x2 x3 x4 x5 x6 x7 x8 x9 xa xb xc xd xe xf d0 d1 d2 d3 d4 hfz hw2
  obtain ⟨hv2, hp2, -⟩ := H2.out.ptr
  simp only [ExM.ar, if_true] at hp2
  obtain ⟨x0, x1, x2, x3, x4, x5, x6, x7, x8, x9, xa, xb, xc, xd, xe, xf⟩ := blk16 hp2
  have hfz := fun j => hp2.frozen j
  obtain ⟨d0, d1, d2, d3, d4⟩ := blk5 Hd2.out
  clear hp2
  cases ld with
  | true =>
    rcases key with ⟨rfl, rfl, rfl⟩ | ⟨rfl, rfl⟩ | ⟨rfl, rfl, rfl⟩
    · go_wp2
      refine bodyPost_ret (results_none rfl _ _ _) rfl ?_
      refine ⟨rfl, ?_, (Hm2.out.step (grown_set w2 p 2 (.int .i64 ((q + 1) % 4294967296))) (.inl rfl)).step (grown_set _ p 5 (.bool true)) (.inl rfl)⟩
      exact (H2.out.put 2 (.int .i64 ((q + 1) % 4294967296)) ⟨a, b, exNext q, true, true, dn, l1, l2, l3, l4, ⟨si, false, ss, sq, shs⟩, H, k⟩ (fun _ _ => by simp [ExM.ar, exA, exNext]) rfl rfl rfl rfl (exNext_rng q)).put 5 (.bool true) ⟨a, b, exNext q, true, true, true, l1, l2, l3, l4, ⟨si, false, ss, sq, shs⟩, H, k⟩ (fun _ _ => by simp [ExM.ar, exA]) rfl rfl rfl rfl (exNext_rng q)
    all_goals
      go_wp2_with fail
      have hm4 := (Hm2.out.step (grown_set w2 p 2 (.int .i64 ((q + 1) % 4294967296))) (.inl rfl)).step (grown_set _ p 5 (.bool false)) (.inl rfl)
      have h4 := (H2.out.put 2 (.int .i64 ((q + 1) % 4294967296)) ⟨a, b, exNext q, true, true, dn, l1, l2, l3, l4, ⟨si, _, ss, sq, shs⟩, H, k⟩ (fun _ _ => by simp only [ExM.ar, exA, exNext]; rfl) rfl rfl rfl rfl (exNext_rng q)).put 5 (.bool false) ⟨a, b, exNext q, true, true, false, l1, l2, l3, l4, ⟨si, _, ss, sq, shs⟩, H, k⟩ (fun _ _ => by simp only [ExM.ar, exA]; rfl) rfl rfl rfl rfl (exNext_rng q)
      obtain ⟨w4, hw4⟩ : ∃ W, (w2.setCell ⟨p, 2, none⟩ (.int .i64 ((q + 1) % 4294967296))).setCell ⟨p, 5, none⟩ (.bool false) = W := ⟨_, rfl⟩
      rw [hw4] at hm4 h4 ⊢
      obtain ⟨v4, hs4⟩ := h4.sum rfl
      have hle := h4.le rfl
      simp only at hs4 hle
      have HVo := Lib.hid (h4.soff rfl v4 _ _ hs4)
      have HSt := Lib.hid (SuStep_any s0 v4 k H w4 hs4 hle.1 (by omega))
      have Hm4 := Lib.hid hm4
      have H4 := Lib.hid h4
      clear x0 x1 x2 x3 x4 x5 x6 x7 x8 x9 xa xb xc xd xe xf d0 d1 d2 d3 d4 hfz hw4 hm4 h4 hs4 hle
      with_reducible refine Calls.mono HSt.out ?_
      rintro r w5 ⟨rfl, hs5, hg5⟩
      have h5 := H4.out.stepped rfl hg5 hs5 (H4.out.sum rfl) HVo.out
      have HSay := Lib.hid (say_any p s0 _ w5 h5 rfl (fun g hg => Nat.lt_of_lt_of_le (HXs.out g hg) (Nat.le_trans Hm4.out.size hg5.size)))
      have Hm5 := Lib.hid (Hm4.out.step hg5 (.inr rfl))
      clear hs5 hg5 h5
      go_wp2_with fail
      with_reducible refine Calls.mono HSay.out ?_
      rintro r w6 ⟨rfl, h6, hg6⟩
      have H6 := Lib.hid h6
      have Hm6 := Lib.hid (Hm5.out.step hg6 (.inl rfl))
      obtain ⟨hv6, hp6, -⟩ := h6.ptr
      simp only [ExM.ar, sayM, stepM, if_true] at hp6
      obtain ⟨x0, x1, x2, x3, x4, x5, x6, x7, x8, x9, xa, xb, xc, xd, xe, xf⟩ := blk16 hp6
      clear h6 hg6 hp6
      go_wp2
      refine bodyPost_end (results_none rfl _ _ _) rfl ?_
      exact ⟨rfl, H6.out, Hm6.out⟩
  | false =>
    go_wp2_with fail
    have hle := H2.out.le rfl
    obtain ⟨v4, hs4⟩ := H2.out.sum rfl
    simp only at hs4 hle
    have HVo := Lib.hid (H2.out.soff rfl v4 _ _ hs4)
    have HSt := Lib.hid (SuStep_any s0 v4 k H w2 hs4 hle.1 (by omega))
    clear x0 x1 x2 x3 x4 x5 x6 x7 x8 x9 xa xb xc xd xe xf d0 d1 d2 d3 d4 hfz hs4 hle key
    with_reducible refine Calls.mono HSt.out ?_
    rintro r w5 ⟨rfl, hs5, hg5⟩
    have h5 := H2.out.stepped rfl hg5 hs5 (H2.out.sum rfl) HVo.out
    have HSay := Lib.hid (say_any p s0 _ w5 h5 rfl (fun g hg => Nat.lt_of_lt_of_le (HXs.out g hg) (Nat.le_trans Hm2.out.size hg5.size)))
    have Hm5 := Lib.hid (Hm2.out.step hg5 (.inr rfl))
    have Hd5 := Lib.hid (Hd2.out.grown hg5 (fun e => Hpg.out.2 (by injection e with e; exact e.symm)))
    clear hs5 hg5 h5
    go_wp2_with fail
    with_reducible refine Calls.mono HSay.out ?_
    rintro r w6 ⟨rfl, h6, hg6⟩
    have H6 := Lib.hid h6
    have Hm6 := Lib.hid (Hm5.out.step hg6 (.inl rfl))
    have hd6 := Hd5.out.grown hg6 (fun e => Hpg.out.1 (by injection e with e; exact e.symm))
    obtain ⟨hv6, hp6, -⟩ := h6.ptr
    obtain ⟨t2, ht2⟩ : ∃ t2, decide (nextAt k H.length + 3 < H.length) = t2 := ⟨_, rfl⟩
    have hp6 : Blk w6 p 65 (exA a b q true false dn l1 l2 l3 l4 false t2 false q hv6 (.pointer (some ⟨s0, 0, none⟩))) := by rw [← ht2]; exact hp6
    obtain ⟨x0, x1, x2, x3, x4, x5, x6, x7, x8, x9, xa, xb, xc, xd, xe, xf⟩ := blk16 hp6
    have hfz := fun j => hp6.frozen j
    obtain ⟨d0, d1, d2, d3, d4⟩ := blk5 hd6
    obtain ⟨t3, ht3⟩ : ∃ t3, (!m && !t2) = t3 := ⟨_, rfl⟩
    have key := key_take ht3
    have hz := H6.out.put 5 (.bool t3) { sayM (stepM ⟨a, b, q, true, false, dn, l1, l2, l3, l4, ⟨si, sm, ss, sq, shs⟩, H, k⟩) with dn := t3 } (fun _ _ => by simp [ExM.ar, exA, sayM, stepM]) rfl rfl rfl rfl Hq.out
    have hmz := Hm6.out.step (grown_set w6 p 5 (.bool t3)) (.inl rfl)
    have Hz := Lib.hid (show ExAt X (w6.setCell ⟨p, 5, none⟩ (.bool t3)) p s0 (takeM ⟨a, b, n, true, false, dn, l1, l2, l3, l4, ⟨si, sm, ss, sq, shs⟩, H, k⟩ ⟨i, m, s, q, hs⟩) from by
      have e : takeM ⟨a, b, n, true, false, dn, l1, l2, l3, l4, ⟨si, sm, ss, sq, shs⟩, H, k⟩ ⟨i, m, s, q, hs⟩ = { sayM (stepM ⟨a, b, q, true, false, dn, l1, l2, l3, l4, ⟨si, sm, ss, sq, shs⟩, H, k⟩) with dn := t3 } := by
        rw [← ht3, ← ht2]
        rfl
      rw [e]
      exact hz)
    have Hmz := Lib.hid hmz
    clear h6 hg6 hd6 hp6 hz hmz ht2 ht3
    rcases key with ⟨rfl, rfl, rfl⟩ | ⟨rfl, rfl⟩ | ⟨rfl, rfl, rfl⟩
    all_goals
      go_wp2
      refine bodyPost_end (results_none rfl _ _ _) rfl ?_
      exact ⟨rfl, Hz.out, Hmz.out⟩

end Go.Proofs.Ytfpjkeddcagfcaa

/-
  Layer 14: an exchange hears a piece.
-/
namespace Go.Proofs.Ytfpjkeddcagfcaa
open Go.RowKit Go.Sort

theorem eqMark (a b c : Bool) (q : Int) (a' b' c' : Bool) (q' : Int) (w : World) : (Op.equalIn 10000 62 (.agg #[.bool a, .bool b, .bool c, .int .i64 q]) (.agg #[.bool a', .bool b', .bool c', .int .i64 q'])).run Try.prog w = .ok (a == a' && b == b' && c == c' && q == q') w := by
  have hS : Try.prog.underlying 62 = some (.struct (Try.prog.fieldsOf 62)) := by kernel_rfl
  have hp : Try.prog.stoodInHeld 62 = false := by kernel_rfl
  rw [show (10000 : Nat) = 9999 + 1 from rfl, run_equalIn_struct w 9999 62 _ _ hS hp]
  simp only [Program.fieldsOf, Try.underlying62]
  go_simp
  by_cases h1 : a = a' <;> by_cases h2 : b = b' <;> by_cases h3 : c = c' <;> by_cases h4 : q = q' <;> simp [h1, h2, h3, h4]
theorem eqMarkN (a b c : Bool) (q : Int) (a' b' c' : Bool) (q' : Int) {t : Bool} (ht : decide (a = a' ∧ b = b' ∧ c = c' ∧ q = q') = t) (w : World) : (Op.equalIn 10000 62 (.agg #[.bool a, .bool b, .bool c, .int .i64 q]) (.agg #[.bool a', .bool b', .bool c', .int .i64 q'])).run Try.prog w = .ok t w := by
  rw [eqMark, ← ht]
  congr 1
  by_cases h1 : a = a' <;> by_cases h2 : b = b' <;> by_cases h3 : c = c' <;> by_cases h4 : q = q' <;> simp [h1, h2, h3, h4]
theorem ExAt.mark {X : Nat → Prop} {w : World} {p s : Nat} {y : ExM} (h : ExAt X w p s y) (d : DdV) : ExAt X ((((w.setCell ⟨p, 6, none⟩ (.bool d.i)).setCell ⟨p, 7, none⟩ (.bool d.m)).setCell ⟨p, 8, none⟩ (.bool d.s)).setCell ⟨p, 9, none⟩ (.int .i64 d.q)) p s (markM y d) :=
  (((h.put 6 (.bool d.i) { y with l1 := d.i } (fun _ _ => by simp [ExM.ar, exA]) rfl rfl rfl rfl h.rng).put 7 (.bool d.m) { y with l1 := d.i, l2 := d.m } (fun _ _ => by simp [ExM.ar, exA]) rfl rfl rfl rfl h.rng).put 8 (.bool d.s) { y with l1 := d.i, l2 := d.m, l3 := d.s } (fun _ _ => by simp [ExM.ar, exA]) rfl rfl rfl rfl h.rng).put 9 (.int .i64 d.q) (markM y d) (fun _ _ => by simp [ExM.ar, exA, markM]) rfl rfl rfl rfl h.rng
theorem Mvs.mark {P : Nat → Prop} {w w1 : World} {p : Nat} (h : Mvs P w w1) (hp : P p) (d : DdV) : Mvs P w ((((w1.setCell ⟨p, 6, none⟩ (.bool d.i)).setCell ⟨p, 7, none⟩ (.bool d.m)).setCell ⟨p, 8, none⟩ (.bool d.s)).setCell ⟨p, 9, none⟩ (.int .i64 d.q)) :=
  (((h.step (grown_set w1 p 6 _) hp).step (grown_set _ p 7 _) hp).step (grown_set _ p 8 _) hp).step (grown_set _ p 9 _) hp
/-- what hearing leaves -/
def Heard (X : Nat → Prop) (x : ExM) (d : DdV) (S : List Hd) (p s0 : Nat) (w w' : World) (r : Ending) : Prop :=
  ∃ s, r = .returned (.int .i64 (hearM x d S).2) ∧ ExAt X w' p s (hearM x d S).1 ∧ (x.ag = true → s = s0) ∧ (x.ag = false → s = s0 ∨ w.heap.size ≤ s) ∧ Mvs (fun g => g = p ∨ (x.ag = true ∧ g = s0)) w w'
set_option maxHeartbeats 16000000 in
set_option maxRecDepth 100000 in
theorem hear_any {X : Nat → Prop} (p s0 : Nat) (x : ExM) (d : DdV) (hA : Option Addr) (hc : Nat) (A : Option Addr) (nn cap : Nat) (S : List Hd) (w : World) (h : ExAt X w p s0 x) (hX : ∀ g, X g → g < w.heap.size) (hS : S.length ≤ 60) (hl : x.ag = false → d.hs.length ≤ 2 ^ 40)
    (HN : ∀ W, w.grownBy W (some p) → Calls Try.prog 34 #[.slice A nn cap] W fun r w' => r = .returned (.pointer (some ⟨W.heap.size, 0, none⟩)) ∧ (∃ v, SmAt w' W.heap.size v 0 S) ∧ Below W.heap.size W w') :
    Calls Try.prog 11 #[.pointer (some ⟨p, 0, none⟩), d.val hA hc, .slice A nn cap] w fun r w' => Heard X x d S p s0 w w' r := by
  obtain ⟨i, m, s, q, hs⟩ := d
  simp only at hl
  simp only [DdV.val]
  obtain ⟨nh, hnh⟩ : ∃ z, hs.length = z := ⟨_, rfl⟩
  rw [hnh]
  obtain ⟨w1, hw1⟩ : ∃ w1, w.alloc (.cells #[.bool i, .bool m, .bool s, .int .i64 q, .slice hA nh hc] 33) = w1 := ⟨_, rfl⟩
  obtain ⟨g1, hg1⟩ : ∃ g1, w.heap.size = g1 := ⟨_, rfl⟩
  have hd := Blk.new w 33 #[.bool i, .bool m, .bool s, .int .i64 q, .slice hA nh hc]
  have hb1 := below_new w (.cells #[.bool i, .bool m, .bool s, .int .i64 q, .slice hA nh hc] 33)
  rw [hw1, hg1] at hd
  rw [hw1] at hb1
  have h1 := h.below hb1
  obtain ⟨w2, hw2⟩ : ∃ w2, w1.alloc (.cells #[.bool i, .bool m, .bool s, .int .i64 q] 62) = w2 := ⟨_, rfl⟩
  obtain ⟨g2, hg2⟩ : ∃ g2, w1.heap.size = g2 := ⟨_, rfl⟩
  have hk := Blk.new w1 62 #[.bool i, .bool m, .bool s, .int .i64 q]
  have hb2 := below_new w1 (.cells #[.bool i, .bool m, .bool s, .int .i64 q] 62)
  rw [hw2, hg2] at hk
  rw [hw2] at hb2
  have hd2 := hd.below hb2 hd.lt
  have hb12 := below_trans hb1 hb1.size hb2
  have h2 := h1.below hb2
  obtain ⟨d0, d1, d2, d3, d4⟩ := blk5 hd
  have Hb12 := Lib.hid hb12
  have Hb1 := Lib.hid hb1
  have H2 := Lib.hid h2
  have H1 := Lib.hid h1
  have Hk := Lib.hid hk
  have Hd2 := Lib.hid hd2
  have HNe := Lib.hid HN
  have HS := Lib.hid hS
  have HXs := Lib.hid hX
  have HX2 := Lib.hid (show ∀ W, Below w2.heap.size w2 W → ∀ g, X g → g < W.heap.size from fun W hW g hg => Nat.lt_of_lt_of_le (hX g hg) (Nat.le_trans hb12.size hW.size))
  have Hl := Lib.hid hl
  have Hnh := Lib.hid hnh
  clear h h1 hd hb1 hk hb2 hd2 hb12 h2 HN hS hl hnh hX
  have hx : ¬ (Value.pointer (some ⟨p, 0, none⟩) = Value.pointer none) := by simp
  by_cases hq0 : q < 0
  · have He : Hid (hearM x ⟨i, m, s, q, hs⟩ S = (x, 0)) := Lib.hid (by unfold hearM; rw [if_pos (.inl hq0)])
    go_enter Try.func11, Try.ntmps11
    go_wp2
    go_ret
    unfold Heard
    rw [He.out]
    exact ⟨s0, rfl, H1.out, fun _ => rfl, fun _ => .inl rfl, .one (gr_below (row := some p) Hb1.out) (.inl rfl)⟩
  by_cases hq1 : 4294967295 < q
  · have He : Hid (hearM x ⟨i, m, s, q, hs⟩ S = (x, 0)) := Lib.hid (by unfold hearM; rw [if_pos (.inr hq1)])
    go_enter Try.func11, Try.ntmps11
    go_wp2
    go_ret
    unfold Heard
    rw [He.out]
    exact ⟨s0, rfl, H1.out, fun _ => rfl, fun _ => .inl rfl, .one (gr_below (row := some p) Hb1.out) (.inl rfl)⟩
  have hq : 0 ≤ q ∧ q ≤ 4294967295 := ⟨by omega, by omega⟩
  have hqn : ¬ (q < 0 ∨ 4294967295 < q) := by omega
  have Hp2 := Lib.hid (show p ≠ g2 from fun e => by obtain ⟨hv, h9, -⟩ := H2.out.ptr; have := blk_type (e ▸ h9) Hk.out; revert this; decide)
  cases hag : x.ag with
  | false =>
    have HB := Lib.hid (begin_any p s0 x ⟨i, m, s, q, hs⟩ hA hc A nn cap S w2 H2.out (HX2.out w2 (Below.refl _ _)) hag hq HS.out (Hl.out hag) (fun W hW => HNe.out W (gr_trans (gr_below Hb12.out) hW)))
    simp only [DdV.val, Hnh.out] at HB
    obtain ⟨hv, hp, -⟩ := H2.out.ptr
    simp only [ExM.ar, hag] at hp
    obtain ⟨x0, x1, x2, x3, x4, x5, x6, x7, x8, x9, xa, xb, xc, xd, xe, xf⟩ := blk16 hp
    obtain ⟨e0, e1, e2, e3, e4⟩ := blk5 Hd2.out
    cases hbm : beginM x ⟨i, m, s, q, hs⟩ S with
    | none =>
      have He : Hid (hearM x ⟨i, m, s, q, hs⟩ S = (x, 0)) := Lib.hid (by unfold hearM; rw [if_neg hqn, if_pos hag, hbm])
      have Hbm := Lib.hid hbm
      clear hbm hqn hq hp hag x0 x1 x2 x4 x5 x6 x7 x8 x9 xa xb xc xd xe xf
      go_enter Try.func11, Try.ntmps11
      go_wp2_with fail
      with_reducible refine Calls.mono HB.out ?_
      rintro r w3 hbg
      unfold Began at hbg
      rw [Hbm.out] at hbg
      obtain ⟨rfl, hb3⟩ := hbg
      have Hb3 := Lib.hid hb3
      clear hb3
      go_wp2
      go_ret
      unfold Heard
      rw [He.out]
      exact ⟨s0, rfl, H2.out.below Hb3.out, fun _ => rfl, fun _ => .inl rfl, .step (.one (gr_below (row := some p) Hb12.out) (.inl rfl)) (gr_below (row := some p) Hb3.out) (.inl rfl)⟩
    | some y =>
      have He : Hid (hearM x ⟨i, m, s, q, hs⟩ S = (markM y ⟨i, m, s, q, hs⟩, 2)) := Lib.hid (by unfold hearM; rw [if_neg hqn, if_pos hag, hbm])
      have Hbm := Lib.hid hbm
      have Hag := Lib.hid hag
      clear hbm hqn hq hp hag x0 x1 x2 x4 x5 x6 x7 x8 x9 xa xb xc xd xe xf
      go_enter Try.func11, Try.ntmps11
      go_wp2_with fail
      with_reducible refine Calls.mono HB.out ?_
      rintro r w3 hbg
      unfold Began at hbg
      rw [Hbm.out] at hbg
      obtain ⟨rfl, ⟨s4, hs4, he⟩, hg3⟩ := hbg
      have hk3 := Hk.out.grown hg3 (fun e => Hp2.out (by injection e with e; exact e.symm))
      have k0 := hk3.cell 0
      have k1 := hk3.cell 1
      have k2 := hk3.cell 2
      have k3 := hk3.cell 3
      simp only [List.getElem?_toArray, List.getElem?_cons_zero, List.getElem?_cons_succ] at k0 k1 k2 k3
      obtain ⟨hv3, hp3, -⟩ := he.ptr
      have hfz := fun j => hp3.frozen j
      simp only [ExM.ar] at hp3
      obtain ⟨z0, z1, z2, z3, z4, z5, z6, z7, z8, z9, za, zb, zc, zd, ze, zf⟩ := blk16 hp3
      clear z0 z1 z2 z3 z4 z5 za zb zc zd ze zf
      have He3 := Lib.hid (he.mark ⟨i, m, s, q, hs⟩)
      have Hm3 := Lib.hid ((Mvs.step (P := fun g => g = p ∨ (x.ag = true ∧ g = s0)) (.one (gr_below (row := some p) Hb12.out) (.inl rfl)) hg3 (.inl rfl)).mark (.inl rfl) ⟨i, m, s, q, hs⟩)
      have Hs4 := Lib.hid (Nat.le_trans Hb12.out.size hs4)
      clear x3 hk3 hp3 he hg3 hs4
      go_wp2
      go_ret
      unfold Heard
      rw [He.out]
      exact ⟨s4, rfl, He3.out, (fun h => by rw [Hag.out] at h; cases h), fun _ => .inr Hs4.out, Hm3.out⟩
  | true =>
    obtain ⟨t, ht⟩ : ∃ t, sameM x ⟨i, m, s, q, hs⟩ = t := ⟨_, rfl⟩
    have heq := fun W => eqMarkN i m s q x.l1 x.l2 x.l3 x.l4 (t := t) ht W
    obtain ⟨u, hu⟩ : ∃ u, fitsM x ⟨i, m, s, q, hs⟩ = u := ⟨_, rfl⟩
    have HFt := Lib.hid (fun W (hW : Below w2.heap.size w2 W) => fits_any p s0 x ⟨i, m, s, q, hs⟩ hA hc W (H2.out.below hW))
    have HTk := Lib.hid (fun W (hW : Below w2.heap.size w2 W) => take_any p s0 x ⟨i, m, s, q, hs⟩ hA hc W (H2.out.below hW) (HX2.out W hW) hag hq)
    rw [hu] at HFt
    simp only [DdV.val, Hnh.out] at HFt HTk
    have He : Hid (hearM x ⟨i, m, s, q, hs⟩ S = if t = true then (x, if x.ld then 0 else 1) else if u = true then (markM (takeM x ⟨i, m, s, q, hs⟩) ⟨i, m, s, q, hs⟩, 2) else (x, 3)) := Lib.hid (by unfold hearM; rw [if_neg hqn, if_neg (by rw [hag]; simp), ht, hu])
    obtain ⟨hv, hp, -⟩ := H2.out.ptr
    have Hps := Lib.hid (H2.out.apart hag)
    have Hs2 := Lib.hid (H2.out.sum hag)
    simp only [ExM.ar, hag, if_true] at hp
    have HP := Lib.hid hp
    obtain ⟨e0, e1, e2, e3, e4⟩ := blk5 Hd2.out
    have k0 := Hk.out.cell 0
    have k1 := Hk.out.cell 1
    have k2 := Hk.out.cell 2
    have k3 := Hk.out.cell 3
    simp only [List.getElem?_toArray, List.getElem?_cons_zero, List.getElem?_cons_succ] at k0 k1 k2 k3
    have Hag := Lib.hid hag
    clear hqn hq ht hu hag
    obtain ⟨ld, hld⟩ : ∃ z, x.ld = z := ⟨_, rfl⟩
    rw [hld] at hp He
    obtain ⟨x0, x1, x2, x3, x4, x5, x6, x7, x8, x9, xa, xb, xc, xd, xe, xf⟩ := blk16 hp
    clear hp hld x0 x1 x2 x5 xa xb xc xd xe xf
    cases t with
    | true =>
      cases ld
      all_goals
        go_enter Try.func11, Try.ntmps11
        go_wp2
        go_quiet (fail)
        go_wp2
        try (go_quiet (fail); go_wp2)
        go_ret
        unfold Heard
        rw [He.out]
        first
          | exact ⟨s0, rfl, H2.out.below (below_drewN (Below.refl _ _) _), fun _ => rfl, (fun h => by rw [Hag.out] at h; cases h), .one (gr_below (row := some p) (below_drewN Hb12.out _)) (.inl rfl)⟩
          | exact ⟨s0, rfl, H2.out.below (below_drewN (below_drewN (Below.refl _ _) _) _), fun _ => rfl, (fun h => by rw [Hag.out] at h; cases h), .one (gr_below (row := some p) (below_drewN (below_drewN Hb12.out _) _)) (.inl rfl)⟩
    | false =>
      go_enter Try.func11, Try.ntmps11
      go_wp2
      go_quiet (fail)
      go_wp2
      go_quiet (fail)
      go_wp2_with fail
      with_reducible refine Calls.mono (HFt.out _ (below_drewN (Below.refl _ _) _)) ?_
      rintro r w3 ⟨rfl, hb3⟩
      have hb23 := below_trans (below_drewN (Below.refl w2.heap.size w2) _) (Nat.le_refl _) hb3
      have Hb3 := Lib.hid hb23
      obtain ⟨e0, e1, e2, e3, e4⟩ := blk5 (Hd2.out.below hb23 Hd2.out.lt)
      clear hb3 hb23 k0 k1 k2 k3 x3 x4 x6 x7 x8 x9 heq
      cases u with
      | false =>
        go_wp2
        go_ret
        unfold Heard
        rw [He.out]
        exact ⟨s0, rfl, H2.out.below Hb3.out, fun _ => rfl, (fun h => by rw [Hag.out] at h; cases h), .one (gr_below (row := some p) (below_trans Hb12.out Hb12.out.size Hb3.out)) (.inl rfl)⟩
      | true =>
        go_wp2_with fail
        with_reducible refine Calls.mono (HTk.out _ Hb3.out) ?_
        rintro r w4 ⟨rfl, he, hm4⟩
        have hgs : g2 ≠ s0 := fun e => by obtain ⟨v, h9⟩ := Hs2.out; have := blk_type (e ▸ Hk.out) h9.ptr; revert this; decide
        have hk3 := hm4.blk (Hk.out.below Hb3.out Hk.out.lt) (fun e => e.elim (fun e => Hp2.out e.symm) hgs)
        have k0 := hk3.cell 0
        have k1 := hk3.cell 1
        have k2 := hk3.cell 2
        have k3 := hk3.cell 3
        simp only [List.getElem?_toArray, List.getElem?_cons_zero, List.getElem?_cons_succ] at k0 k1 k2 k3
        obtain ⟨hv3, hp3, -⟩ := he.ptr
        have hfz := fun j => hp3.frozen j
        simp only [ExM.ar] at hp3
        obtain ⟨z0, z1, z2, z3, z4, z5, z6, z7, z8, z9, za, zb, zc, zd, ze, zf⟩ := blk16 hp3
        clear z0 z1 z2 z3 z4 z5 za zb zc zd ze zf
        have He3 := Lib.hid (he.mark ⟨i, m, s, q, hs⟩)
        have Hm3 := Lib.hid (((Mvs.one (P := fun g => g = p ∨ (x.ag = true ∧ g = s0)) (gr_below (row := some p) (below_trans Hb12.out Hb12.out.size Hb3.out)) (.inl rfl)).trans (hm4.imp fun g hg => hg.imp id fun e => ⟨Hag.out, e⟩)).mark (.inl rfl) ⟨i, m, s, q, hs⟩)
        clear hk3 hp3 he hm4 hgs
        go_wp2
        go_ret
        unfold Heard
        rw [He.out]
        exact ⟨s0, rfl, He3.out, fun _ => rfl, (fun h => by rw [Hag.out] at h; cases h), Hm3.out⟩

end Go.Proofs.Ytfpjkeddcagfcaa

/-
  Layer 14: two sides of an exchange on their way, in plain words: whichever hears the other one, nothing is bad; both are done behind enough of it.
-/
namespace Go.Proofs.Ytfpjkeddcagfcaa
open Go.RowKit Go.Sort

/-- the numbers of the pieces -/
def numX (s : Int) (j : Nat) : Int := (s + j) % 4294967296
theorem numX_zero {s : Int} (h : 0 ≤ s ∧ s ≤ 4294967295) : numX s 0 = s := by unfold numX; omega
theorem numX_next (s : Int) (j : Nat) : exNext (numX s j) = numX s (j + 1) := by unfold numX exNext; omega
theorem numX_ne (s : Int) (j : Nat) : ¬ numX s (j + 1) = numX s j := by unfold numX; omega
theorem numX_rng (s : Int) (j : Nat) : ¬ (numX s j < 0 ∨ 4294967295 < numX s j) := by unfold numX; omega
/-- the place of a piece -/
def kOf (n j : Nat) : Nat := if 3 * j < n then 3 * j else n
theorem kOf_zero (n : Nat) : kOf n 0 = 0 := by unfold kOf; split <;> omega
theorem kOf_next (n j : Nat) : nextAt (kOf n j) n = kOf n (j + 1) := by unfold nextAt kOf; split <;> split <;> split <;> omega
def moreP (S : List Hd) (j : Nat) : Bool := decide (3 * (j + 1) < S.length)
theorem kOf_more (S : List Hd) (j : Nat) : decide (kOf S.length j + 3 < S.length) = moreP S j := by
  unfold moreP kOf
  rw [Bool.eq_iff_iff, decide_eq_true_eq, decide_eq_true_eq]
  split <;> omega
def pcP (S : List Hd) (j : Nat) : List Hd := pieceAt S (kOf S.length j)
theorem take_pc (S : List Hd) (j : Nat) : S.take (3 * j) ++ pcP S j = S.take (3 * (j + 1)) := by
  unfold pcP pieceAt kOf
  split
  · rw [show 3 * (j + 1) = 3 * j + 3 by omega, List.take_add]
  · rw [List.drop_eq_nil_of_le (Nat.le_refl _), List.take_nil, List.append_nil, List.take_of_length_le (by omega), List.take_of_length_le (by omega)]
theorem take_all {S : List Hd} {j : Nat} (h : moreP S j = false) : S.take (3 * (j + 1)) = S := by
  unfold moreP at h
  rw [decide_eq_false_iff_not] at h
  exact List.take_of_length_le (by omega)
/-- an exchange that nobody told anything -/
def freshX (a b n : Int) : ExM := ⟨a, b, n, false, false, false, false, false, false, 0, ⟨true, true, true, n, []⟩, [], 0⟩
/-- the one that follows, at its piece j -/
def folX (a b s : Int) (S : List Hd) (j : Nat) (dn m1 m2 m3 : Bool) (m4 : Int) : ExM := ⟨a, b, numX s j, true, false, dn, m1, m2, m3, m4, ⟨false, moreP S j, false, numX s j, pcP S j⟩, S, kOf S.length j⟩
/-- the one that leads, at its piece j -/
def leadX (a b s : Int) (S : List Hd) (j : Nat) (m2 : Bool) : ExM := ⟨b, a, numX s (j + 1), true, true, false, false, m2, false, numX s j, ⟨false, moreP S j, true, numX s (j + 1), pcP S j⟩, S, kOf S.length j⟩
/-- the one that leads, done -/
def endX (a b s : Int) (S : List Hd) (j : Nat) : ExM := ⟨b, a, numX s (j + 2), true, true, true, false, false, false, numX s (j + 1), ⟨false, false, true, numX s (j + 1), pcP S j⟩, S, kOf S.length j⟩
section
variable {a b s t : Int} {SF SL : List Hd} {j : Nat}
theorem folX_hears (hab : a < b) (hs : 0 ≤ s ∧ s ≤ 4294967295) : hearM (freshX a b t) ⟨true, true, true, s, []⟩ SF = (folX a b s SF 0 false true true true s, 2) := by
  have h1 : ¬ (s < 0 ∨ 4294967295 < s) := by omega
  have h2 := kOf_more SF 0
  rw [kOf_zero] at h2
  simp [hearM, freshX, h1, beginM, hab, folX, sayM, markM, numX_zero hs, kOf_zero, pcP, h2]
theorem folX_again (n : Int) (dn : Bool) (hs' : List Hd) : hearM (folX a b s SF j dn true true true n) ⟨true, true, true, n, hs'⟩ SF = (folX a b s SF j dn true true true n, if n < 0 ∨ 4294967295 < n then 0 else 1) := by
  by_cases h1 : n < 0 ∨ 4294967295 < n <;> simp [hearM, folX, h1, sameM]
theorem freshL_init (hab : a < b) (n : Int) (hs' : List Hd) : hearM (freshX b a s) ⟨true, true, true, n, hs'⟩ SL = (freshX b a s, 0) := by
  have h2 : ¬ b < a := by omega
  by_cases h1 : n < 0 ∨ 4294967295 < n <;> simp [hearM, freshX, h1, beginM, h2]
theorem leadX_begins (hab : a < b) (hs : 0 ≤ s ∧ s ≤ 4294967295) (m : Bool) (hs' : List Hd) : hearM (freshX b a s) ⟨false, m, false, numX s 0, hs'⟩ SL = (leadX a b s SL 0 m, 2) := by
  have h1 : ¬ (s < 0 ∨ 4294967295 < s) := by omega
  have h3 := numX_next s 0
  rw [numX_zero hs] at h3
  have h2 := kOf_more SL 0
  rw [kOf_zero] at h2
  simp [hearM, freshX, h1, beginM, hab, leadX, sayM, markM, numX_zero hs, kOf_zero, pcP, h2, h3]
/-- it hears the same again -/
theorem again_any (x : ExM) (d : DdV) (S : List Hd) (h : x.ag = true) (hm : sameM x d = true) (hq : ¬ (d.q < 0 ∨ 4294967295 < d.q)) : hearM x d S = (x, if x.ld then 0 else 1) := by
  unfold hearM
  rw [if_neg hq, if_neg (by rw [h]; simp), if_pos hm]
theorem folX_takes (m1 m2 m3 m : Bool) (m4 : Int) (hs' : List Hd) (hne : sameM (folX a b s SF j false m1 m2 m3 m4) ⟨false, m, true, numX s (j + 1), hs'⟩ = false) : hearM (folX a b s SF j false m1 m2 m3 m4) ⟨false, m, true, numX s (j + 1), hs'⟩ SF = (folX a b s SF (j + 1) (!m && !moreP SF (j + 1)) false m true (numX s (j + 1)), 2) := by
  have hf : fitsM (folX a b s SF j false m1 m2 m3 m4) ⟨false, m, true, numX s (j + 1), hs'⟩ = true := by
    simp [fitsM, folX, wantM, numX_next]
  unfold hearM
  rw [if_neg (numX_rng _ _), if_neg (by simp [folX]), if_neg (by rw [hne]; simp), if_pos hf]
  simp [takeM, folX, stepM, sayM, markM, kOf_next, kOf_more, pcP]
theorem leadX_takes (m2 m : Bool) (hs' : List Hd) : hearM (leadX a b s SL j m2) ⟨false, m, false, numX s (j + 1), hs'⟩ SL = (if m = false ∧ moreP SL j = false then endX a b s SL j else leadX a b s SL (j + 1) m, 2) := by
  have hne : sameM (leadX a b s SL j m2) ⟨false, m, false, numX s (j + 1), hs'⟩ = false := by
    simp [sameM, leadX, numX_ne]
  have hf : fitsM (leadX a b s SL j m2) ⟨false, m, false, numX s (j + 1), hs'⟩ = true := by
    simp [fitsM, leadX, wantM]
  have h3 := numX_next s (j + 1)
  unfold hearM
  rw [if_neg (numX_rng _ _), if_neg (by simp [leadX]), if_neg (by rw [hne]; simp), if_pos hf]
  cases hm : moreP SL j <;> cases m <;> simp [takeM, leadX, endX, stepM, sayM, markM, kOf_next, kOf_more, pcP, hm, h3]
end
/-- two sides on their way: how far they are, the one that follows, the one that leads, what each took -/
inductive Way (a b s t : Int) (SF SL : List Hd) : Nat → ExM → ExM → List Hd → List Hd → Prop
  | none : Way a b s t SF SL 0 (freshX a b t) (freshX b a s) [] []
  | one : Way a b s t SF SL 1 (folX a b s SF 0 false true true true s) (freshX b a s) [] []
  | two (j : Nat) (m1 m2 m3 : Bool) (m4 : Int) (h : j = 0 ∨ moreP SL (j - 1) = true ∨ moreP SF j = true) (hm : m1 = false → m4 = numX s j) (hj : m1 = true → j = 0) : Way a b s t SF SL (2 + 2 * j) (folX a b s SF j false m1 m2 m3 m4) (leadX a b s SL j (moreP SF j)) (SL.take (3 * j)) (SF.take (3 * (j + 1)))
  | three (j : Nat) (h : j = 0 ∨ moreP SL (j - 1) = true ∨ moreP SF j = true) : Way a b s t SF SL (3 + 2 * j) (folX a b s SF (j + 1) (!moreP SL j && !moreP SF (j + 1)) false (moreP SL j) true (numX s (j + 1))) (leadX a b s SL j (moreP SF j)) (SL.take (3 * (j + 1))) (SF.take (3 * (j + 1)))
  | done (j : Nat) (hl : moreP SL j = false) (hf : moreP SF (j + 1) = false) : Way a b s t SF SL 100 (folX a b s SF (j + 1) true false false true (numX s (j + 1))) (endX a b s SL j) SL SF
/-- what was taken -/
def tookX (T : List Hd) (r : Int) (hs : List Hd) : List Hd := if r = 2 then T ++ hs else T
section
variable {a b s t : Int} {SF SL : List Hd} {ρ : Nat} {F L : ExM} {TF TL : List Hd}
/-- the rank behind the move of the one whose turn it is -/
def upR (ρ ρ' : Nat) : Prop := ρ' = ρ + 1 ∨ ρ' = 100
theorem few_j {j : Nat} (hF : SF.length ≤ 60) (hL : SL.length ≤ 60) (h : j = 0 ∨ moreP SL (j - 1) = true ∨ moreP SF j = true) : j ≤ 19 := by
  unfold moreP at h; simp only [decide_eq_true_eq] at h; omega
/-- few ranks -/
theorem Way.few (hF : SF.length ≤ 60) (hL : SL.length ≤ 60) (h : Way a b s t SF SL ρ F L TF TL) : ρ ≤ 41 ∨ ρ = 100 := by
  cases h with
  | none => omega
  | one => omega
  | two j _ _ _ _ h _ _ => unfold moreP at h; simp only [decide_eq_true_eq] at h; omega
  | three j h => unfold moreP at h; simp only [decide_eq_true_eq] at h; omega
  | done => omega
theorem Way.fol (hF : SF.length ≤ 60) (hL : SL.length ≤ 60) (hab : a < b) (hs : 0 ≤ s ∧ s ≤ 4294967295) (h : Way a b s t SF SL ρ F L TF TL) : (hearM F L.said SF).2 ≠ 3 ∧ ∃ ρ', Way a b s t SF SL ρ' (hearM F L.said SF).1 L (tookX TF (hearM F L.said SF).2 L.said.hs) TL ∧ (if ρ = 100 then ρ' = 100 else if ρ % 2 = 0 then upR ρ ρ' else ρ' = ρ) := by
  cases h with
  | none =>
    have h1 := folX_hears (t := t) (SF := SF) hab hs
    rw [show (freshX b a s).said = ⟨true, true, true, s, []⟩ from rfl, h1]
    exact ⟨by simp, 1, by simpa [tookX] using Way.one, by simp [upR]⟩
  | one =>
    have h1 := folX_again (a := a) (b := b) (s := s) (SF := SF) (j := 0) s false []
    rw [show (freshX b a s).said = ⟨true, true, true, s, []⟩ from rfl, h1, if_neg (by omega)]
    exact ⟨by simp, 1, by simpa [tookX] using Way.one, by simp⟩
  | two j m1 m2 m3 m4 h hm hj =>
    have hne : sameM (folX a b s SF j false m1 m2 m3 m4) ⟨false, moreP SL j, true, numX s (j + 1), pcP SL j⟩ = false := by
      cases m1
      · simp [sameM, folX, hm rfl, numX_ne]
      · simp [sameM, folX]
    have h1 := folX_takes (a := a) (b := b) (s := s) (SF := SF) (j := j) m1 m2 m3 (moreP SL j) m4 (pcP SL j) hne
    rw [show (leadX a b s SL j (moreP SF j)).said = ⟨false, moreP SL j, true, numX s (j + 1), pcP SL j⟩ from rfl, h1]
    refine ⟨by simp, 3 + 2 * j, ?_, ?_⟩
    · have := Way.three (a := a) (b := b) (s := s) (t := t) (SF := SF) (SL := SL) j h
      simp only [tookX, if_true, take_pc]
      exact this
    · have := few_j hF hL h
      unfold upR; split
      · omega
      · split <;> omega
  | three j h =>
    have h1 := again_any (folX a b s SF (j + 1) (!moreP SL j && !moreP SF (j + 1)) false (moreP SL j) true (numX s (j + 1))) ⟨false, moreP SL j, true, numX s (j + 1), pcP SL j⟩ SF rfl (by simp [sameM, folX]) (numX_rng _ _)
    rw [show (leadX a b s SL j (moreP SF j)).said = ⟨false, moreP SL j, true, numX s (j + 1), pcP SL j⟩ from rfl, h1]
    refine ⟨by simp [folX], 3 + 2 * j, ?_, ?_⟩
    · have := Way.three (a := a) (b := b) (s := s) (t := t) (SF := SF) (SL := SL) j h
      simpa [tookX, folX] using this
    · split
      · omega
      · split <;> omega
  | done j hl hf =>
    have h1 := again_any (folX a b s SF (j + 1) true false false true (numX s (j + 1))) ⟨false, false, true, numX s (j + 1), pcP SL j⟩ SF rfl (by simp [sameM, folX]) (numX_rng _ _)
    rw [show (endX a b s SL j).said = ⟨false, false, true, numX s (j + 1), pcP SL j⟩ from rfl, h1]
    refine ⟨by simp [folX], 100, ?_, by simp⟩
    have := Way.done (a := a) (b := b) (s := s) (t := t) (SF := SF) (SL := SL) j hl hf
    simpa [tookX, folX] using this
theorem Way.lead (hab : a < b) (hs : 0 ≤ s ∧ s ≤ 4294967295) (h : Way a b s t SF SL ρ F L TF TL) : (hearM L F.said SL).2 ≠ 3 ∧ ∃ ρ', Way a b s t SF SL ρ' F (hearM L F.said SL).1 TF (tookX TL (hearM L F.said SL).2 F.said.hs) ∧ (if ρ = 100 then ρ' = 100 else if ρ % 2 = 1 then upR ρ ρ' else ρ' = ρ) := by
  cases h with
  | none =>
    have h1 := freshL_init (s := s) (SL := SL) hab t []
    rw [show (freshX a b t).said = ⟨true, true, true, t, []⟩ from rfl, h1]
    exact ⟨by simp, 0, by simpa [tookX] using Way.none, by simp⟩
  | one =>
    have h1 := leadX_begins (SL := SL) hab hs (moreP SF 0) (pcP SF 0)
    rw [show (folX a b s SF 0 false true true true s).said = ⟨false, moreP SF 0, false, numX s 0, pcP SF 0⟩ from rfl, h1]
    refine ⟨by simp, 2, ?_, by simp [upR]⟩
    have := Way.two (a := a) (b := b) (s := s) (t := t) (SF := SF) (SL := SL) 0 true true true s (.inl rfl) (by simp) (by simp)
    have h2 := take_pc SF 0
    simp only [Nat.mul_zero, List.take_zero, List.nil_append] at h2 this
    simp only [tookX, if_true, List.nil_append, h2]
    exact this
  | two j m1 m2 m3 m4 h hm hj =>
    have h1 := again_any (leadX a b s SL j (moreP SF j)) ⟨false, moreP SF j, false, numX s j, pcP SF j⟩ SL rfl (by simp [sameM, leadX]) (numX_rng _ _)
    rw [show (folX a b s SF j false m1 m2 m3 m4).said = ⟨false, moreP SF j, false, numX s j, pcP SF j⟩ from rfl, h1]
    refine ⟨by simp [leadX], 2 + 2 * j, ?_, ?_⟩
    · have := Way.two (a := a) (b := b) (s := s) (t := t) (SF := SF) (SL := SL) j m1 m2 m3 m4 h hm hj
      simpa [tookX, leadX] using this
    · split
      · omega
      · split <;> omega
  | three j h =>
    have h1 := leadX_takes (a := a) (b := b) (s := s) (SL := SL) (j := j) (moreP SF j) (moreP SF (j + 1)) (pcP SF (j + 1))
    rw [show (folX a b s SF (j + 1) (!moreP SL j && !moreP SF (j + 1)) false (moreP SL j) true (numX s (j + 1))).said = ⟨false, moreP SF (j + 1), false, numX s (j + 1), pcP SF (j + 1)⟩ from rfl, h1]
    by_cases hd : moreP SF (j + 1) = false ∧ moreP SL j = false
    · rw [if_pos hd]
      refine ⟨by simp, 100, ?_, ?_⟩
      · have := Way.done (a := a) (b := b) (s := s) (t := t) (SF := SF) (SL := SL) j hd.2 hd.1
        have hF := take_pc SF (j + 1)
        rw [take_all hd.1] at hF
        simp only [tookX, if_true, hF, take_all hd.2]
        rw [hd.1, hd.2]
        exact this
      · unfold upR; split
        · rfl
        · split <;> omega
    · rw [if_neg hd]
      refine ⟨by simp, 2 + 2 * (j + 1), ?_, ?_⟩
      · have hd2 : (!moreP SL j && !moreP SF (j + 1)) = false := by
          cases h4 : moreP SL j <;> cases h5 : moreP SF (j + 1) <;> simp_all
        have := Way.two (a := a) (b := b) (s := s) (t := t) (SF := SF) (SL := SL) (j + 1) false (moreP SL j) true (numX s (j + 1)) (by
          cases h4 : moreP SL j <;> cases h5 : moreP SF (j + 1) <;> simp_all) (by simp) (by simp)
        simp only [tookX, if_true, take_pc, hd2]
        exact this
      · unfold upR; split
        · omega
        · split <;> omega
  | done j hl hf =>
    have h1 := again_any (endX a b s SL j) ⟨false, false, false, numX s (j + 1), pcP SF (j + 1)⟩ SL rfl (by simp [sameM, endX]) (numX_rng _ _)
    rw [show (folX a b s SF (j + 1) true false false true (numX s (j + 1))).said = ⟨false, moreP SF (j + 1), false, numX s (j + 1), pcP SF (j + 1)⟩ from rfl, hf, h1]
    refine ⟨by simp [endX], 100, ?_, by simp⟩
    have := Way.done (a := a) (b := b) (s := s) (t := t) (SF := SF) (SL := SL) j hl hf
    simpa [tookX, endX] using this
/-- what was taken is a beginning -/
theorem Way.begins (h : Way a b s t SF SL ρ F L TF TL) : TF = SL.take TF.length ∧ TF.length ≤ SL.length ∧ TL = SF.take TL.length ∧ TL.length ≤ SF.length ∧ (F.dn = true → TF = SL) ∧ (L.dn = true → TL = SF) := by
  have ht : ∀ (S : List Hd) (n : Nat), S.take n = S.take (S.take n).length ∧ (S.take n).length ≤ S.length := fun S n => by
    rw [List.length_take]
    exact ⟨by rw [← List.take_take]; simp, Nat.min_le_right _ _⟩
  cases h with
  | none => simp [freshX]
  | one => simp [folX, freshX]
  | two j => exact ⟨(ht _ _).1, (ht _ _).2, (ht _ _).1, (ht _ _).2, by simp [folX], by simp [leadX]⟩
  | three j => 
    refine ⟨(ht _ _).1, (ht _ _).2, (ht _ _).1, (ht _ _).2, fun hd => ?_, by simp [leadX]⟩
    simp only [folX, Bool.and_eq_true, Bool.not_eq_true'] at hd
    exact take_all hd.1
  | done j => simp
theorem Way.ends (hF : SF.length ≤ 60) (hL : SL.length ≤ 60) (h : Way a b s t SF SL 100 F L TF TL) : ∃ j, moreP SL j = false ∧ moreP SF (j + 1) = false ∧ F = folX a b s SF (j + 1) true false false true (numX s (j + 1)) ∧ L = endX a b s SL j ∧ TF = SL ∧ TL = SF := by
  generalize hr : (100 : Nat) = r at h
  cases h with
  | none => omega
  | one => omega
  | two j _ _ _ _ h _ _ => have := few_j hF hL h; omega
  | three j => omega
  | done j hl hf => exact ⟨j, hl, hf, rfl, rfl, rfl, rfl⟩
end
/-- two sides, whichever of them leads -/
def WayW (n0 n1 s0 s1 : Int) (H0 H1 : List Hd) (ρ : Nat) (x y : ExM) (tx ty : List Hd) : Prop :=
  (n0 < n1 ∧ Way n0 n1 s1 s0 H0 H1 ρ x y tx ty) ∨ (n1 < n0 ∧ Way n1 n0 s0 s1 H1 H0 ρ y x ty tx)
/-- the one who moves -/
def movX (n0 n1 : Int) (ρ : Nat) : Bool := decide (ρ % 2 = 0) == decide (n0 < n1)
def stepR (n0 n1 : Int) (turn : Bool) (ρ ρ' : Nat) : Prop := if ρ = 100 then ρ' = 100 else if movX n0 n1 ρ = turn then upR ρ ρ' else ρ' = ρ
/-- behind m turns by turns -/
def NearX (n0 n1 : Int) (m : Nat) (turn : Bool) (ρ : Nat) : Prop := ρ = 100 ∨ m ≤ ρ ∨ (m ≤ ρ + 1 ∧ turn = movX n0 n1 ρ)
section
variable {n0 n1 s0 s1 : Int} {H0 H1 : List Hd} {ρ : Nat} {x y : ExM} {tx ty : List Hd}
theorem WayW.start (hne : n0 ≠ n1) : WayW n0 n1 s0 s1 H0 H1 0 (freshX n0 n1 s0) (freshX n1 n0 s1) [] [] := by
  rcases Int.lt_or_gt_of_ne hne with h | h
  · exact .inl ⟨h, .none⟩
  · exact .inr ⟨h, .none⟩
theorem WayW.left (hF : H0.length ≤ 60) (hL : H1.length ≤ 60) (h0 : 0 ≤ s0 ∧ s0 ≤ 4294967295) (h1 : 0 ≤ s1 ∧ s1 ≤ 4294967295) (h : WayW n0 n1 s0 s1 H0 H1 ρ x y tx ty) : (hearM x y.said H0).2 ≠ 3 ∧ ∃ ρ', WayW n0 n1 s0 s1 H0 H1 ρ' (hearM x y.said H0).1 y (tookX tx (hearM x y.said H0).2 y.said.hs) ty ∧ stepR n0 n1 true ρ ρ' := by
  rcases h with ⟨hab, h⟩ | ⟨hab, h⟩
  · obtain ⟨h3, ρ', h4, h5⟩ := h.fol hF hL hab h1
    refine ⟨h3, ρ', .inl ⟨hab, h4⟩, ?_⟩
    unfold stepR movX
    simpa [hab] using h5
  · obtain ⟨h3, ρ', h4, h5⟩ := h.lead hab h0
    refine ⟨h3, ρ', .inr ⟨hab, h4⟩, ?_⟩
    have hab2 : ¬ n0 < n1 := by omega
    unfold stepR movX
    rcases Nat.mod_two_eq_zero_or_one ρ with e | e <;> simpa [hab2, e] using h5
theorem WayW.right (hF : H0.length ≤ 60) (hL : H1.length ≤ 60) (h0 : 0 ≤ s0 ∧ s0 ≤ 4294967295) (h1 : 0 ≤ s1 ∧ s1 ≤ 4294967295) (h : WayW n0 n1 s0 s1 H0 H1 ρ x y tx ty) : (hearM y x.said H1).2 ≠ 3 ∧ ∃ ρ', WayW n0 n1 s0 s1 H0 H1 ρ' x (hearM y x.said H1).1 tx (tookX ty (hearM y x.said H1).2 x.said.hs) ∧ stepR n0 n1 false ρ ρ' := by
  rcases h with ⟨hab, h⟩ | ⟨hab, h⟩
  · obtain ⟨h3, ρ', h4, h5⟩ := h.lead hab h1
    refine ⟨h3, ρ', .inl ⟨hab, h4⟩, ?_⟩
    unfold stepR movX
    rcases Nat.mod_two_eq_zero_or_one ρ with e | e <;> simpa [hab, e] using h5
  · obtain ⟨h3, ρ', h4, h5⟩ := h.fol hL hF hab h0
    refine ⟨h3, ρ', .inr ⟨hab, h4⟩, ?_⟩
    have hab2 : ¬ n0 < n1 := by omega
    unfold stepR movX
    simpa [hab2] using h5
theorem WayW.few (hF : H0.length ≤ 60) (hL : H1.length ≤ 60) (h : WayW n0 n1 s0 s1 H0 H1 ρ x y tx ty) : ρ ≤ 41 ∨ ρ = 100 := by
  rcases h with ⟨-, h⟩ | ⟨-, h⟩
  · exact h.few hF hL
  · exact h.few hL hF
theorem WayW.begins (h : WayW n0 n1 s0 s1 H0 H1 ρ x y tx ty) : tx = H1.take tx.length ∧ tx.length ≤ H1.length ∧ ty = H0.take ty.length ∧ ty.length ≤ H0.length ∧ (x.dn = true → tx = H1) ∧ (y.dn = true → ty = H0) := by
  rcases h with ⟨-, h⟩ | ⟨-, h⟩
  · exact h.begins
  · obtain ⟨a, b, c, d, e, f⟩ := h.begins
    exact ⟨c, d, a, b, f, e⟩
theorem near_start (turn : Bool) : NearX n0 n1 0 turn ρ := .inr (.inl (Nat.zero_le _))
theorem near_step {m ρ' : Nat} {turn : Bool} (h : NearX n0 n1 m turn ρ) (hs : stepR n0 n1 turn ρ ρ') : NearX n0 n1 (m + 1) (!turn) ρ' := by
  unfold stepR at hs
  unfold NearX at h ⊢
  by_cases h100 : ρ = 100
  · rw [if_pos h100] at hs; exact .inl hs
  rw [if_neg h100] at hs
  by_cases hm : movX n0 n1 ρ = turn
  · rw [if_pos hm] at hs
    rcases hs with hs | hs
    · subst hs
      rcases h with h | h | ⟨h, h2⟩
      · exact absurd h h100
      · exact .inr (.inl (by omega))
      · refine .inr (.inr ⟨by omega, ?_⟩)
        rw [← hm]
        unfold movX
        rcases Nat.mod_two_eq_zero_or_one ρ with e | e
        · have e2 : (ρ + 1) % 2 = 1 := by omega
          rw [e, e2]; cases decide (n0 < n1) <;> rfl
        · have e2 : (ρ + 1) % 2 = 0 := by omega
          rw [e, e2]; cases decide (n0 < n1) <;> rfl
    · exact .inl hs
  · rw [if_neg hm] at hs
    subst hs
    rcases h with h | h | ⟨h, h2⟩
    · exact absurd h h100
    · refine .inr (.inr ⟨by omega, ?_⟩)
      cases turn <;> cases hv : movX n0 n1 ρ' <;> simp_all
    · exact absurd h2.symm hm
theorem WayW.near {m : Nat} {turn : Bool} (hF : H0.length ≤ 60) (hL : H1.length ≤ 60) (h : WayW n0 n1 s0 s1 H0 H1 ρ x y tx ty) (hn : NearX n0 n1 m turn ρ) (hm : 50 ≤ m) : ρ = 100 := by
  have := h.few hF hL
  unfold NearX at hn
  omega
/-- behind enough of it -/
theorem WayW.ends (hF : H0.length ≤ 60) (hL : H1.length ≤ 60) (h : WayW n0 n1 s0 s1 H0 H1 100 x y tx ty) : x.dn = true ∧ y.dn = true ∧ x.ld = decide (n1 < n0) ∧ y.ld = !x.ld ∧ x.ag = true ∧ y.ag = true ∧ tx = H1 ∧ ty = H0 ∧ (x.l1 = y.said.i ∧ x.l2 = y.said.m ∧ x.l3 = y.said.s ∧ x.l4 = y.said.q) := by
  rcases h with ⟨hab, h⟩ | ⟨hab, h⟩
  · obtain ⟨j, hl, hf, rfl, rfl, rfl, rfl⟩ := h.ends hF hL
    have hab2 : ¬ n1 < n0 := by omega
    simp [folX, endX, hab2]
  · obtain ⟨j, hl, hf, rfl, rfl, rfl, rfl⟩ := h.ends hL hF
    simp [folX, endX, hab, hf]
end
/-- an exchange that is done hears a piece -/
theorem done_hears {x : ExM} (d : DdV) (S : List Hd) (hd : x.dn = true) (ha : x.ag = true) (hq : 0 ≤ d.q ∧ d.q ≤ 4294967295) : hearM x d S = (x, if sameM x d = true then (if x.ld then 0 else 1) else 3) := by
  have hf : fitsM x d = false := by simp [fitsM, hd]
  have h0 : ¬ (d.q < 0 ∨ 4294967295 < d.q) := by omega
  unfold hearM
  rw [if_neg h0, if_neg (by rw [ha]; simp), hf]
  cases sameM x d <;> simp

end Go.Proofs.Ytfpjkeddcagfcaa
