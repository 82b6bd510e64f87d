/-
  The law FloodTwice: its walk.
-/
import Derived.Test.YtmjjmkdjjfmhhaaFlWakes
import Derived.Test.YtmjjmkdjjfmhhaaLsRef
import Derived.Test.YtmjjmkdjjfmhhaaFlTake
namespace Go.Proofs.Ytmjjmkdjjfmhhaa
open Go.RowKit

theorem orL_one (l : List Int) : orL (1 :: l) = 1 := rfl
theorem orL_neg (l : List Int) : orL (-1 :: l) = -1 := rfl
theorem newerI_self (h : Hd) : newerI h h = 0 := by
  have h1 : ∀ x : Int, cmpI x x = 0 := fun x => by unfold cmpI; simp
  have h2 : ∀ x : Int, youngI x x = 0 := fun x => by unfold youngI; simp [h1]
  unfold newerI
  rw [h1, h1, h1, h2]
  rfl
theorem newerI_more {a b : Hd} (h : b.seq < a.seq) : newerI a b = 1 := by
  have h1 : cmpI a.seq b.seq = 1 := by unfold cmpI; rw [if_neg (by omega), if_pos (by omega)]
  unfold newerI
  rw [h1]
  rfl
theorem newerI_less {a b : Hd} (h : a.seq < b.seq) : newerI a b = -1 := by
  have h1 : cmpI a.seq b.seq = -1 := by unfold cmpI; rw [if_pos (by omega)]
  unfold newerI
  rw [h1]
  rfl

theorem memC_len : ∀ {l : List Int} {last : Int}, last ≤ 15 → memC last l = true → (l.length : Int) + last ≤ 15
  | [], last, h, _ => by simpa using h
  | x :: l, last, _, hm => by
    unfold memC at hm
    rw [Bool.and_eq_true] at hm
    have hx := inB_iff.1 hm.1
    have := memC_len hx.2 hm.2
    simp only [List.length_cons]
    omega
theorem right_lens {h : Hd} {ka : Option Addr} {kc : Nat} {ls : List Lnk} {ma : Option Addr} {mc : Nat} {ms : List Int} (hr : rightB ⟨h, ka, kc, ls, ma, mc, ms⟩ = true) : ls.length ≤ 1000 ∧ ms.length ≤ 1000 ∧ headB h = true := by
  unfold rightB at hr
  rw [Bool.and_eq_true] at hr
  refine ⟨?_, ?_, hr.1⟩
  · have h2 := hr.2
    simp only at h2
    split at h2
    · simp only [linksB, Bool.and_eq_true, decide_eq_true_eq] at h2
      omega
    · simp only [Bool.and_eq_true, decide_eq_true_eq] at h2
      omega
  · have h2 := hr.2
    simp only at h2
    split at h2
    · simp only [Bool.and_eq_true, decide_eq_true_eq] at h2
      omega
    · simp only [membersB, Bool.and_eq_true, decide_eq_true_eq] at h2
      have := memC_len (by decide) h2.2.1
      omega
theorem right_next {y1 y2 y3 y4 y5 y6 y7 : Int} {a : Int} {ka : Option Addr} {kc : Nat} {ls : List Lnk} {ma : Option Addr} {mc : Nat} {ms : List Int} (hr : rightB ⟨⟨y1, y2, y3, y4, y5, y6, y7⟩, ka, kc, ls, ma, mc, ms⟩ = true) (ha : 0 ≤ a) (ha' : a ≤ 60) (hs : y5 ≠ 2147483647) :
    rightB ⟨⟨a, y2, y3, y4, y5 + 1, y6, y7⟩, ka, kc, ls, ma, mc, ms⟩ = true ∧ (0 ≤ y1 ∧ y1 ≤ 60) ∧ -2147483647 ≤ y5 ∧ y5 ≤ 2147483646 := by
  unfold rightB at hr ⊢
  rw [Bool.and_eq_true] at hr ⊢
  obtain ⟨h1, h2⟩ := hr
  simp only [headB, Bool.and_eq_true, inB_iff] at h1 ⊢
  have q5 : -2147483647 ≤ y5 + 1 ∧ y5 + 1 ≤ 2147483647 := by omega
  exact ⟨⟨⟨⟨⟨⟨ha, ha'⟩, h1.1.1.2⟩, h1.1.2⟩, q5⟩, h2⟩, h1.1.1.1, by omega, by omega⟩
structure FT (w W : World) (p b g : Nat) (M : List Lsa) (cx cn : Array Value) : Prop where
  bel : Below w.heap.size w W
  db : DbAt W p b 1 M
  x : Blk W w.heap.size 27 cx
  n : Blk W g 27 cn
  lo : w.heap.size ≤ b
section
variable {w W W' : World} {p b g : Nat} {M M' : List Lsa} {cx cn : Array Value}
theorem blk_nemap {κ : Type} {enc : κ → Value} {L : List (κ × Value)} {t : TypeId} {cs : Array Value} (hb : Blk W g t cs) (hm : MapAt enc W b L) : g ≠ b := by
  rintro rfl
  obtain ⟨es, clock, h1, -⟩ := hm
  unfold Blk at hb
  rw [h1] at hb
  cases hb
theorem FT.grown (h : FT w W p b g M cx cn) (hd : DbAt W' p b 1 M') (hg : W.grownBy W' (some b)) : FT w W' p b g M' cx cn :=
  ⟨h.bel.grown hg h.bel.size (fun k e => by injection e with e; subst e; exact h.lo), hd, h.x.grown hg (fun e => blk_nemap h.x h.db.map (by injection e)), h.n.grown hg (fun e => blk_nemap h.n h.db.map (by injection e)), h.lo⟩
theorem FT.below (h : FT w W p b g M cx cn) (hb : Below W.heap.size W W') : FT w W' p b g M cx cn :=
  ⟨below_trans h.bel h.bel.size hb, h.db.keep hb, h.x.below hb h.x.lt, h.n.below hb h.n.lt, h.lo⟩
end
set_option maxHeartbeats 8000000 in
set_option maxRecDepth 100000 in
theorem floodTwice_any (x : Lsa) (ag : Nat) (hag : ag ≤ 255) (w : World) (hx : x.ok w w.heap.size) :
    Calls Try.prog 3 #[.agg x.cells.toArray, .int .u8 (ag : Int)] w fun r w' => r = .returned (.bool true) ∧ Below w.heap.size w w' := by
  have hl := hx.links
  have hm := hx.members
  have hlm := hx.linksLen
  have hmm := hx.membersLen
  obtain ⟨⟨y1, y2, y3, y4, y5, y6, y7⟩, ka, kc, ls, ma, mc, ms⟩ := x
  unfold Lsa.cells
  simp only at hl hm hlm hmm ⊢
  obtain ⟨nl, hnl⟩ : ∃ nl, nl = ls.length := ⟨_, rfl⟩
  obtain ⟨nm, hnm⟩ : ∃ nm, nm = ms.length := ⟨_, rfl⟩
  rw [← hnl, ← hnm]
  clear hx
  obtain ⟨w1, hW1⟩ : ∃ w1, w.alloc (.cells #[.int .i64 y1, .int .i64 y2, .int .i64 y3, .int .i64 y4, .int .i64 y5, .int .i64 y6, .int .i64 y7, .slice ka nl kc, .slice ma nm mc] 27) = w1 := ⟨_, rfl⟩
  have hk1 := Blk.new w 27 #[.int .i64 y1, .int .i64 y2, .int .i64 y3, .int .i64 y4, .int .i64 y5, .int .i64 y6, .int .i64 y7, .slice ka nl kc, .slice ma nm mc]
  have hb1 := below_new w (.cells #[.int .i64 y1, .int .i64 y2, .int .i64 y3, .int .i64 y4, .int .i64 y5, .int .i64 y6, .int .i64 y7, .slice ka nl kc, .slice ma nm mc] 27)
  rw [hW1] at hk1 hb1
  obtain ⟨t, ht⟩ : ∃ t, rightB ⟨⟨y1, y2, y3, y4, y5, y6, y7⟩, ka, kc, ls, ma, mc, ms⟩ = t := ⟨_, rfl⟩
  have HR := Lib.hid (fun W (hW : Below w.heap.size w W) => refRight_any y1 y2 y3 y4 y5 y6 y7 ka kc ls ma mc ms W w.heap.size (hl.below hW) (hm.below hW) hW.size hlm hmm nl nm hnl hnm ht)
  have Hb1 := Lib.hid hb1
  have Hk1 := Lib.hid hk1
  have Hl := Lib.hid hl
  have Hm := Lib.hid hm
  have Hn := Lib.hid (show _ ∧ _ from ⟨hnl, hnm⟩)
  have Ht := Lib.hid ht
  clear hl hm hlm hmm hnl hnm ht hk1 hb1
  cases t with
  | false =>
    go_enter Try.func3, Try.ntmps3
    go_wp2_with (first
      | (go_at_call 14; (with_reducible refine Calls.mono (wakes18 _) ?_); rintro r w2 ⟨rfl, hb2⟩; obtain ⟨z0, z1, z2, z3, z4, z5, z6, z7, z8, zf⟩ := blk9 (Hk1.out.below hb2 Hk1.out.lt); have Hb2 := Lib.hid (below_trans Hb1.out Hb1.out.size hb2); clear hb2)
      | (go_at_call 15; (with_reducible refine Calls.mono (HR.out _ Hb2.out) ?_); rintro r w3 ⟨rfl, hb3⟩; have Hb3 := Lib.hid (below_trans Hb2.out Hb2.out.size hb3); clear hb3))
    go_ret
    exact ⟨rfl, Hb3.out⟩
  | true =>
    by_cases hseq : y5 = 2147483647
    · subst hseq
      go_enter Try.func3, Try.ntmps3
      go_wp2_with (first
        | (go_at_call 14; (with_reducible refine Calls.mono (wakes18 _) ?_); rintro r w2 ⟨rfl, hb2⟩; have Hk2 := Lib.hid (Hk1.out.below hb2 Hk1.out.lt); obtain ⟨z0, z1, z2, z3, z4, z5, z6, z7, z8, zf⟩ := blk9 Hk2.out; have Hb2 := Lib.hid (below_trans Hb1.out Hb1.out.size hb2); clear hb2)
        | (go_at_call 15; (with_reducible refine Calls.mono (HR.out _ Hb2.out) ?_); rintro r w3 ⟨rfl, hb3⟩; obtain ⟨q0, q1, q2, q3, q4, q5, q6, q7, q8, qf⟩ := blk9 (Hk2.out.below hb3 Hk2.out.lt); have Hb3 := Lib.hid (below_trans Hb2.out Hb2.out.size hb3); clear hb3))
      go_ret
      exact ⟨rfl, Hb3.out⟩
    · obtain ⟨hN, hy, hs0, hs1⟩ := right_next (a := (ag : Int) % 61) Ht.out (by omega) (by omega) hseq
      obtain ⟨hlen1, hlen2, -⟩ := right_lens Ht.out
      have hw64 : wrap64 (y5 + 1) = y5 + 1 := by unfold wrap64; omega
      have HN := Lib.hid hN
      have Hlen := Lib.hid (show _ ∧ _ from ⟨hlen1, hlen2⟩)
      have Hy := Lib.hid hy
      clear hN hlen1 hlen2 hy
      go_enter Try.func3, Try.ntmps3
      go_upto_region 8 with (first
        | (go_at_call 14; (with_reducible refine Calls.mono (wakes18 _) ?_); rintro r w2 ⟨rfl, hb2⟩; have Hk2 := Lib.hid (Hk1.out.below hb2 Hk1.out.lt); obtain ⟨z0, z1, z2, z3, z4, z5, z6, z7, z8, zf⟩ := blk9 Hk2.out; have Hb2 := Lib.hid (below_trans Hb1.out Hb1.out.size hb2); clear hb2)
        | (go_at_call 15; (with_reducible refine Calls.mono (HR.out _ Hb2.out) ?_); rintro r w3 ⟨rfl, hb3⟩; have Hk3 := Lib.hid (Hk2.out.below hb3 Hk2.out.lt); obtain ⟨q0, q1, q2, q3, q4, q5, q6, q7, q8, qf⟩ := blk9 Hk3.out; have Hb3 := Lib.hid (below_trans Hb2.out Hb2.out.size hb3); clear hb3)
        | (go_at_call 16; (with_reducible refine Calls.mono (DbNew 1 _) ?_); rintro r w4 ⟨rfl, hd4, hb4⟩; have Hd4 := Lib.hid hd4; have Hk4 := Lib.hid (Hk3.out.below hb4 Hk3.out.lt); obtain ⟨c0, c1, c2, c3, c4, c5, c6, c7, c8, cf⟩ := blk9 Hk4.out; have Hb4 := Lib.hid (below_trans Hb3.out Hb3.out.size hb4); obtain ⟨w5, hw5⟩ : ∃ w5, w4.alloc (.cells #[.int .i64 y1, .int .i64 y2, .int .i64 y3, .int .i64 y4, .int .i64 y5, .int .i64 y6, .int .i64 y7, .slice ka nl kc, .slice ma nm mc] 27) = w5 := ⟨_, rfl⟩; have hb5 := below_new w4 (.cells #[.int .i64 y1, .int .i64 y2, .int .i64 y3, .int .i64 y4, .int .i64 y5, .int .i64 y6, .int .i64 y7, .slice ka nl kc, .slice ma nm mc] 27); have hn5 := Blk.new w4 27 #[.int .i64 y1, .int .i64 y2, .int .i64 y3, .int .i64 y4, .int .i64 y5, .int .i64 y6, .int .i64 y7, .slice ka nl kc, .slice ma nm mc]; rw [hw5] at hb5 hn5; obtain ⟨d0, d1, d2, d3, d4, d5, d6, d7, d8, df⟩ := blk9 (Hk4.out.below hb5 Hk4.out.lt); obtain ⟨e0, e1, e2, e3, e4, e5, e6, e7, e8, ef⟩ := blk9 hn5; have Hb5 := Lib.hid hb5; have Hn5 := Lib.hid hn5; clear hb4 hd4 hb5 hn5))
      obtain ⟨w6, hw6⟩ : ∃ w6, ((w5.setCell ⟨w4.heap.size, 4, none⟩ (.int .i64 (y5 + 1))).setCell ⟨w4.heap.size, 0, none⟩ (.int .i64 ((ag : Int) % 61))) = w6 := ⟨_, rfl⟩
      have hn6 : Blk w6 w4.heap.size 27 #[.int .i64 ((ag : Int) % 61), .int .i64 y2, .int .i64 y3, .int .i64 y4, .int .i64 (y5 + 1), .int .i64 y6, .int .i64 y7, .slice ka nl kc, .slice ma nm mc] := by
        rw [← hw6]
        have := (Hn5.out.set_ 4 (.int .i64 (y5 + 1))).set_ 0 (.int .i64 ((ag : Int) % 61))
        simpa using this
      have hb6 : Below w4.heap.size w4 w6 := by rw [← hw6]; exact (Hb5.out.setCell (p := ⟨w4.heap.size, 4, none⟩) (Nat.le_refl _) _).setCell (p := ⟨w4.heap.size, 0, none⟩) (Nat.le_refl _) _
      have hft : FT w w6 (w3.heap.size + 1) w3.heap.size w4.heap.size [] #[.int .i64 y1, .int .i64 y2, .int .i64 y3, .int .i64 y4, .int .i64 y5, .int .i64 y6, .int .i64 y7, .slice ka nl kc, .slice ma nm mc] #[.int .i64 ((ag : Int) % 61), .int .i64 y2, .int .i64 y3, .int .i64 y4, .int .i64 (y5 + 1), .int .i64 y6, .int .i64 y7, .slice ka nl kc, .slice ma nm mc] := ⟨below_trans Hb4.out Hb4.out.size hb6, Hd4.out.keep hb6, Hk4.out.below hb6 Hk4.out.lt, hn6, Hb3.out.size⟩
      rw [hw6]
      have Hft := Lib.hid hft
      clear hft hn6 hb6 hw6 hw5 d0 d1 d2 d3 d4 d5 d6 d7 d8 df e0 e1 e2 e3 e4 e5 e6 e7 e8 ef c0 c1 c2 c3 c4 c5 c6 c7 c8 cf q0 q1 q2 q3 q4 q5 q6 q7 q8 qf z0 z1 z2 z3 z4 z5 z6 z7 z8 zf
      have Hft6 := Hft
      have HT1 := Lib.hid (Take_none (w3.heap.size + 1) w3.heap.size 1 [] y1 y2 y3 y4 y5 y6 y7 ka kc ls ma mc ms w6 Hft6.out.db ((Hl.out.below Hft6.out.bel).more Hft6.out.bel.size) ((Hm.out.below Hft6.out.bel).more Hft6.out.bel.size) Hlen.out.1 Hlen.out.2 nl nm Hn.out.1 Hn.out.2 Ht.out rfl (by decide))
      obtain ⟨x0, x1, x2, x3, x4, x5, x6, x7, x8, xf⟩ := blk9 Hft6.out.x; obtain ⟨n0, n1, n2, n3, n4, n5, n6, n7, n8, nf⟩ := blk9 Hft6.out.n
      go_wp2_with (first
        | (go_at_call 17; (with_reducible refine Calls.mono HT1.out ?_); rintro r w7 ⟨rfl, ⟨A1, Ac1, A2, Ac2, hd7⟩, hg7⟩; have Hft7 := Lib.hid (Hft6.out.grown (M' := [(⟨sealedH ⟨y1, y2, y3, y4, y5, y6, y7⟩ ls ms, A1, Ac1, ls, A2, Ac2, ms⟩ : Lsa)]) hd7 hg7); clear hd7 hg7; obtain ⟨x0, x1, x2, x3, x4, x5, x6, x7, x8, xf⟩ := blk9 Hft7.out.x; obtain ⟨n0, n1, n2, n3, n4, n5, n6, n7, n8, nf⟩ := blk9 Hft7.out.n;
            have HT2 := Lib.hid (Take_same (w3.heap.size + 1) w3.heap.size 1 [(⟨sealedH ⟨y1, y2, y3, y4, y5, y6, y7⟩ ls ms, A1, Ac1, ls, A2, Ac2, ms⟩ : Lsa)] y1 y2 y3 y4 y5 y6 y7 ka kc ls ma mc ms w7 Hft7.out.db ((Hl.out.below Hft7.out.bel).more Hft7.out.bel.size) ((Hm.out.below Hft7.out.bel).more Hft7.out.bel.size) Hlen.out.1 Hlen.out.2 nl nm Hn.out.1 Hn.out.2 Ht.out (h1 := y1) (h2 := y2) (h3 := y3) (h4 := y4) (h5 := y5) (h6 := (sealedH ⟨y1, y2, y3, y4, y5, y6, y7⟩ ls ms).sum) (h7 := (sealedH ⟨y1, y2, y3, y4, y5, y6, y7⟩ ls ms).long) (xa := A1) (xc := Ac1) (xs := ls) (va := A2) (vc := Ac2) (vs := ms) (if_pos rfl) Hy.out.1 Hy.out.2 Hy.out.1 Hy.out.2 (newerI_self _) rfl false))
        | (go_at_call 17; (with_reducible refine Calls.mono HT2.out ?_); rintro r w8 ⟨rfl, hb8⟩; have Hft8 := Lib.hid (Hft7.out.below hb8); clear hb8; obtain ⟨x0, x1, x2, x3, x4, x5, x6, x7, x8, xf⟩ := blk9 Hft8.out.x; obtain ⟨n0, n1, n2, n3, n4, n5, n6, n7, n8, nf⟩ := blk9 Hft8.out.n;
            have HT3 := Lib.hid (Take_new (w3.heap.size + 1) w3.heap.size 1 [(⟨sealedH ⟨y1, y2, y3, y4, y5, y6, y7⟩ ls ms, A1, Ac1, ls, A2, Ac2, ms⟩ : Lsa)] ((ag : Int) % 61) y2 y3 y4 (y5 + 1) y6 y7 ka kc ls ma mc ms w8 Hft8.out.db ((Hl.out.below Hft8.out.bel).more Hft8.out.bel.size) ((Hm.out.below Hft8.out.bel).more Hft8.out.bel.size) Hlen.out.1 Hlen.out.2 nl nm Hn.out.1 Hn.out.2 HN.out (h1 := y1) (h2 := y2) (h3 := y3) (h4 := y4) (h5 := y5) (h6 := (sealedH ⟨y1, y2, y3, y4, y5, y6, y7⟩ ls ms).sum) (h7 := (sealedH ⟨y1, y2, y3, y4, y5, y6, y7⟩ ls ms).long) (xa := A1) (xc := Ac1) (xs := ls) (va := A2) (vc := Ac2) (vs := ms) (if_pos rfl) (show 0 ≤ (ag : Int) % 61 by omega) (show (ag : Int) % 61 ≤ 60 by omega) Hy.out.1 Hy.out.2 (newerI_more (show y5 < y5 + 1 by omega)) (by decide) false))
        | (go_at_call 17; (with_reducible refine Calls.mono HT3.out ?_); rintro r w9 ⟨rfl, ⟨B1, Bc1, B2, Bc2, hd9⟩, hg9⟩; have Hft9 := Lib.hid (Hft8.out.grown (M' := [(⟨sealedH ⟨(ag : Int) % 61, y2, y3, y4, y5 + 1, y6, y7⟩ ls ms, B1, Bc1, ls, B2, Bc2, ms⟩ : Lsa)]) (by rw [show setX (⟨sealedH ⟨(ag : Int) % 61, y2, y3, y4, y5 + 1, y6, y7⟩ ls ms, B1, Bc1, ls, B2, Bc2, ms⟩ : Lsa) [(⟨sealedH ⟨y1, y2, y3, y4, y5, y6, y7⟩ ls ms, A1, Ac1, ls, A2, Ac2, ms⟩ : Lsa)] = [(⟨sealedH ⟨(ag : Int) % 61, y2, y3, y4, y5 + 1, y6, y7⟩ ls ms, B1, Bc1, ls, B2, Bc2, ms⟩ : Lsa)] from if_pos rfl] at hd9; exact hd9) hg9); clear hd9 hg9; obtain ⟨x0, x1, x2, x3, x4, x5, x6, x7, x8, xf⟩ := blk9 Hft9.out.x; obtain ⟨n0, n1, n2, n3, n4, n5, n6, n7, n8, nf⟩ := blk9 Hft9.out.n;
            have HT4 := Lib.hid (Take_old (w3.heap.size + 1) w3.heap.size 1 [(⟨sealedH ⟨(ag : Int) % 61, y2, y3, y4, y5 + 1, y6, y7⟩ ls ms, B1, Bc1, ls, B2, Bc2, ms⟩ : Lsa)] y1 y2 y3 y4 y5 y6 y7 ka kc ls ma mc ms w9 Hft9.out.db ((Hl.out.below Hft9.out.bel).more Hft9.out.bel.size) ((Hm.out.below Hft9.out.bel).more Hft9.out.bel.size) Hlen.out.1 Hlen.out.2 nl nm Hn.out.1 Hn.out.2 Ht.out (h1 := ((ag : Int) % 61)) (h2 := y2) (h3 := y3) (h4 := y4) (h5 := (y5 + 1)) (h6 := (sealedH ⟨(ag : Int) % 61, y2, y3, y4, y5 + 1, y6, y7⟩ ls ms).sum) (h7 := (sealedH ⟨(ag : Int) % 61, y2, y3, y4, y5 + 1, y6, y7⟩ ls ms).long) (xa := B1) (xc := Bc1) (xs := ls) (va := B2) (vc := Bc2) (vs := ms) (if_pos rfl) Hy.out.1 Hy.out.2 (show 0 ≤ (ag : Int) % 61 by omega) (show (ag : Int) % 61 ≤ 60 by omega) (newerI_less (show y5 < y5 + 1 by omega)) (by decide) false))
        | (go_at_call 17; (with_reducible refine Calls.mono HT4.out ?_); rintro r w10 ⟨rfl, hb10⟩; have Hft10 := Lib.hid (Hft9.out.below hb10); clear hb10; obtain ⟨x0, x1, x2, x3, x4, x5, x6, x7, x8, xf⟩ := blk9 Hft10.out.x; obtain ⟨n0, n1, n2, n3, n4, n5, n6, n7, n8, nf⟩ := blk9 Hft10.out.n;
            have HT5 := Lib.hid (Take_same (w3.heap.size + 1) w3.heap.size 1 [(⟨sealedH ⟨(ag : Int) % 61, y2, y3, y4, y5 + 1, y6, y7⟩ ls ms, B1, Bc1, ls, B2, Bc2, ms⟩ : Lsa)] ((ag : Int) % 61) y2 y3 y4 (y5 + 1) y6 y7 ka kc ls ma mc ms w10 Hft10.out.db ((Hl.out.below Hft10.out.bel).more Hft10.out.bel.size) ((Hm.out.below Hft10.out.bel).more Hft10.out.bel.size) Hlen.out.1 Hlen.out.2 nl nm Hn.out.1 Hn.out.2 HN.out (h1 := ((ag : Int) % 61)) (h2 := y2) (h3 := y3) (h4 := y4) (h5 := (y5 + 1)) (h6 := (sealedH ⟨(ag : Int) % 61, y2, y3, y4, y5 + 1, y6, y7⟩ ls ms).sum) (h7 := (sealedH ⟨(ag : Int) % 61, y2, y3, y4, y5 + 1, y6, y7⟩ ls ms).long) (xa := B1) (xc := Bc1) (xs := ls) (va := B2) (vc := Bc2) (vs := ms) (if_pos rfl) (show 0 ≤ (ag : Int) % 61 by omega) (show (ag : Int) % 61 ≤ 60 by omega) (show 0 ≤ (ag : Int) % 61 by omega) (show (ag : Int) % 61 ≤ 60 by omega) (newerI_self _) rfl false))
        | (go_at_call 17; (with_reducible refine Calls.mono HT5.out ?_); rintro r w11 ⟨rfl, hb11⟩; have Hft11 := Lib.hid (Hft10.out.below hb11); clear hb11;
            have HL := Lib.hid (DbLen (w3.heap.size + 1) w3.heap.size 1 [(⟨sealedH ⟨(ag : Int) % 61, y2, y3, y4, y5 + 1, y6, y7⟩ ls ms, B1, Bc1, ls, B2, Bc2, ms⟩ : Lsa)] w11 Hft11.out.db))
        | (go_at_call 18; (with_reducible refine Calls.mono HL.out ?_); rintro r w12 ⟨rfl, rfl⟩)
        | fail)
      go_ret
      exact ⟨rfl, Hft11.out.bel⟩

end Go.Proofs.Ytmjjmkdjjfmhhaa
