/-
  Layer 18: what a database makes of a description: the document's word.
-/
import Derived.Test.YtmjjmkdjjfmhhaaRdPut
import Derived.Test.YtmjjmkdjjfmhhaaLsCmp
import Derived.Test.YtmjjmkdjjfmhhaaFlTake
import Derived.Test.YtmjjmkdjjfmhhaaFlKeys
namespace Go.Proofs.Ytmjjmkdjjfmhhaa
open Go.RowKit Go.Sort

theorem set_flatX (l : List Lsa) (k : Nat) (c : Lsa) (hk : k < l.length) :
    (l.set k c).flatMap Lsa.cells = (((((((((l.flatMap Lsa.cells).set (k * 9) (.int .i64 c.head.age)).set (k * 9 + 1) (.int .i64 c.head.kind)).set (k * 9 + 2) (.int .i64 c.head.id)).set (k * 9 + 3) (.int .i64 c.head.adv)).set (k * 9 + 4) (.int .i64 c.head.seq)).set (k * 9 + 5) (.int .i64 c.head.sum)).set (k * 9 + 6) (.int .i64 c.head.long)).set (k * 9 + 7) (.slice c.ka c.links.length c.kcap)).set (k * 9 + 8) (.slice c.ma c.members.length c.mcap) := by
  induction l generalizing k with
  | nil => simp at hk
  | cons d l ih =>
    cases k with
    | zero => simp [Lsa.cells]
    | succ k =>
      have h := ih k (by simpa using hk)
      simp only [List.set_cons_succ, List.flatMap_cons, h]
      have h4 : d.cells.length = 9 := rfl
      rw [List.set_append_right _ _ (by omega), List.set_append_right _ _ (by omega), List.set_append_right _ _ (by omega), List.set_append_right _ _ (by omega), List.set_append_right _ _ (by omega), List.set_append_right _ _ (by omega), List.set_append_right _ _ (by omega), List.set_append_right _ _ (by omega), List.set_append_right _ _ (by omega)]
      simp only [h4, show (k + 1) * 9 - 9 = k * 9 by omega, show (k + 1) * 9 + 1 - 9 = k * 9 + 1 by omega, show (k + 1) * 9 + 2 - 9 = k * 9 + 2 by omega, show (k + 1) * 9 + 3 - 9 = k * 9 + 3 by omega, show (k + 1) * 9 + 4 - 9 = k * 9 + 4 by omega, show (k + 1) * 9 + 5 - 9 = k * 9 + 5 by omega, show (k + 1) * 9 + 6 - 9 = k * 9 + 6 by omega, show (k + 1) * 9 + 7 - 9 = k * 9 + 7 by omega, show (k + 1) * 9 + 8 - 9 = k * 9 + 8 by omega]
section
variable {w : World} {B g cap n : Nat} {l : List Lsa}
theorem OwnX.set9 (h : OwnR 27 9 Lsa.cells w B (.slice (some ⟨g, 0, none⟩) n cap) l) (hn : n = l.length) (k : Nat) (hk : k < l.length) (c : Lsa) :
    OwnR 27 9 Lsa.cells ((((((((((w).setCell ⟨g, k * 9, none⟩ (.int .i64 c.head.age)).setCell ⟨g, k * 9 + 1, none⟩ (.int .i64 c.head.kind)).setCell ⟨g, k * 9 + 2, none⟩ (.int .i64 c.head.id)).setCell ⟨g, k * 9 + 3, none⟩ (.int .i64 c.head.adv)).setCell ⟨g, k * 9 + 4, none⟩ (.int .i64 c.head.seq)).setCell ⟨g, k * 9 + 5, none⟩ (.int .i64 c.head.sum)).setCell ⟨g, k * 9 + 6, none⟩ (.int .i64 c.head.long)).setCell ⟨g, k * 9 + 7, none⟩ (.slice c.ka c.links.length c.kcap)).setCell ⟨g, k * 9 + 8, none⟩ (.slice c.ma c.members.length c.mcap)) B (.slice (some ⟨g, 0, none⟩) n cap) (l.set k c) := by
  subst hn
  unfold OwnR
  rw [set_flatX l k c hk, List.length_set]
  exact (World.ownsRow.stored ((World.ownsRow.stored ((World.ownsRow.stored ((World.ownsRow.stored ((World.ownsRow.stored ((World.ownsRow.stored ((World.ownsRow.stored ((World.ownsRow.stored ((World.ownsRow.stored (h) (k * 9) (.int .i64 c.head.age)).1) (k * 9 + 1) (.int .i64 c.head.kind)).1) (k * 9 + 2) (.int .i64 c.head.id)).1) (k * 9 + 3) (.int .i64 c.head.adv)).1) (k * 9 + 4) (.int .i64 c.head.seq)).1) (k * 9 + 5) (.int .i64 c.head.sum)).1) (k * 9 + 6) (.int .i64 c.head.long)).1) (k * 9 + 7) (.slice c.ka c.links.length c.kcap)).1) (k * 9 + 8) (.slice c.ma c.members.length c.mcap)).1
theorem OwnX.frozen (h : OwnR 27 9 Lsa.cells w B (.slice (some ⟨g, 0, none⟩) n cap) l) (i : Nat) : w.frozen? ⟨g, i, none⟩ = false := by
  rcases h.2 with ⟨hv, -⟩ | ⟨g', cap', cur, hv, -, hg, -⟩
  · cases hv
  · injection hv with hA hn hc
    injection hA with hA
    injection hA with hA
    subst hA
    simp [World.frozen?, hg]
theorem grown9 (k : Nat) (c : Lsa) : w.grownBy ((((((((((w).setCell ⟨g, k * 9, none⟩ (.int .i64 c.head.age)).setCell ⟨g, k * 9 + 1, none⟩ (.int .i64 c.head.kind)).setCell ⟨g, k * 9 + 2, none⟩ (.int .i64 c.head.id)).setCell ⟨g, k * 9 + 3, none⟩ (.int .i64 c.head.adv)).setCell ⟨g, k * 9 + 4, none⟩ (.int .i64 c.head.seq)).setCell ⟨g, k * 9 + 5, none⟩ (.int .i64 c.head.sum)).setCell ⟨g, k * 9 + 6, none⟩ (.int .i64 c.head.long)).setCell ⟨g, k * 9 + 7, none⟩ (.slice c.ka c.links.length c.kcap)).setCell ⟨g, k * 9 + 8, none⟩ (.slice c.ma c.members.length c.mcap)) (some g) := ((((((((((World.grownBy.refl w (some g)).set rfl _).set rfl _).set rfl _).set rfl _).set rfl _).set rfl _).set rfl _).set rfl _).set rfl _)
theorem XsAt.set9 (h : XsAt w B (.slice (some ⟨g, 0, none⟩) n cap) l) (hn : n = l.length) (k : Nat) (hk : k < l.length) (c : Lsa) (hr : rowsX w c) (hf : farX (.slice (some ⟨g, 0, none⟩) n cap) c) (hB : fromX B c) (hl : c.links.length ≤ 1000 ∧ c.members.length ≤ 1000) :
    XsAt ((((((((((w).setCell ⟨g, k * 9, none⟩ (.int .i64 c.head.age)).setCell ⟨g, k * 9 + 1, none⟩ (.int .i64 c.head.kind)).setCell ⟨g, k * 9 + 2, none⟩ (.int .i64 c.head.id)).setCell ⟨g, k * 9 + 3, none⟩ (.int .i64 c.head.adv)).setCell ⟨g, k * 9 + 4, none⟩ (.int .i64 c.head.seq)).setCell ⟨g, k * 9 + 5, none⟩ (.int .i64 c.head.sum)).setCell ⟨g, k * 9 + 6, none⟩ (.int .i64 c.head.long)).setCell ⟨g, k * 9 + 7, none⟩ (.slice c.ka c.links.length c.kcap)).setCell ⟨g, k * 9 + 8, none⟩ (.slice c.ma c.members.length c.mcap)) B (.slice (some ⟨g, 0, none⟩) n cap) (l.set k c) := by
  have hg := grown9 (w := w) (g := g) k c
  have hgr : ∀ x, rowsX w x → farX (.slice (some ⟨g, 0, none⟩) n cap) x → rowsX ((((((((((w).setCell ⟨g, k * 9, none⟩ (.int .i64 c.head.age)).setCell ⟨g, k * 9 + 1, none⟩ (.int .i64 c.head.kind)).setCell ⟨g, k * 9 + 2, none⟩ (.int .i64 c.head.id)).setCell ⟨g, k * 9 + 3, none⟩ (.int .i64 c.head.adv)).setCell ⟨g, k * 9 + 4, none⟩ (.int .i64 c.head.seq)).setCell ⟨g, k * 9 + 5, none⟩ (.int .i64 c.head.sum)).setCell ⟨g, k * 9 + 6, none⟩ (.int .i64 c.head.long)).setCell ⟨g, k * 9 + 7, none⟩ (.slice c.ka c.links.length c.kcap)).setCell ⟨g, k * 9 + 8, none⟩ (.slice c.ma c.members.length c.mcap)) x := fun x h1 h2 => h1.grown hg (fun a ha => ha.elim (fun e => h2.1 a e.1 e.2) (fun e => h2.2 a e.1 e.2))
  have hin : ∀ x ∈ l.set k c, x ∈ l ∨ x = c := fun x hx => List.mem_or_eq_of_mem_set hx
  refine ⟨OwnX.set9 h.own hn k hk c, fun x hx => ?_, fun x hx => ?_, fun x hx => ?_, fun x hx => ?_⟩
  · rcases hin x hx with hx | rfl
    · exact hgr x (h.rows x hx) (h.far x hx)
    · exact hgr x hr hf
  · rcases hin x hx with hx | rfl
    · exact h.far x hx
    · exact hf
  · rcases hin x hx with hx | rfl
    · exact h.from_ x hx
    · exact hB
  · rcases hin x hx with hx | rfl
    · exact h.lens x hx
    · exact hl
end
/-- what the document makes of a description -/
def takeR (room : Int) (L : List Lsa) (x : Lsa) (busy : Bool) : Int :=
  if rightB x = true then
    match getX (keyX x) L with
    | none => if x.head.age = 60 ∧ busy = false then 1 else if room ≤ (L.length : Int) then 0 else 2
    | some y => if 0 < newerI (sealedH x.head x.links x.members) y.head then 2 else if newerI (sealedH x.head x.links x.members) y.head = 0 then 3 else 4
  else 0
/-- .. and what it has behind it -/
def TookR (L : List Lsa) (x : Lsa) (n : Int) (L' : List Lsa) : Prop :=
  (n = 2 ∧ ∃ z, vX z = sealV x ∧ ((getX (keyX x) L = none ∧ L' = insX z (dropX (keyX x) L)) ∨ ∃ j, ∃ _ : j < L.length, findX (keyX x) L = j ∧ L' = L.set j z)) ∨ (n ≠ 2 ∧ L' = L)
def RefPost (w w' : World) (q : Nat) (room : Int) (v : Value) (L : List Lsa) (x : Lsa) (n : Int) : Prop :=
  ∃ v' L', TookR L x n L' ∧ RdAt w' q room v' L' ∧ (w.grownBy w' (some q) ∨ w.grownBy w' v.ownBlock) ∧ (v'.ownBlock = v.ownBlock ∨ ∀ m, v'.ownBlock = some m → w.heap.size ≤ m)
theorem RefPost.same {w w' : World} {q : Nat} {room : Int} {v : Value} {L : List Lsa} {x : Lsa} {n : Int} (h : RdAt w q room v L) (hb : Below w.heap.size w w') (hn : n ≠ 2) : RefPost w w' q room v L x n :=
  ⟨v, L, .inr ⟨hn, rfl⟩, h.keep hb, .inl (grown_below (World.grownBy.refl w (some q)) hb), .inl rfl⟩

set_option maxHeartbeats 4000000 in
set_option maxRecDepth 100000 in
theorem refTake_any (q : Nat) (room : Int) (v : Value) (L : List Lsa) (y1 y2 y3 y4 y5 y6 y7 : Int) (ka : Option Addr) (kc : Nat) (ls : List Lnk) (ma : Option Addr) (mc : Nat) (ms : List Int) (w : World) (hR : RdAt w q room v L) (B : Nat) (hBq : B ≤ q) (hl : RowsAt 4 Lnk.cells w B ka ls) (hm : RowsAt 1 icell w B ma ms) (hlm : ls.length ≤ 1000) (hmm : ms.length ≤ 1000) (nl nm : Nat) (hnl : nl = ls.length) (hnm : nm = ms.length) (hlen : L.length ≤ 2 ^ 20) (hs : sortedX L) (hages : agesX L) (busy : Bool) {n : Int} (hn : takeR room L ⟨⟨y1, y2, y3, y4, y5, y6, y7⟩, ka, kc, ls, ma, mc, ms⟩ busy = n) :
    Calls Try.prog 25 #[.pointer (some ⟨q, 0, none⟩), .agg #[.int .i64 y1, .int .i64 y2, .int .i64 y3, .int .i64 y4, .int .i64 y5, .int .i64 y6, .int .i64 y7, .slice ka nl kc, .slice ma nm mc], .bool busy] w fun r w' => r = .returned (.int .i64 n) ∧ RefPost w w' q room v L ⟨⟨y1, y2, y3, y4, y5, y6, y7⟩, ka, kc, ls, ma, mc, ms⟩ n := by
  obtain ⟨A, cap, hv⟩ := hR.xs.own.shape
  subst hv
  obtain ⟨w1, hW1⟩ : ∃ w1, w.alloc (.cells #[.int .i64 y1, .int .i64 y2, .int .i64 y3, .int .i64 y4, .int .i64 y5, .int .i64 y6, .int .i64 y7, .slice ka nl kc, .slice ma nm mc] 27) = w1 := ⟨_, rfl⟩
  have hk1 := Blk.new w 27 #[.int .i64 y1, .int .i64 y2, .int .i64 y3, .int .i64 y4, .int .i64 y5, .int .i64 y6, .int .i64 y7, .slice ka nl kc, .slice ma nm mc]
  have hb1 := below_new w (.cells #[.int .i64 y1, .int .i64 y2, .int .i64 y3, .int .i64 y4, .int .i64 y5, .int .i64 y6, .int .i64 y7, .slice ka nl kc, .slice ma nm mc] 27)
  rw [hW1] at hk1 hb1
  have hgq : q < w.heap.size := hR.ptr.lt
  obtain ⟨t, ht⟩ : ∃ t, rightB ⟨⟨y1, y2, y3, y4, y5, y6, y7⟩, ka, kc, ls, ma, mc, ms⟩ = t := ⟨_, rfl⟩
  have hRow : ∀ W, Below w.heap.size w W → RowsAt 4 Lnk.cells W B ka ls ∧ RowsAt 1 icell W B ma ms ∧ B ≤ W.heap.size := fun W hW => ⟨hl.below (hW.mono (by omega)), hm.below (hW.mono (by omega)), by have := hW.size; omega⟩
  have HRi := Lib.hid (refRight_any y1 y2 y3 y4 y5 y6 y7 ka kc ls ma mc ms w1 B (hRow w1 hb1).1 (hRow w1 hb1).2.1 (hRow w1 hb1).2.2 (by unfold maxLen; omega) (by unfold maxLen; omega) nl nm hnl hnm ht)
  obtain ⟨z0, z1, z2, z3, z4, z5, z6, z7, z8, zf⟩ := blk9 hk1
  have HRow := Lib.hid hRow
  have HR := Lib.hid hR
  have Hb1 := Lib.hid hb1
  have Hk1 := Lib.hid hk1
  have Hn := Lib.hid (show nl = ls.length ∧ nm = ms.length ∧ ls.length ≤ 1000 ∧ ms.length ≤ 1000 from ⟨hnl, hnm, hlm, hmm⟩)
  have Hs := Lib.hid hs
  have Hages := Lib.hid hages
  have Htk := Lib.hid hn
  have Ht := Lib.hid ht
  clear hR hb1 hk1 hl hm hnl hnm hlm hmm ht hs hages hn hRow
  go_enter Try.func25, Try.ntmps25
  go_wp2_with fail
  with_reducible refine Calls.mono HRi.out ?_
  rintro r w2 ⟨rfl, hb2⟩
  have Hb2 := Lib.hid (below_trans Hb1.out Hb1.out.size hb2)
  have Hk2 := Lib.hid (Hk1.out.below hb2 Hk1.out.lt)
  clear hb2 z0 z1 z2 z3 z4 z5 z6 z7 z8 zf HRi
  obtain ⟨z0, z1, z2, z3, z4, z5, z6, z7, z8, zf⟩ := blk9 Hk2.out
  cases t with
  | false =>
    go_wp2
    go_ret
    have h0 : (0 : Int) = n := by rw [← Htk.out]; unfold takeR; rw [if_neg (by rw [Ht.out]; decide)]
    subst h0
    exact ⟨rfl, RefPost.same HR.out Hb2.out (by decide)⟩
  | true =>
    obtain ⟨s1, hs1⟩ : ∃ s1, (sealedH ⟨y1, y2, y3, y4, y5, y6, y7⟩ ls ms).sum = s1 := ⟨_, rfl⟩
    obtain ⟨s2, hs2⟩ : ∃ s2, (sealedH ⟨y1, y2, y3, y4, y5, y6, y7⟩ ls ms).long = s2 := ⟨_, rfl⟩
    have hseal : sealedH ⟨y1, y2, y3, y4, y5, y6, y7⟩ ls ms = ⟨y1, y2, y3, y4, y5, s1, s2⟩ := by rw [← hs1, ← hs2]; simp only [sealedH]
    have Hseal := Lib.hid hseal
    have hage := right_age Ht.out
    simp only at hage
    have Hage := Lib.hid hage
    have HS := Lib.hid (refSealed_any y1 y2 y3 y4 y5 y6 y7 ka kc ls ma mc ms w2 B (HRow.out w2 Hb2.out).1 (HRow.out w2 Hb2.out).2.1 (HRow.out w2 Hb2.out).2.2 Hn.out.2.2.1 Hn.out.2.2.2 nl nm Hn.out.1 Hn.out.2.1 (right_head Ht.out).2.2.1 hs1 hs2)
    clear hs1 hs2 hseal hage
    go_wp2_with fail
    with_reducible refine Calls.mono HS.out ?_
    rintro r w3 ⟨Ca, ec, Cb, ed, rfl, oa, ob, hb3⟩
    have hb3' := below_trans Hb2.out Hb2.out.size hb3
    have HZ := Lib.hid (seal_el (q := q) (HR.out.keep Hb2.out).xs.own (by have := Hb2.out.size; omega) Hn.out.1 Hn.out.2.1 Hn.out.2.2.1 Hn.out.2.2.2 oa ob (h := ⟨y1, y2, y3, y4, y5, s1, s2⟩))
    obtain ⟨w4, hW4⟩ : ∃ w4, w3.alloc (.cells #[.int .i64 y1, .int .i64 y2, .int .i64 y3, .int .i64 y4, .int .i64 y5, .int .i64 s1, .int .i64 s2, .slice Ca nl ec, .slice Cb nm ed] 27) = w4 := ⟨_, rfl⟩
    have hk4 := Blk.new w3 27 #[.int .i64 y1, .int .i64 y2, .int .i64 y3, .int .i64 y4, .int .i64 y5, .int .i64 s1, .int .i64 s2, .slice Ca nl ec, .slice Cb nm ed]
    have hb4 := below_new w3 (.cells #[.int .i64 y1, .int .i64 y2, .int .i64 y3, .int .i64 y4, .int .i64 y5, .int .i64 s1, .int .i64 s2, .slice Ca nl ec, .slice Cb nm ed] 27)
    rw [hW4] at hk4 hb4
    have Hk4 := Lib.hid hk4
    have Hj4 := Lib.hid ((Hk2.out.below hb3 Hk2.out.lt).below hb4 (Nat.lt_of_lt_of_le Hk2.out.lt hb3.size))
    have HZ4 := Lib.hid (show rowsX w4 ⟨⟨y1, y2, y3, y4, y5, s1, s2⟩, Ca, ec, ls, Cb, ed, ms⟩ ∧ farX (.slice A L.length cap) ⟨⟨y1, y2, y3, y4, y5, s1, s2⟩, Ca, ec, ls, Cb, ed, ms⟩ ∧ fromX (q + 1) ⟨⟨y1, y2, y3, y4, y5, s1, s2⟩, Ca, ec, ls, Cb, ed, ms⟩ ∧ (ls.length ≤ 1000 ∧ ms.length ≤ 1000) from ⟨HZ.out.1.keep hb4, HZ.out.2⟩)
    have Hb4 := Lib.hid (below_trans hb3' hb3'.size hb4)
    clear hb3 hb3' hb4 hk4 oa ob z0 z1 z2 z3 z4 z5 z6 z7 z8 zf HZ HS
    obtain ⟨z0, z1, z2, z3, z4, z5, z6, z7, z8, zf⟩ := blk9 Hj4.out
    go_wp2_with fail
    with_reducible refine Calls.mono (key_any _ _ _ _ _ _ _ _) ?_
    rintro r w5 ⟨rfl, hb5⟩
    have Hb5 := Lib.hid (below_trans Hb4.out Hb4.out.size hb5)
    have Hk5 := Lib.hid (Hk4.out.below hb5 Hk4.out.lt)
    have Hj5 := Lib.hid (Hj4.out.below hb5 Hj4.out.lt)
    have HZ5 := Lib.hid (show rowsX w5 ⟨⟨y1, y2, y3, y4, y5, s1, s2⟩, Ca, ec, ls, Cb, ed, ms⟩ ∧ _ from ⟨HZ4.out.1.keep hb5, HZ4.out.2⟩)
    obtain ⟨z, hz⟩ : ∃ z, findX ⟨y2, y3, y4⟩ L = z := ⟨_, rfl⟩
    have HF := Lib.hid (rdFind q room _ L y2 y3 y4 w5 (HR.out.keep Hb5.out) hlen hz)
    have Hz := Lib.hid hz
    clear hb5 hz z0 z1 z2 z3 z4 z5 z6 z7 z8 zf
    go_wp2_with fail
    with_reducible refine Calls.mono HF.out ?_
    rintro r w6 ⟨rfl, hb6⟩
    have Hb6 := Lib.hid (below_trans Hb5.out Hb5.out.size hb6)
    have Hk6 := Lib.hid (Hk5.out.below hb6 Hk5.out.lt)
    have Hj6 := Lib.hid (Hj5.out.below hb6 Hj5.out.lt)
    have HZ6 := Lib.hid (show rowsX w6 ⟨⟨y1, y2, y3, y4, y5, s1, s2⟩, Ca, ec, ls, Cb, ed, ms⟩ ∧ _ from ⟨HZ5.out.1.keep hb6, HZ5.out.2⟩)
    have HR6 := Lib.hid (HR.out.keep Hb6.out)
    clear hb6
    obtain ⟨z0, z1, z2, z3, z4, z5, z6, z7, z8, zf⟩ := blk9 Hj6.out
    rcases findX_get (k := ⟨y2, y3, y4⟩) (L := L) with ⟨h1, h2, h3⟩ | ⟨j, hj, h1, h2, h3, -⟩
    · have hzn : z < 0 := by rw [← Hz.out]; exact h1
      have hd0 : decide (z < 0) = true := decide_eq_true hzn
      have htk : (if y1 = 60 ∧ busy = false then 1 else if room ≤ (L.length : Int) then 0 else 2) = n := by
        rw [← Htk.out]
        unfold takeR
        rw [if_pos Ht.out, show getX (keyX ⟨⟨y1, y2, y3, y4, y5, y6, y7⟩, ka, kc, ls, ma, mc, ms⟩) L = none from h2]
      have Hnone := Lib.hid h2
      have Hdrop := Lib.hid h3
      have Hzn := Lib.hid hzn
      have HPf := Lib.hid (fun (hr : room ≤ (L.length : Int)) => rdPut_full q room _ L y1 y2 y3 y4 y5 y6 y7 ka kc ls ma mc ms w6 HR6.out ((HRow.out w6 Hb6.out).1.more (HRow.out w6 Hb6.out).2.2) ((HRow.out w6 Hb6.out).2.1.more (HRow.out w6 Hb6.out).2.2) Hn.out.2.2.1 Hn.out.2.2.2 nl nm Hn.out.1 Hn.out.2.1 Ht.out hlen z Hz.out Hzn.out hr)
      have HPo := Lib.hid (fun (hr : ¬ room ≤ (L.length : Int)) => rdPut_ok q room _ L y1 y2 y3 y4 y5 y6 y7 ka kc ls ma mc ms w6 HR6.out B hBq (HRow.out w6 Hb6.out).1 (HRow.out w6 Hb6.out).2.1 Hn.out.2.2.1 Hn.out.2.2.2 nl nm Hn.out.1 Hn.out.2.1 Ht.out hlen Hs.out z Hz.out (.inr (by omega)))
      clear h1 h2 h3 hzn
      have hcs : (y1 = 60 ∧ busy = false) ∨ (y1 = 60 ∧ busy = true) ∨ (y1 ≠ 60 ∧ busy = false) ∨ (y1 ≠ 60 ∧ busy = true) := by
        by_cases h : y1 = 60 <;> cases busy <;> simp [h]
      by_cases hroom : room ≤ (L.length : Int)
      · have HP := Lib.hid (HPf.out hroom)
        clear HPf HPo
        rcases hcs with ⟨h60, hbz⟩ | ⟨h60, hbz⟩ | ⟨h60, hbz⟩ | ⟨h60, hbz⟩
        · subst hbz
          rw [if_pos ⟨h60, rfl⟩] at htk
          subst htk
          subst h60
          clear hroom
          go_wp2
          go_ret
          exact ⟨rfl, RefPost.same HR.out Hb6.out (by decide)⟩
        all_goals
          subst hbz
          rw [if_neg (by rintro ⟨h1, h2⟩; first | (exact absurd h2 (by decide)) | (exact h60 h1)), if_pos hroom] at htk
          subst htk
          (try subst h60)
          clear hroom
          go_wp2_with fail
          with_reducible refine Calls.mono HP.out ?_
          rintro r w7 ⟨rfl, hb7⟩
          have Hb7 := Lib.hid (below_trans Hb6.out Hb6.out.size hb7)
          clear hb7
          go_wp2
          go_ret
          exact ⟨rfl, RefPost.same HR.out Hb7.out (by decide)⟩
      · have HP := Lib.hid (HPo.out hroom)
        clear HPf HPo
        rcases hcs with ⟨h60, hbz⟩ | ⟨h60, hbz⟩ | ⟨h60, hbz⟩ | ⟨h60, hbz⟩
        · subst hbz
          rw [if_pos ⟨h60, rfl⟩] at htk
          subst htk
          subst h60
          clear hroom
          go_wp2
          go_ret
          exact ⟨rfl, RefPost.same HR.out Hb6.out (by decide)⟩
        all_goals
          subst hbz
          rw [if_neg (by rintro ⟨h1, h2⟩; first | (exact absurd h2 (by decide)) | (exact h60 h1)), if_neg hroom] at htk
          subst htk
          (try subst h60)
          clear hroom
          go_wp2_with fail
          with_reducible refine Calls.mono HP.out ?_
          rintro r w7 ⟨rfl, hto, hg7⟩
          have Hto := Lib.hid hto
          have Hg7 := Lib.hid hg7
          clear hto hg7
          go_wp2
          go_ret
          obtain ⟨v', z', hzv, hrd, hnw⟩ := Hto.out
          exact ⟨rfl, v', _, .inl ⟨rfl, z', hzv, .inl ⟨Hnone.out, rfl⟩⟩, hrd, .inl (grown_trans (grown_below (World.grownBy.refl w (some q)) Hb6.out) Hg7.out), .inr fun m hm => Nat.le_trans Hb6.out.size (hnw m hm)⟩
    · have hzj : z = (j : Int) := by rw [← Hz.out]; exact h1
      subst hzj
      have hjn : ¬ (j : Int) < 0 := by omega
      have hjl : (j : Int) < (L.length : Int) := by omega
      have Hj := Lib.hid hj
      obtain ⟨g, c9, hv, e0, e1, e2, e3, e4, e5, e6, e7, e8⟩ := row_at HR6.out.xs.own j hj
      injection hv with hA hnn hcc
      subst hA hcc
      obtain ⟨m, hm⟩ : ∃ m, newerI (sealedH ⟨y1, y2, y3, y4, y5, y6, y7⟩ ls ms) L[j].head = m := ⟨_, rfl⟩
      have htk : (if 0 < m then 2 else if m = 0 then 3 else 4) = n := by
        rw [← Htk.out]
        unfold takeR
        rw [if_pos Ht.out, show getX (keyX ⟨⟨y1, y2, y3, y4, y5, y6, y7⟩, ka, kc, ls, ma, mc, ms⟩) L = some L[j] from h2]
        simp only
        rw [hm]
      rw [Hseal.out] at hm
      have hya := Hages.out L[j] (List.getElem_mem hj)
      generalize hy : L[j] = y at *
      obtain ⟨⟨x1, x2, x3, x4, x5, x6, x7⟩, xa, xc, xs, va, vc, vs⟩ := y
      simp only at e0 e1 e2 e3 e4 e5 e6 e7 e8 hm hya
      have CN := Lib.hid (fun dd os => Calls.regrown_of (w := w6) (d := dd) (os := os) (refNewer_any y1 y2 y3 y4 y5 s1 s2 x1 x2 x3 x4 x5 x6 x7 _ Hage.out.1 Hage.out.2 hya.1 hya.2 hm))
      clear h1 h2 h3 hj hya hm hnn hy z0 z1 z2 z3 z4 z5 z6 z7 z8 zf e7 e8
      obtain ⟨c0, c1⟩ := HR6.out.cell
      obtain ⟨z0, z1, z2, z3, z4, z5, z6, z7, z8, zf⟩ := blk9 Hk6.out
      have z0 := cell_regrown z0
      have z1 := cell_regrown z1
      have z2 := cell_regrown z2
      have z3 := cell_regrown z3
      have z4 := cell_regrown z4
      have z5 := cell_regrown z5
      have z6 := cell_regrown z6
      have c0 := cell_regrown c0
      have e0 := cell_regrown e0
      have e1 := cell_regrown e1
      have e2 := cell_regrown e2
      have e3 := cell_regrown e3
      have e4 := cell_regrown e4
      have e5 := cell_regrown e5
      have e6 := cell_regrown e6
      clear z7 z8 c1
      go_wp2_with fail
      refine wp_below_tail 11 (by kernel_rfl) (by kernel_rfl) ?_
      simp only [List.take_succ_cons, List.take_zero, List.drop_succ_cons, List.drop_zero]
      repeat (go_big_quiet_step (exact CN.out _ _))
      refine wpQuiet_nil ?_
      rintro w7 ⟨⟨dq, osq⟩, rfl⟩
      have hb7 := below_regrown w6 dq osq
      generalize grow (redrawn w6 dq) osq = w7 at *
      have HR7 := Lib.hid (HR6.out.keep hb7)
      have Hk7 := Lib.hid (Hk6.out.below hb7 Hk6.out.lt)
      have HZ7 := Lib.hid (show rowsX w7 ⟨⟨y1, y2, y3, y4, y5, s1, s2⟩, Ca, ec, ls, Cb, ed, ms⟩ ∧ _ from ⟨HZ6.out.1.keep hb7, HZ6.out.2⟩)
      have Hb7 := Lib.hid (below_trans Hb6.out Hb6.out.size hb7)
      clear hb7 z0 z1 z2 z3 z4 z5 z6 zf c0 e0 e1 e2 e3 e4 e5 e6 CN
      by_cases hm1 : 0 < m
      · rw [if_pos hm1] at htk
        subst htk
        have hm1' : m > 0 := hm1
        have cp := (HR7.out.cell).1
        have hfz := fun i => OwnX.frozen HR7.out.xs.own i
        have hgb := (HR7.out.xs.own.block g rfl)
        obtain ⟨z0, z1, z2, z3, z4, z5, z6, z7, z8, zf⟩ := blk9 Hk7.out
        obtain ⟨e0, e1, e2, e3, e4, e5, e6, e7, e8⟩ := row_at2 HR7.out.xs.own j Hj.out
        go_wp2_with fail
        refine wp_drew_tail 7 (by kernel_rfl) (by kernel_rfl) ?_
        simp only [List.take_succ_cons, List.take_zero, List.drop_succ_cons, List.drop_zero]
        repeat (go_big_quiet_step (fail))
        refine wpQuiet_nil ?_
        rintro w8 ⟨dq8, rfl⟩
        go_wp2
        go_ret
        have hd8 : Below w7.heap.size w7 (w7.drewN dq8) := below_drewN (Below.refl _ _) dq8
        have hx8 := XsAt.set9 (HR7.out.keep hd8).xs rfl j Hj.out ⟨⟨y1, y2, y3, y4, y5, s1, s2⟩, Ca, ec, ls, Cb, ed, ms⟩ (HZ7.out.1.keep hd8) HZ7.out.2.1 HZ7.out.2.2.1 HZ7.out.2.2.2
        have hg8 := grown9 (w := w7.drewN dq8) (g := g) j ⟨⟨y1, y2, y3, y4, y5, s1, s2⟩, Ca, ec, ls, Cb, ed, ms⟩
        simp only [Hn.out.1.symm, Hn.out.2.1.symm] at hx8 hg8
        refine ⟨rfl, _, _, .inl ⟨rfl, ⟨⟨y1, y2, y3, y4, y5, s1, s2⟩, Ca, ec, ls, Cb, ed, ms⟩, ?_, .inr ⟨j, Hj.out, Hz.out, rfl⟩⟩, ⟨?_, hx8⟩, .inr ?_, .inl rfl⟩
        · unfold vX sealV
          simp only
          rw [Hseal.out]
        · exact (HR7.out.keep hd8).ptr.grown hg8 (by intro e; injection e with e; omega)
        · exact grown_trans (grown_below (World.grownBy.refl w (some g)) Hb7.out) (grown_drewN hg8)
      · have hmg : ¬ m > 0 := hm1
        rw [if_neg hm1] at htk
        by_cases hm0 : m = 0
        · rw [if_pos hm0] at htk
          subst htk
          go_wp2
          go_ret
          exact ⟨rfl, RefPost.same HR.out Hb7.out (by decide)⟩
        · rw [if_neg hm0] at htk
          subst htk
          go_wp2
          go_ret
          exact ⟨rfl, RefPost.same HR.out Hb7.out (by decide)⟩

end Go.Proofs.Ytmjjmkdjjfmhhaa

/-
  Layer 18: the program's database beside the document's list: what is taken, in plain words and in memory.
-/
namespace Go.Proofs.Ytmjjmkdjjfmhhaa
open Go.RowKit Go.Sort

/-- both make the same of a description -/
theorem take_same {room : Int} {M L : List Lsa} (h : DEq M L) (hle : (M.length : Int) ≤ room) (x : Lsa) (busy : Bool) : takeR room L x busy = takeN room M x busy := by
  unfold takeR takeN
  by_cases hr : rightB x = true
  · rw [if_pos hr, if_pos hr]
    have hl := h.len
    rcases h.find (keyX x) with ⟨h1, h2, -⟩ | ⟨a, j, hj, h1, h2, h3, h4, -⟩
    · have hg : getX (keyX x) L = none := by
        rcases findX_get (k := keyX x) (L := L) with ⟨-, h5, -⟩ | ⟨j, hj, h5, -⟩
        · exact h5
        · omega
      rw [hg, show getX (keyH x.head) M = none from h1]
      simp only
      by_cases h6 : x.head.age = 60 ∧ busy = false
      · rw [if_pos h6, if_pos h6]
      · rw [if_neg h6, if_neg h6]
        by_cases h7 : (M.length : Int) = room
        · rw [if_pos h7, if_pos (by omega)]
        · rw [if_neg h7, if_neg (by omega)]
    · have hg : getX (keyX x) L = some L[j] := by
        rcases findX_get (k := keyX x) (L := L) with ⟨h5, -, -⟩ | ⟨i, hi, h5, h6, -⟩
        · omega
        · have : i = j := by omega
          subst this
          exact h6
      rw [hg, show getX (keyH x.head) M = some a from h1]
      simp only
      have hh : L[j].head = a.head := congrArg (fun v : VX => v.1) h4
      rw [hh]
      generalize newerI (sealedH x.head x.links x.members) a.head = m
      by_cases h5 : 0 < m
      · rw [if_pos h5, if_neg (by omega), if_neg (by omega)]
      · rw [if_neg h5]
        by_cases h6 : m = 0
        · rw [if_pos h6, if_pos h6]
        · rw [if_neg h6, if_neg h6, if_pos (by omega)]
  · rw [if_neg hr, if_neg hr]
theorem tk_put {room : Int} {M M' L L' : List Lsa} {B : Nat} {x : Lsa} {n : Int} {busy : Bool} (h : DEq M L) (hle : (M.length : Int) ≤ room) (ha : agesX M) (hn : takeN room M x busy = n) (h1 : TookTo B M x n M') (h2 : TookR L x n L') :
    DEq M' L' ∧ (M'.length : Int) ≤ room ∧ agesX M' := by
  rcases h1 with ⟨rfl, Aa, ca, Ab, cb, -, -, rfl⟩ | ⟨hn2, rfl⟩
  · obtain ⟨y, hy⟩ : ∃ y : Lsa, (⟨sealedH x.head x.links x.members, Aa, ca, x.links, Ab, cb, x.members⟩ : Lsa) = y := ⟨_, rfl⟩
    have hyv : vX y = sealV x := by rw [← hy]; rfl
    have hyk : keyX y = keyX x := keyX_seal hyv
    have hya : y.head.age = x.head.age := by rw [← hy]; simp only [sealedH]
    rw [hy]
    have hr : rightB x = true := by
      by_cases hr : rightB x = true
      · exact hr
      · unfold takeN at hn; rw [if_neg hr] at hn; cases hn
    have hxa : 0 ≤ x.head.age ∧ x.head.age ≤ 60 := right_age (h := x.head) (ka := x.ka) (kc := x.kcap) (ls := x.links) (ma := x.ma) (mc := x.mcap) (ms := x.members) hr
    refine ⟨?_, ?_, setX_ages ha (by rw [hya]; exact hxa)⟩
    · rcases h2 with ⟨-, z, hz, h2⟩ | ⟨h2, -⟩
      · have hzk : keyX z = keyX x := keyX_seal hz
        rcases h2 with ⟨-, rfl⟩ | ⟨j, hj, hf, rfl⟩
        · have := h.put (y := y) (z := z) (by rw [hyv, hz])
          rwa [hzk] at this
        · rcases findX_get (k := keyX x) (L := L) with ⟨h5, -, -⟩ | ⟨i, hi, h5, -, h7, h8⟩
          · omega
          · have : i = j := by omega
            subst this
            exact h.set_ (y := y) (z := z) hj (by rw [hyv, hz]) (by rw [h7, hzk]) (h8 z hzk)
      · exact absurd rfl h2
    · rw [setX_len, hyk]
      split
      · exact hle
      · rename_i hs
        have hg : getX (keyH x.head) M = none := by
          cases hg : getX (keyH x.head) M with
          | none => rfl
          | some a => exact absurd (by rw [show getX (keyX x) M = some a from hg]; rfl) hs
        unfold takeN at hn
        rw [if_pos hr, hg] at hn
        simp only at hn
        split at hn
        · cases hn
        · split at hn
          · cases hn
          · push_cast
            omega
  · rcases h2 with ⟨h2, -⟩ | ⟨-, rfl⟩
    · exact absurd h2 hn2
    · exact ⟨h, hle, ha⟩

/-- the two, in memory -/
structure TK (w W : World) (p b q : Nat) (room : Int) (M : List Lsa) (v : Value) (L : List Lsa) : Prop where
  bel : Below w.heap.size w W
  db : DbAt W p b room M
  rd : RdAt W q room v L
  eq : DEq M L
  le : (M.length : Int) ≤ room
  ages : agesX M
  lb : w.heap.size ≤ b
  lq : w.heap.size ≤ q
  pq : p ≠ q
  pv : v.ownBlock ≠ some p
  farq : ∀ x ∈ M, (∀ a, x.ka = some a → 0 < x.links.length → q ≠ a.block) ∧ (∀ a, x.ma = some a → 0 < x.members.length → q ≠ a.block)
  farv : ∀ x ∈ M, farX v x
section
variable {w W W' W2 W3 : World} {p b q : Nat} {room : Int} {M M' : List Lsa} {v v' : Value} {L L' : List Lsa} {x : Lsa} {n : Int}
theorem TK.keep (h : TK w W p b q room M v L) (hb : Below W.heap.size W W') : TK w W' p b q room M v L :=
  ⟨below_trans h.bel h.bel.size hb, h.db.keep hb, h.rd.keep hb, h.eq, h.le, h.ages, h.lb, h.lq, h.pq, h.pv, h.farq, h.farv⟩
/-- the program took: the document's list stands -/
theorem TK.rd2 (h : TK w W p b q room M v L) (hg : W.grownBy W2 (some b)) : RdAt W2 q room v L := by
  refine ⟨h.rd.ptr.grown hg (fun e => blk_nemap4 h.rd.ptr h.db.map (by injection e)), ⟨h.rd.xs.own.kept hg (.inr (own_nemap h.rd.xs.own h.db.map)), fun x hx => ?_, h.rd.xs.far, h.rd.xs.from_, h.rd.xs.lens⟩⟩
  have hr := h.rd.xs.rows x hx
  refine hr.grown hg (fun a ha => ?_)
  rcases ha with ⟨e, h0⟩ | ⟨e, h0⟩
  · exact row_nemap (C := 4) (cells := Lnk.cells) (fun _ => rfl) (by decide) hr.1 h.db.map a e h0
  · exact row_nemap (C := 1) (cells := icell) (fun _ => rfl) (by decide) hr.2 h.db.map a e h0
/-- .. and the document took: both stand -/
theorem TK.took (h : TK w W p b q room M v L) {busy : Bool} (hn : takeN room M x busy = n) (h1 : TookTo W.heap.size M x n M') (hd : DbAt W2 p b room M') (hg : W.grownBy W2 (some b)) (h2 : RefPost W2 W3 q room v L x n) : ∃ v' L', TK w W3 p b q room M' v' L' := by
  obtain ⟨v', L', hL, hrd, hg3, hv'⟩ := h2
  have hqW := h.rd.ptr.lt
  have hpW := h.db.ptr.lt
  have hne : b ≠ q := fun e => blk_nemap4 h.rd.ptr h.db.map e.symm
  have hnb := own_nemap h.rd.xs.own h.db.map
  have hsz := hg.size
  have hvW := fun m hm => (h.rd.xs.own.block m hm)
  have hfar2 : (∀ x ∈ M', (∀ a, x.ka = some a → 0 < x.links.length → q ≠ a.block) ∧ (∀ a, x.ma = some a → 0 < x.members.length → q ≠ a.block)) ∧ ∀ x ∈ M', farX v x := by
    rcases h1 with ⟨-, Aa, ca, Ab, cb, ha, hb, rfl⟩ | ⟨-, rfl⟩
    · refine ⟨fun x hx => ?_, fun x hx => ?_⟩
      · rcases setX_mem hx with hx | rfl
        · exact h.farq x hx
        · exact ⟨fun a e _ e2 => by have := ha a e; omega, fun a e _ e2 => by have := hb a e; omega⟩
      · rcases setX_mem hx with hx | rfl
        · exact h.farv x hx
        · exact ⟨fun a e _ e2 => by have := ha a e; have := (hvW _ e2).2; omega, fun a e _ e2 => by have := hb a e; have := (hvW _ e2).2; omega⟩
    · exact ⟨h.farq, h.farv⟩
  obtain ⟨heq, hle, hag⟩ := tk_put h.eq h.le h.ages hn h1 hL
  have hdb3 : ∀ row, W2.grownBy W3 row → row ≠ some p → row ≠ some b → (∀ x ∈ M', (∀ a, x.ka = some a → 0 < x.links.length → row ≠ some a.block) ∧ (∀ a, x.ma = some a → 0 < x.members.length → row ≠ some a.block)) → DbAt W3 p b room M' := fun row hg e1 e2 hf =>
    ⟨hd.ptr.grown hg (fun e => e1 e.symm), hd.map.grown hg (fun e => e2 e.symm), fun x hx => ⟨rows_row2 (hd.rows x hx).1 hg (hf x hx).1, rows_row2 (hd.rows x hx).2 hg (hf x hx).2⟩, hd.lens⟩
  have hsz3 : W2.heap.size ≤ W3.heap.size := hg3.elim (·.size) (·.size)
  have hbel2 := h.bel.grown hg h.bel.size (fun k e => by injection e with e; subst e; exact h.lb)
  have hp2 := hd.ptr.lt
  refine ⟨v', L', ?_, ?_, hrd, heq, hle, hag, h.lb, h.lq, h.pq, ?_, hfar2.1, ?_⟩
  · rcases hg3 with hg3 | hg3
    · exact hbel2.grown hg3 (Nat.le_trans h.bel.size hsz) (fun k e => by injection e with e; subst e; exact h.lq)
    · exact hbel2.grown hg3 (Nat.le_trans h.bel.size hsz) (fun k e => by have := (hvW k e).1; have := h.lq; omega)
  · rcases hg3 with hg3 | hg3
    · exact hdb3 _ hg3 (fun e => h.pq (by injection e with e; exact e.symm)) (fun e => hne (by injection e with e; exact e.symm)) (fun x hx => ⟨fun a ea h0 e => (hfar2.1 x hx).1 a ea h0 (by injection e), fun a ea h0 e => (hfar2.1 x hx).2 a ea h0 (by injection e)⟩)
    · exact hdb3 _ hg3 h.pv hnb (fun x hx => hfar2.2 x hx)
  · rcases hv' with e | e
    · rw [e]; exact h.pv
    · intro e2; have := e _ e2; omega
  · intro x hx
    rcases hv' with e | e
    · have := hfar2.2 x hx
      unfold farX at this ⊢
      rw [e]
      exact this
    · refine ⟨fun a ea h0 e2 => ?_, fun a ea h0 e2 => ?_⟩
      · have h1 := (hd.rows x hx).1
        have := row_lt2 h1 ea h0
        have := e _ e2
        omega
      · have h1 := (hd.rows x hx).2
        have := row_lt2 h1 ea h0
        have := e _ e2
        omega
/-- a block of the round's own stands through both -/
theorem TK.blk {g : Nat} {t : TypeId} {cs : Array Value} (h : TK w W p b q room M v L) (hk : Blk W g t cs) (hgq : g ≠ q) (hgv : v.ownBlock ≠ some g) (hg : W.grownBy W2 (some b)) : Blk W2 g t cs ∧ ∀ W3 n, RefPost W2 W3 q room v L x n → Blk W3 g t cs := by
  have h2 := hk.grown hg (fun e => blk_nemap4 hk h.db.map (by injection e))
  refine ⟨h2, fun W3 n hr => ?_⟩
  obtain ⟨v', L', -, -, hg3, -⟩ := hr
  rcases hg3 with hg3 | hg3
  · exact h2.grown hg3 (fun e => hgq (by injection e))
  · exact h2.grown hg3 (fun e => hgv e.symm)
end
theorem RdNew (room : Int) (w : World) : Calls Try.prog 24 #[.int .i64 room] w fun r w' => r = .returned (.pointer (some ⟨w.heap.size, 0, none⟩)) ∧ RdAt w' w.heap.size (min (max room 1) 40) (.slice none 0 0) [] ∧ Below w.heap.size w w' := by
  have hcs : (room < 1 ∧ min (max room 1) 40 = 1) ∨ (¬ room < 1 ∧ room > 40 ∧ min (max room 1) 40 = 40) ∨ (¬ room < 1 ∧ ¬ room > 40 ∧ min (max room 1) 40 = room) := by omega
  rcases hcs with ⟨h1, hr⟩ | ⟨h1, h2, hr⟩ | ⟨h1, h2, hr⟩
  all_goals
    rw [hr]
    clear hr
    go_enter Try.func24, Try.ntmps24
    go_wp2
    go_ret
    exact ⟨rfl, ⟨Blk.new _ _ _, XsAt.nil _ _⟩, below_new _ _⟩
theorem Take_nil (w : World) : Calls Try.prog 17 #[.pointer none, .agg #[.int .i64 0, .int .i64 0, .int .i64 0, .int .i64 0, .int .i64 0, .int .i64 0, .int .i64 0, .slice none 0 0, .slice none 0 0], .bool true] w fun r w' => r = .returned (.int .i64 0) ∧ Below w.heap.size w w' := by
  go_enter Try.func17, Try.ntmps17
  go_wp2
  go_ret
  exact ⟨rfl, below_new _ _⟩

end Go.Proofs.Ytmjjmkdjjfmhhaa
