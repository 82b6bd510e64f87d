/-
  The law WantsNewer: its walk.
-/
import Derived.Deep.CutRange
import Derived.Deep.DeepCutAuto
import Derived.Outline
import Derived.Test.YtmjjmkdjjfmhhaaLsRef
import Derived.Test.YtmjjmkdjjfmhhaaRsSealed
import Derived.Test.YtmjjmkdjjfmhhaaWaAsk
namespace Go.Proofs.Ytmjjmkdjjfmhhaa
open Go.RowKit Go.Sort

theorem nw_self (h : Hd) : newerI h h = 0 := by
  have h1 : ∀ x : Int, cmpI x x = 0 := fun x => by unfold cmpI; simp
  have h2 : ∀ x : Int, youngI x x = 0 := fun x => by unfold youngI; simp [h1]
  unfold newerI
  rw [h1, h1, h1, h2]
  rfl
theorem nw_more {a b : Hd} (h : b.seq < a.seq) : newerI a b = 1 := by
  have h1 : cmpI a.seq b.seq = 1 := by unfold cmpI; rw [if_neg (by omega), if_pos (by omega)]
  unfold newerI
  rw [h1]
  rfl
theorem nw_less {a b : Hd} (h : a.seq < b.seq) : newerI a b = -1 := by
  have h1 : cmpI a.seq b.seq = -1 := by unfold cmpI; rw [if_pos (by omega)]
  unfold newerI
  rw [h1]
  rfl
theorem WaAdd_one (p b : Nat) (M : List Hd) (h : Hd) (w : World) (hw : WaAt w p b M) (hM : ∀ x ∈ M, ageOk x) (hh : ageOk h) (n : Nat) (hn : (addAllM M [h]).length = n) :
    Calls Try.prog 30 #[.pointer (some ⟨p, 0, none⟩), .slice (some ⟨w.heap.size, 0, none⟩) 1 1] (w.alloc (.cells h.cells.toArray 23)) fun r w' => r = .returned (.int .i64 n) ∧ WaAt w' p b (addAllM M [h]) ∧ w.grownBy w' (some b) := by
  have hf : ([h].flatMap Hd.cells) = h.cells := by simp
  have hA := WaAdd_of p b M (some ⟨w.heap.size, 0, none⟩) 1 [h] (w.alloc (.cells h.cells.toArray 23)) (hw.alloc _) (w.heap.size + 1) (fun W hg => rows_of_blk (t := 23) (by rw [hf]; exact (Blk.new w 23 h.cells.toArray).grown hg (fun e => by injection e with e; have := hw.map.lt; omega)) (by omega)) hM (by intro x hx; simp at hx; subst hx; exact hh) (by simp) 1 rfl
  refine hA.mono ?_
  rintro r w' ⟨rfl, h1, h2⟩
  exact ⟨by rw [hn], h1, below_grown (below_new w _) h2⟩
theorem add_nil (h : Hd) : addAllM [] [h] = [h] := rfl
theorem add_same (h : Hd) : addAllM [h] [h] = [h] := by
  show addM newerI [h] h = [h]
  unfold addM
  simp [getH, nw_self]
theorem blk_nemap2 {κ : Type} {enc : κ → Value} {L : List (κ × Value)} {W : World} {g b : Nat} {t : TypeId} {cs : Array Value} (hb : Blk W g t cs) (hm : MapAt enc W b L) : g ≠ b := by
  rintro rfl
  obtain ⟨es, clock, h1, -⟩ := hm
  unfold Blk at hb
  rw [h1] at hb
  cases hb
/-- what is wanted, and three heads -/
structure WN (w W : World) (p b g o y : Nat) (M : List Hd) (h ho hy : Hd) : Prop where
  bel : Below w.heap.size w W
  wa : WaAt W p b M
  h : Blk W g 23 h.cells.toArray
  o : Blk W o 23 ho.cells.toArray
  y : Blk W y 23 hy.cells.toArray
  lo : w.heap.size ≤ b
section
variable {w W W' : World} {p b g o y : Nat} {M M' : List Hd} {h ho hy : Hd}
theorem WN.keep (h1 : WN w W p b g o y M h ho hy) (hb : Below W.heap.size W W') : WN w W' p b g o y M h ho hy :=
  ⟨below_trans h1.bel h1.bel.size hb, h1.wa.keep hb, h1.h.below hb h1.h.lt, h1.o.below hb h1.o.lt, h1.y.below hb h1.y.lt, h1.lo⟩
theorem WN.grown (h1 : WN w W p b g o y M h ho hy) (hm : WaAt W' p b M') (hg : W.grownBy W' (some b)) : WN w W' p b g o y M' h ho hy :=
  ⟨h1.bel.grown hg h1.bel.size (fun k e => by injection e with e; subst e; exact h1.lo), hm, h1.h.grown hg (fun e => blk_nemap2 h1.h h1.wa.map (by injection e)), h1.o.grown hg (fun e => blk_nemap2 h1.o h1.wa.map (by injection e)), h1.y.grown hg (fun e => blk_nemap2 h1.y h1.wa.map (by injection e)), h1.lo⟩
end
theorem blk7h {w : World} {g : Nat} {t : TypeId} {a b c d e f x : Value} (h : Blk w g t #[a, b, c, d, e, f, x]) : w.cell? ⟨g, 0, none⟩ = some a ∧ w.cell? ⟨g, 1, none⟩ = some b ∧ w.cell? ⟨g, 2, none⟩ = some c ∧ w.cell? ⟨g, 3, none⟩ = some d ∧ w.cell? ⟨g, 4, none⟩ = some e ∧ w.cell? ⟨g, 5, none⟩ = some f ∧ w.cell? ⟨g, 6, none⟩ = some x ∧ ∀ i, w.frozen? ⟨g, i, none⟩ = false :=
  ⟨h.cell 0, h.cell 1, h.cell 2, h.cell 3, h.cell 4, h.cell 5, h.cell 6, fun i => h.frozen i⟩

set_option maxHeartbeats 8000000 in
set_option maxRecDepth 100000 in
theorem wantsNewer_any (x : Lsa) (le : Nat) (hle : le ≤ 255) (mo : Nat) (hmo : mo ≤ 255) (w : World) (hx : x.ok w w.heap.size) :
    Calls Try.prog 6 #[.agg x.cells.toArray, .int .u8 (le : Int), .int .u8 (mo : Int)] w fun r w' => r = .returned (.bool true) ∧ Below w.heap.size w w' := by
  have hl := hx.links
  have hm := hx.members
  have hlm := hx.linksLen
  have hmm := hx.membersLen
  obtain ⟨⟨y1, y2, y3, y4, y5, y6, y7⟩, ka, kc, ls, ma, mc, ms⟩ := x
  unfold Lsa.cells
  simp only at hl hm hlm hmm ⊢
  obtain ⟨nl, hnl⟩ : ∃ nl, nl = ls.length := ⟨_, rfl⟩
  obtain ⟨nm, hnm⟩ : ∃ nm, nm = ms.length := ⟨_, rfl⟩
  rw [← hnl, ← hnm]
  clear hx
  obtain ⟨w1, hW1⟩ : ∃ w1, w.alloc (.cells #[.int .i64 y1, .int .i64 y2, .int .i64 y3, .int .i64 y4, .int .i64 y5, .int .i64 y6, .int .i64 y7, .slice ka nl kc, .slice ma nm mc] 27) = w1 := ⟨_, rfl⟩
  have hk1 := Blk.new w 27 #[.int .i64 y1, .int .i64 y2, .int .i64 y3, .int .i64 y4, .int .i64 y5, .int .i64 y6, .int .i64 y7, .slice ka nl kc, .slice ma nm mc]
  have hb1 := below_new w (.cells #[.int .i64 y1, .int .i64 y2, .int .i64 y3, .int .i64 y4, .int .i64 y5, .int .i64 y6, .int .i64 y7, .slice ka nl kc, .slice ma nm mc] 27)
  rw [hW1] at hk1 hb1
  obtain ⟨t, ht⟩ : ∃ t, rightB ⟨⟨y1, y2, y3, y4, y5, y6, y7⟩, ka, kc, ls, ma, mc, ms⟩ = t := ⟨_, rfl⟩
  have HR := Lib.hid (fun W (hW : Below w.heap.size w W) => refRight_any y1 y2 y3 y4 y5 y6 y7 ka kc ls ma mc ms W w.heap.size (hl.below hW) (hm.below hW) hW.size hlm hmm nl nm hnl hnm ht)
  have Hb1 := Lib.hid hb1
  have Hk1 := Lib.hid hk1
  have Hl := Lib.hid hl
  have Hm := Lib.hid hm
  have Hn := Lib.hid (show _ ∧ _ from ⟨hnl, hnm⟩)
  have Ht := Lib.hid ht
  clear hl hm hlm hmm hnl hnm ht hk1 hb1
  cases t with
  | false =>
    go_enter Try.func6, Try.ntmps6
    go_wp2_with (first
      | (go_at_call 28; (with_reducible refine Calls.mono (wakes15 _) ?_); rintro r w2 ⟨rfl, hb2⟩; obtain ⟨z0, z1, z2, z3, z4, z5, z6, z7, z8, zf⟩ := blk9 (Hk1.out.below hb2 Hk1.out.lt); have Hb2 := Lib.hid (below_trans Hb1.out Hb1.out.size hb2); clear hb2)
      | (go_at_call 15; (with_reducible refine Calls.mono (HR.out _ Hb2.out) ?_); rintro r w3 ⟨rfl, hb3⟩; have Hb3 := Lib.hid (below_trans Hb2.out Hb2.out.size hb3); clear hb3))
    go_ret
    exact ⟨rfl, Hb3.out⟩
  | true =>
    obtain ⟨⟨ha0, ha1⟩, ⟨hs0, hs1⟩, h1m, hll, hmm⟩ := right_head Ht.out
    simp only at ha0 ha1 hs0 hs1 h1m
    have H1m := Lib.hid h1m
    have Hll := Lib.hid (show _ ∧ _ from ⟨hll, hmm⟩)
    have Ha := Lib.hid (show 0 ≤ y1 ∧ y1 ≤ 60 from ⟨ha0, ha1⟩)
    clear h1m hll hmm ha0 ha1
    rcases (show (y5 + 2147483647 < (le : Int)) ∨ (¬ y5 + 2147483647 < (le : Int) ∧ 2147483647 - y5 < (mo : Int)) ∨ (¬ y5 + 2147483647 < (le : Int) ∧ ¬ 2147483647 - y5 < (mo : Int)) by omega) with g1 | ⟨g1, g2⟩ | ⟨g1, g2⟩
    · go_enter Try.func6, Try.ntmps6
      go_wp2_with (first
        | (go_at_call 28; (with_reducible refine Calls.mono (wakes15 _) ?_); rintro r w2 ⟨rfl, hb2⟩; have Hk2 := Lib.hid (Hk1.out.below hb2 Hk1.out.lt); obtain ⟨z0, z1, z2, z3, z4, z5, z6, z7, z8, zf⟩ := blk9 Hk2.out; have Hb2 := Lib.hid (below_trans Hb1.out Hb1.out.size hb2); clear hb2)
        | (go_at_call 15; (with_reducible refine Calls.mono (HR.out _ Hb2.out) ?_); rintro r w3 ⟨rfl, hb3⟩; obtain ⟨q0, q1, q2, q3, q4, q5, q6, q7, q8, qf⟩ := blk9 (Hk2.out.below hb3 Hk2.out.lt); have Hb3 := Lib.hid (below_trans Hb2.out Hb2.out.size hb3); clear hb3))
      go_ret
      exact ⟨rfl, Hb3.out⟩
    · go_enter Try.func6, Try.ntmps6
      go_wp2_with (first
        | (go_at_call 28; (with_reducible refine Calls.mono (wakes15 _) ?_); rintro r w2 ⟨rfl, hb2⟩; have Hk2 := Lib.hid (Hk1.out.below hb2 Hk1.out.lt); obtain ⟨z0, z1, z2, z3, z4, z5, z6, z7, z8, zf⟩ := blk9 Hk2.out; have Hb2 := Lib.hid (below_trans Hb1.out Hb1.out.size hb2); clear hb2)
        | (go_at_call 15; (with_reducible refine Calls.mono (HR.out _ Hb2.out) ?_); rintro r w3 ⟨rfl, hb3⟩; obtain ⟨q0, q1, q2, q3, q4, q5, q6, q7, q8, qf⟩ := blk9 (Hk2.out.below hb3 Hk2.out.lt); have Hb3 := Lib.hid (below_trans Hb2.out Hb2.out.size hb3); clear hb3))
      go_ret
      exact ⟨rfl, Hb3.out⟩
    · obtain ⟨s1, hs1'⟩ : ∃ s1, (sealedH ⟨y1, y2, y3, y4, y5, y6, y7⟩ ls ms).sum = s1 := ⟨_, rfl⟩
      obtain ⟨s2, hs2'⟩ : ∃ s2, (sealedH ⟨y1, y2, y3, y4, y5, y6, y7⟩ ls ms).long = s2 := ⟨_, rfl⟩
      have HS := Lib.hid (fun W (hW : Below w.heap.size w W) => refSealed_any y1 y2 y3 y4 y5 y6 y7 ka kc ls ma mc ms W w.heap.size (Hl.out.below hW) (Hm.out.below hW) hW.size Hll.out.1 Hll.out.2 nl nm Hn.out.1 Hn.out.2 H1m.out hs1' hs2')
      clear hs1' hs2'
      go_enter Try.func6, Try.ntmps6
      go_wp2_with (first
        | (go_at_call 28; (with_reducible refine Calls.mono (wakes15 _) ?_); rintro r w2 ⟨rfl, hb2⟩; have Hk2 := Lib.hid (Hk1.out.below hb2 Hk1.out.lt); obtain ⟨z0, z1, z2, z3, z4, z5, z6, z7, z8, zf⟩ := blk9 Hk2.out; have Hb2 := Lib.hid (below_trans Hb1.out Hb1.out.size hb2); clear hb2)
        | (go_at_call 15; (with_reducible refine Calls.mono (HR.out _ Hb2.out) ?_); rintro r w3 ⟨rfl, hb3⟩; have Hk3 := Lib.hid (Hk2.out.below hb3 Hk2.out.lt); obtain ⟨q0, q1, q2, q3, q4, q5, q6, q7, q8, qf⟩ := blk9 Hk3.out; have Hb3 := Lib.hid (below_trans Hb2.out Hb2.out.size hb3); clear hb3 z0 z1 z2 z3 z4 z5 z6 z7 z8 zf)
        | (go_at_call 29; (with_reducible refine Calls.mono (New15 _) ?_); rintro r w4 ⟨rfl, hd4, hb4⟩; have Hd4 := Lib.hid hd4; obtain ⟨c0, c1, c2, c3, c4, c5, c6, c7, c8, cf⟩ := blk9 (Hk3.out.below hb4 Hk3.out.lt); have Hb4 := Lib.hid (below_trans Hb3.out Hb3.out.size hb4); clear hd4 hb4 q0 q1 q2 q3 q4 q5 q6 q7 q8 qf)
        | (go_at_call 23; (with_reducible refine Calls.mono (HS.out _ Hb4.out) ?_); rintro r w5 ⟨Aa, ca, Ab, cb, rfl, -, -, hb5⟩; have Hb5 := Lib.hid (below_trans Hb4.out Hb4.out.size hb5); have Hd5 := Lib.hid (Hd4.out.keep hb5); have hfld := fld_lsa y1 y2 y3 y4 y5 s1 s2 Aa nl ca Ab nm cb; clear hb5 c0 c1 c2 c3 c4 c5 c6 c7 c8 cf)
        | fail)
      obtain ⟨p, hp⟩ : ∃ p, w3.heap.size + 1 = p := ⟨_, rfl⟩
      obtain ⟨b, hb⟩ : ∃ b, w3.heap.size = b := ⟨_, rfl⟩
      obtain ⟨g, hg⟩ : ∃ g, w5.heap.size = g := ⟨_, rfl⟩
      obtain ⟨w6, hw6⟩ : ∃ w6, w5.alloc (.cells #[.int .i64 y1, .int .i64 y2, .int .i64 y3, .int .i64 y4, .int .i64 y5, .int .i64 s1, .int .i64 s2] 23) = w6 := ⟨_, rfl⟩
      have hsz6 : g + 1 = w6.heap.size := by rw [← hw6, ← hg]; simp
      have hk6 : Blk w6 g 23 #[.int .i64 y1, .int .i64 y2, .int .i64 y3, .int .i64 y4, .int .i64 y5, .int .i64 s1, .int .i64 s2] := by rw [← hw6, ← hg]; exact Blk.new w5 _ _
      have hb6 : Below w5.heap.size w5 w6 := by rw [← hw6]; exact below_new _ _
      have hlo : w.heap.size ≤ b := by rw [← hb]; exact Hb3.out.size
      have hd5 := Hd5.out
      rw [hp, hb] at hd5
      have hage : ageOk ⟨y1, y2, y3, y4, y5, s1, s2⟩ := ⟨Ha.out.1, Ha.out.2⟩
      have hA := WaAdd_one p b [] ⟨y1, y2, y3, y4, y5, s1, s2⟩ w6 (hd5.keep hb6) (by simp) hage 1 rfl
      simp only [Hd.cells] at hA
      rw [hp, hg, hw6, hsz6]
      have Hbw6 := Lib.hid (below_trans Hb5.out Hb5.out.size hb6)
      have Hk6 := Lib.hid hk6
      have Hd6 := Lib.hid (hd5.keep hb6)
      have Hage := Lib.hid hage
      have Hlo := Lib.hid hlo
      clear hk6 hb6 hlo hd5 hage hw6 hp hb hfld hsz6
      with_reducible refine Calls.mono hA ?_
      rintro r w7 ⟨rfl, hd7, hg7⟩
      have hk7 := Hk6.out.grown hg7 (fun e => blk_nemap2 Hk6.out Hd6.out.map (by injection e))
      have Hb7 := Lib.hid (Hbw6.out.grown hg7 Hbw6.out.size (fun k e => by injection e with e; subst e; exact Hlo.out))
      have Hd7 := Lib.hid hd7
      rw [add_nil] at Hd7
      have Hk7 := Lib.hid hk7
      clear hA hd7 hg7 hg
      obtain ⟨p0, p1, p2, p3, p4, p5, p6, pf⟩ := blk7h hk7
      clear hk7
      go_upto_region 8 with fail
      go_cut [9, 10] (fun a c wx => ∃ o y, a = .pointer (some ⟨o, 0, none⟩) ∧ c = .pointer (some ⟨y, 0, none⟩) ∧ o ≠ y ∧ w7.heap.size ≤ o ∧ w7.heap.size ≤ y ∧ Blk wx o 23 #[.int .i64 y1, .int .i64 y2, .int .i64 y3, .int .i64 y4, .int .i64 y5, .int .i64 s1, .int .i64 s2] ∧ Blk wx y 23 #[.int .i64 y1, .int .i64 y2, .int .i64 y3, .int .i64 y4, .int .i64 y5, .int .i64 s1, .int .i64 s2] ∧ Below w7.heap.size w7 wx)
      case first =>
        have hk7 := Hk7.out
        obtain ⟨r0, r1, r2, r3, r4, r5, r6⟩ : _ ∧ _ ∧ _ ∧ _ ∧ _ ∧ _ ∧ _ := ⟨fun o => (hk7.alloc o).cell 0, fun o => (hk7.alloc o).cell 1, fun o => (hk7.alloc o).cell 2, fun o => (hk7.alloc o).cell 3, fun o => (hk7.alloc o).cell 4, fun o => (hk7.alloc o).cell 5, fun o => (hk7.alloc o).cell 6⟩
        obtain ⟨t0, t1, t2, t3, t4, t5, t6⟩ : _ ∧ _ ∧ _ ∧ _ ∧ _ ∧ _ ∧ _ := ⟨fun o o' => ((hk7.alloc o).alloc o').cell 0, fun o o' => ((hk7.alloc o).alloc o').cell 1, fun o o' => ((hk7.alloc o).alloc o').cell 2, fun o o' => ((hk7.alloc o).alloc o').cell 3, fun o o' => ((hk7.alloc o).alloc o').cell 4, fun o o' => ((hk7.alloc o).alloc o').cell 5, fun o o' => ((hk7.alloc o).alloc o').cell 6⟩
        simp only [List.getElem?_toArray, List.getElem?_cons_zero, List.getElem?_cons_succ] at r0 r1 r2 r3 r4 r5 r6 t0 t1 t2 t3 t4 t5 t6
        clear hk7
        go_region
        all_goals
          go_wp2_with fail
          go_meet
          case rel =>
            first
              | exact ⟨w7.heap.size, w7.heap.size + 1, rfl, rfl, by omega, by omega, by omega, ((Blk.new w7 _ _).alloc _).drew, (Blk.size (w := w7.alloc _) (by simp)).drew, ((below_new w7 _).alloc (by simp) _).drew⟩
              | exact ⟨w7.heap.size + 1, w7.heap.size, rfl, rfl, by omega, by omega, by omega, (Blk.size (w := w7.alloc _) (by simp)).drew, ((Blk.new w7 _ _).alloc _).drew, ((below_new w7 _).alloc (by simp) _).drew⟩
      case rest =>
        obtain ⟨o, y, rfl, rfl, hoy, ho7, hy7, hko, hky, hbx⟩ := hcut
        clear p0 p1 p2 p3 p4 p5 p6 pf
        obtain ⟨e0, e1, e2, e3, e4, e5, e6, ef⟩ := blk7h hko
        obtain ⟨f0, f1, f2, f3, f4, f5, f6, ff⟩ := blk7h hky
        have hyo : ¬ y = o := fun e => hoy e.symm
        obtain ⟨so, hso⟩ : ∃ so, y5 - (le : Int) = so := ⟨_, rfl⟩
        obtain ⟨w9, hw9⟩ : ∃ w9, (wc.setCell ⟨o, 4, none⟩ (.int .i64 (so))).setCell ⟨y, 4, none⟩ (.int .i64 (y5 + (mo : Int))) = w9 := ⟨_, rfl⟩
        have hb9 : Below w7.heap.size w7 w9 := by rw [← hw9]; exact (hbx.setCell (p := ⟨o, 4, none⟩) ho7 _).setCell (p := ⟨y, 4, none⟩) hy7 _
        have HW := Lib.hid (show WN w w9 p b g o y [(⟨y1, y2, y3, y4, y5, s1, s2⟩ : Hd)] ⟨y1, y2, y3, y4, y5, s1, s2⟩ ⟨y1, y2, y3, y4, so, s1, s2⟩ ⟨y1, y2, y3, y4, y5 + (mo : Int), s1, s2⟩ from
          ⟨below_trans Hb7.out Hb7.out.size hb9, Hd7.out.keep hb9, Hk7.out.below hb9 Hk7.out.lt,
            by rw [← hw9]; have := (hko.set_ 4 (.int .i64 (so))).far (p := ⟨y, 4, none⟩) hoy (.int .i64 (y5 + (mo : Int))); simpa [Hd.cells] using this,
            by rw [← hw9]; have := (hky.far (p := ⟨o, 4, none⟩) (fun e => hoy e.symm) (.int .i64 (so))).set_ 4 (.int .i64 (y5 + (mo : Int))); simpa [Hd.cells] using this, Hlo.out⟩)
        have hget : getH ⟨y2, y3, y4⟩ [(⟨y1, y2, y3, y4, y5, s1, s2⟩ : Hd)] = some ⟨y1, y2, y3, y4, y5, s1, s2⟩ := if_pos rfl
        have hdrop : dropH ⟨y2, y3, y4⟩ [(⟨y1, y2, y3, y4, y5, s1, s2⟩ : Hd)] = [] := by simp [dropH, keyH]
        have Hget := Lib.hid hget
        have Hdrop := Lib.hid hdrop
        have HA2 := Lib.hid (fun W M' (hW : WN w W p b g o y M' ⟨y1, y2, y3, y4, y5, s1, s2⟩ ⟨y1, y2, y3, y4, so, s1, s2⟩ ⟨y1, y2, y3, y4, y5 + (mo : Int), s1, s2⟩) (hM : ∀ x ∈ M', ageOk x) (hn : addAllM M' [(⟨y1, y2, y3, y4, y5, s1, s2⟩ : Hd)] = [(⟨y1, y2, y3, y4, y5, s1, s2⟩ : Hd)]) => WaAdd_one p b M' ⟨y1, y2, y3, y4, y5, s1, s2⟩ W hW.wa hM Hage.out 1 (by rw [hn]; rfl))
        have HYo := Lib.hid (fun W (hW : WN w W p b g o y [(⟨y1, y2, y3, y4, y5, s1, s2⟩ : Hd)] ⟨y1, y2, y3, y4, y5, s1, s2⟩ ⟨y1, y2, y3, y4, so, s1, s2⟩ ⟨y1, y2, y3, y4, y5 + (mo : Int), s1, s2⟩) => WaTake_got p b [(⟨y1, y2, y3, y4, y5, s1, s2⟩ : Hd)] y1 y2 y3 y4 (y5 + (mo : Int)) s1 s2 W hW.wa ⟨y1, y2, y3, y4, y5, s1, s2⟩ hget Hage.out Ha.out.1 Ha.out.2 (decide_eq_false (by
          rcases Nat.eq_zero_or_pos mo with h | h
          · subst h
            rw [show y5 + ((0 : Nat) : Int) = y5 by omega, nw_self]
            decide
          · rw [nw_less (show y5 < y5 + (mo : Int) by omega)]
            decide)))
        have HYn := Lib.hid (fun W (hW : WN w W p b g o y [] ⟨y1, y2, y3, y4, y5, s1, s2⟩ ⟨y1, y2, y3, y4, so, s1, s2⟩ ⟨y1, y2, y3, y4, y5 + (mo : Int), s1, s2⟩) => WaTake_none p b [] y1 y2 y3 y4 (y5 + (mo : Int)) s1 s2 W hW.wa rfl)
        have HLen := Lib.hid (fun M' W (hW : WN w W p b g o y M' ⟨y1, y2, y3, y4, y5, s1, s2⟩ ⟨y1, y2, y3, y4, so, s1, s2⟩ ⟨y1, y2, y3, y4, y5 + (mo : Int), s1, s2⟩) => WaLen p b M' W hW.wa)
        go_upto_region 11 with fail
        have Hso := Lib.hid hso
        clear hso hw9 hb9 hko hky hbx hoy hyo ho7 hy7 e0 e1 e2 e3 e4 e5 e6 ef f0 f1 f2 f3 f4 f5 f6 ff hget hdrop
        obtain ⟨d0, d1, d2, d3, d4, d5, d6, df⟩ := blk7h HW.out.h; obtain ⟨e0, e1, e2, e3, e4, e5, e6, ef⟩ := blk7h HW.out.o; obtain ⟨f0, f1, f2, f3, f4, f5, f6, ff⟩ := blk7h HW.out.y
        rcases Nat.eq_zero_or_pos le with rfl | hpos
        · obtain rfl : y5 = so := by have := Hso.out; omega
          have HT := Lib.hid (WaTake_got p b [(⟨y1, y2, y3, y4, y5, s1, s2⟩ : Hd)] y1 y2 y3 y4 y5 s1 s2 w9 HW.out.wa ⟨y1, y2, y3, y4, y5, s1, s2⟩ Hget.out Hage.out Ha.out.1 Ha.out.2 (decide_eq_false (by rw [nw_self]; decide)))
          go_wp2_with fail
          with_reducible refine Calls.mono HT.out ?_
          rintro r w10 ⟨rfl, hd10, hg10⟩
          have HW10 := Lib.hid (show WN w w10 p b g o y [] _ _ _ from HW.out.grown (by rw [Hdrop.out] at hd10; exact hd10) hg10)
          clear hd10 hg10 d0 d1 d2 d3 d4 d5 d6 df e0 e1 e2 e3 e4 e5 e6 ef f0 f1 f2 f3 f4 f5 f6 ff
          obtain ⟨d0, d1, d2, d3, d4, d5, d6, df⟩ := blk7h HW10.out.h; obtain ⟨e0, e1, e2, e3, e4, e5, e6, ef⟩ := blk7h HW10.out.o; obtain ⟨f0, f1, f2, f3, f4, f5, f6, ff⟩ := blk7h HW10.out.y
          have hL := HLen.out _ w10 HW10.out
          simp only [List.length_nil] at hL
          have HA3 := Lib.hid (HA2.out w10 _ HW10.out (by simp) (add_nil _))
          have Hadd := Lib.hid (add_nil (⟨y1, y2, y3, y4, y5, s1, s2⟩ : Hd))
          go_wp2_with (first
            | (go_at_call 32; (with_reducible refine Calls.mono hL ?_); rintro r w11 ⟨rfl, rfl⟩)
            | fail)
          simp only [Hd.cells] at HA3
          with_reducible refine Calls.mono HA3.out ?_
          rintro r w12 ⟨rfl, hd12, hg12⟩
          have HW12 := Lib.hid (show WN w w12 p b g o y [(⟨y1, y2, y3, y4, y5, s1, s2⟩ : Hd)] _ _ _ from HW10.out.grown (by rw [Hadd.out] at hd12; exact hd12) hg12)
          clear hd12 hg12 d0 d1 d2 d3 d4 d5 d6 df e0 e1 e2 e3 e4 e5 e6 ef f0 f1 f2 f3 f4 f5 f6 ff HA3
          obtain ⟨d0, d1, d2, d3, d4, d5, d6, df⟩ := blk7h HW12.out.h; obtain ⟨e0, e1, e2, e3, e4, e5, e6, ef⟩ := blk7h HW12.out.o; obtain ⟨f0, f1, f2, f3, f4, f5, f6, ff⟩ := blk7h HW12.out.y
          have hT2 := HYo.out w12 HW12.out
          go_wp2_with fail
          with_reducible refine Calls.mono hT2 ?_
          rintro r w13 ⟨rfl, hd13, hg13⟩
          have HW13 := Lib.hid (show WN w w13 p b g o y [] _ _ _ from HW12.out.grown (by rw [Hdrop.out] at hd13; exact hd13) hg13)
          clear hd13 hg13 hT2 d0 d1 d2 d3 d4 d5 d6 df e0 e1 e2 e3 e4 e5 e6 ef f0 f1 f2 f3 f4 f5 f6 ff
          obtain ⟨d0, d1, d2, d3, d4, d5, d6, df⟩ := blk7h HW13.out.h; obtain ⟨e0, e1, e2, e3, e4, e5, e6, ef⟩ := blk7h HW13.out.o; obtain ⟨f0, f1, f2, f3, f4, f5, f6, ff⟩ := blk7h HW13.out.y
          have hL2 := HLen.out _ w13 HW13.out
          simp only [List.length_nil] at hL2
          have HY2 := Lib.hid (HYn.out w13 HW13.out)
          go_wp2_with (first
            | (go_at_call 32; (with_reducible refine Calls.mono hL2 ?_); rintro r w14 ⟨rfl, rfl⟩)
            | (go_at_call 31; (with_reducible refine Calls.mono HY2.out ?_); rintro r w15 ⟨rfl, hb15⟩; have HW15 := Lib.hid (HW13.out.keep hb15); clear hb15)
            | fail)
          go_ret
          exact ⟨rfl, HW15.out.bel⟩
        · have HT := Lib.hid (WaTake_old p b [(⟨y1, y2, y3, y4, y5, s1, s2⟩ : Hd)] y1 y2 y3 y4 (so) s1 s2 w9 HW.out.wa ⟨y1, y2, y3, y4, y5, s1, s2⟩ Hget.out Hage.out Ha.out.1 Ha.out.2 (decide_eq_true (by rw [nw_more (show so < y5 by have := Hso.out; omega)]; decide)))
          have g3 : (0 : Int) < (le : Int) := by omega
          have g4 : ((le : Int) == 0) = false := by simp; omega
          go_wp2_with fail
          with_reducible refine Calls.mono HT.out ?_
          rintro r w10 ⟨rfl, hb10⟩
          have HW10 := Lib.hid (HW.out.keep hb10)
          clear hb10 d0 d1 d2 d3 d4 d5 d6 df e0 e1 e2 e3 e4 e5 e6 ef f0 f1 f2 f3 f4 f5 f6 ff
          obtain ⟨d0, d1, d2, d3, d4, d5, d6, df⟩ := blk7h HW10.out.h; obtain ⟨e0, e1, e2, e3, e4, e5, e6, ef⟩ := blk7h HW10.out.o; obtain ⟨f0, f1, f2, f3, f4, f5, f6, ff⟩ := blk7h HW10.out.y
          have hL := HLen.out _ w10 HW10.out
          simp only [List.length_singleton] at hL
          have HA3 := HA2.out w10 _ HW10.out (by intro x hx; simp at hx; subst hx; exact Hage.out) (add_same _)
          have HA3 := Lib.hid HA3
          have Hadd := Lib.hid (add_same (⟨y1, y2, y3, y4, y5, s1, s2⟩ : Hd))
          go_wp2_with (first
            | (go_at_call 32; (with_reducible refine Calls.mono hL ?_); rintro r w11 ⟨rfl, rfl⟩)
            | fail)
          simp only [Hd.cells] at HA3
          with_reducible refine Calls.mono HA3.out ?_
          rintro r w12 ⟨rfl, hd12, hg12⟩
          have HW12 := Lib.hid (show WN w w12 p b g o y [(⟨y1, y2, y3, y4, y5, s1, s2⟩ : Hd)] _ _ _ from HW10.out.grown (by rw [Hadd.out] at hd12; exact hd12) hg12)
          clear hd12 hg12 d0 d1 d2 d3 d4 d5 d6 df e0 e1 e2 e3 e4 e5 e6 ef f0 f1 f2 f3 f4 f5 f6 ff HA3
          obtain ⟨d0, d1, d2, d3, d4, d5, d6, df⟩ := blk7h HW12.out.h; obtain ⟨e0, e1, e2, e3, e4, e5, e6, ef⟩ := blk7h HW12.out.o; obtain ⟨f0, f1, f2, f3, f4, f5, f6, ff⟩ := blk7h HW12.out.y
          have hT2 := HYo.out w12 HW12.out
          go_wp2_with fail
          with_reducible refine Calls.mono hT2 ?_
          rintro r w13 ⟨rfl, hd13, hg13⟩
          have HW13 := Lib.hid (show WN w w13 p b g o y [] _ _ _ from HW12.out.grown (by rw [Hdrop.out] at hd13; exact hd13) hg13)
          clear hd13 hg13 hT2 d0 d1 d2 d3 d4 d5 d6 df e0 e1 e2 e3 e4 e5 e6 ef f0 f1 f2 f3 f4 f5 f6 ff
          obtain ⟨d0, d1, d2, d3, d4, d5, d6, df⟩ := blk7h HW13.out.h; obtain ⟨e0, e1, e2, e3, e4, e5, e6, ef⟩ := blk7h HW13.out.o; obtain ⟨f0, f1, f2, f3, f4, f5, f6, ff⟩ := blk7h HW13.out.y
          have hL2 := HLen.out _ w13 HW13.out
          simp only [List.length_nil] at hL2
          have HY2 := Lib.hid (HYn.out w13 HW13.out)
          go_wp2_with (first
            | (go_at_call 32; (with_reducible refine Calls.mono hL2 ?_); rintro r w14 ⟨rfl, rfl⟩)
            | (go_at_call 31; (with_reducible refine Calls.mono HY2.out ?_); rintro r w15 ⟨rfl, hb15⟩; have HW15 := Lib.hid (HW13.out.keep hb15); clear hb15)
            | fail)
          go_ret
          exact ⟨rfl, HW15.out.bel⟩

end Go.Proofs.Ytmjjmkdjjfmhhaa
