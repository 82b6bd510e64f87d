/-
  Layer 20: all leaves: the document's way.
-/
import Derived.Test.YtpfjgecdlilkcaaGrRefL
import Derived.Test.YtpfjgecdlilkcaaGrLeaves
namespace Go.Proofs.Ytpfjgecdlilkcaa
open Go.RowKit Go.Sort

def linkF (n : Int) (ys : List Lnk) : List Int := ys.filterMap fun y => if y.kind = 3 ∧ y.id / 16 = n then some y.cost else none
def refF (r n : Int) (T : List VX) : List Int := T.flatMap fun x => if x.1.adv = r then linkF n x.2.1 else []
theorem linkF_more (n : Int) {ys : List Lnk} {j : Nat} (hj : j < ys.length) : linkF n (ys.take (j + 1)) = linkF n (ys.take j) ++ if ys[j].kind = 3 ∧ ys[j].id / 16 = n then [ys[j].cost] else [] := by
  unfold linkF
  rw [List.take_succ_eq_append_getElem hj, List.filterMap_append]
  congr 1
  by_cases h : ys[j].kind = 3 ∧ ys[j].id / 16 = n <;> simp [h]
theorem refF_more (r n : Int) {T : List VX} {k : Nat} (hk : k < T.length) : refF r n (T.take (k + 1)) = refF r n (T.take k) ++ if T[k].1.adv = r then linkF n T[k].2.1 else [] := by
  unfold refF
  rw [List.take_succ_eq_append_getElem hk, List.flatMap_append, List.flatMap_singleton]
theorem refF_best (C : List VX) (r n : Int) : bestL (refF r n C) = leafCost C r n := by
  refine bestL_ext fun c => ?_
  rw [mem_leaf]
  unfold refF linkF
  rw [List.mem_flatMap]
  constructor
  · rintro ⟨x, hx, hm⟩
    split at hm
    · rename_i h1
      rw [List.mem_filterMap] at hm
      obtain ⟨y, hy, he⟩ := hm
      split at he
      · rename_i h2
        injection he with he
        exact ⟨x, hx, y, hy, h1, h2.1, h2.2, he⟩
      · cases he
    · cases hm
  · rintro ⟨x, hx, y, hy, g1, g2, g3, g4⟩
    refine ⟨x, hx, ?_⟩
    rw [if_pos g1, List.mem_filterMap]
    exact ⟨y, hy, by rw [if_pos ⟨g2, g3⟩, g4]⟩
def preF (f : Int → Int → Option Int) (i : Nat) : List Lf := (rng 1 i).flatMap fun r => (rng 0 4).filterMap (leafA f r)
theorem leaves_pre (f : Int → Int → Option Int) : leavesC f = preF f 15 := rfl
theorem preF_more (f : Int → Int → Option Int) (i : Nat) : preF f (i + 1) = preF f i ++ (rng 0 4).filterMap (leafA f (1 + (i : Int))) := by
  unfold preF
  rw [rng_more 1 i, List.flatMap_append, List.flatMap_singleton]
theorem preF_len (f : Int → Int → Option Int) (i : Nat) : (preF f i).length ≤ i * 4 := by
  have := flat_len (m := 4) (fun r => (rng 0 4).filterMap (leafA f r)) (rng 1 i) (fun _ _ => fil_len _ _ _)
  rw [rng_len] at this
  exact this
theorem tdiv16 (x : Int) (h : 0 ≤ x) : Int.tdiv x 16 = x / 16 := Int.tdiv_eq_ediv_of_nonneg h

set_option maxHeartbeats 16000000 in
set_option maxRecDepth 100000 in
theorem refLeaves_any (A : Option Addr) (cap : Nat) (l : List Lsa) (w : World) (hl : RowsAt 9 Lsa.cells w w.heap.size A l) (he : ∀ x ∈ l, RowsAt 4 Lnk.cells w w.heap.size x.ka x.links ∧ RowsAt 1 icell w w.heap.size x.ma x.members) (hlens : ∀ x ∈ l, x.links.length ≤ 1000 ∧ x.members.length ≤ 1000) (hm : l.length ≤ 2 ^ 16) (nn : Nat) (hnn : nn = l.length) :
    Calls Try.prog 25 #[.slice A nn cap] w fun r w' => (∃ v, r = .returned v ∧ OwnR 93 3 Lf.cells w' w.heap.size v (leavesV (l.map vX))) ∧ Below w.heap.size w w' := by
  have HCo := Lib.hid (refCounts_any A cap l w hl he hlens hm nn hnn)
  clear hl he hlens hnn
  go_enter Try.func25, Try.ntmps25
  go_wp2_with fail
  with_reducible refine Calls.mono HCo.out ?_
  rintro r w1 ⟨⟨v1, rfl, O, hx1, hO1⟩, hb1⟩
  obtain ⟨A1, c1, hv1⟩ := hx1.own.shape
  subst hv1
  have hOl : O.length ≤ 2 ^ 16 := by
    have h1 := congrArg List.length hO1
    have h2 := countsV_len (l.map vX)
    rw [List.length_map] at h1 h2
    omega
  have hcn : CntOk (O.map vX) := by rw [hO1]; exact countsV_ok _
  have hOi : (O.length : Int) ≤ 65536 := by omega
  have HX1 := Lib.hid hx1
  have Hcn := Lib.hid hcn
  have HE := Lib.hid (show leavesV (l.map vX) = preF (leafCost (O.map vX)) 15 by unfold leavesV; rw [← hO1, leaves_pre])
  have Hb1 := Lib.hid hb1
  clear hx1 hO1 hcn hb1
  go_wp2
  go_loopw [4, 5] (fun v rr wr => ∃ i : Nat, rr = .int .i64 (1 + (i : Int)) ∧ i ≤ 15 ∧ OwnR 93 3 Lf.cells wr w1.heap.size v (preF (leafCost (O.map vX)) i) ∧ Below w1.heap.size w1 wr) (fun _ rr _ => 16 - (intOf rr).toNat)
  case atStart => exact ⟨0, rfl, by decide, OwnR.nil _ _, Below.refl _ _⟩
  case round =>
    obtain ⟨i, rfl, hi, hown, hb⟩ := hrel
    obtain ⟨A7, c7, hv7⟩ := hown.shape
    subst hv7
    have hpl := preF_len (leafCost (O.map vX)) i
    obtain ⟨P, hP⟩ : ∃ P, preF (leafCost (O.map vX)) i = P := ⟨_, rfl⟩
    rw [hP] at hown hpl ⊢
    have Hown := Lib.hid hown
    have Hb := Lib.hid hb
    by_cases hlt : i < 15
    · obtain ⟨r0, hr0⟩ : ∃ r0, 1 + (i : Int) = r0 := ⟨_, rfl⟩
      have h15 : r0 ≤ 15 := by omega
      have h1r : 1 ≤ r0 := by omega
      have hmp := preF_more (leafCost (O.map vX)) i
      rw [hP, hr0] at hmp
      have Hmore := Lib.hid hmp
      have HPl := Lib.hid hpl
      have Hr0 := Lib.hid hr0
      have Hlt := Lib.hid hlt
      rw [hr0]
      clear hown hb hP hmp hr0 hlt hi hpl
      go_wp2
      go_loopw [4, 6] (fun v n wr => ∃ j : Nat, n = .int .i64 (j : Int) ∧ j ≤ 4 ∧ OwnR 93 3 Lf.cells wr w1.heap.size v (P ++ (rng 0 j).filterMap (leafA (leafCost (O.map vX)) r0)) ∧ Below w1.heap.size w1 wr) (fun _ n _ => 4 - (intOf n).toNat)
      case atStart => exact ⟨0, rfl, by decide, by simpa [rng] using Hown.out, Hb.out⟩
      case round =>
        obtain ⟨j, rfl, hj, hown, hb⟩ := hrel
        obtain ⟨A7, c7, hv7⟩ := hown.shape
        subst hv7
        have hql := fil_len (leafA (leafCost (O.map vX)) r0) 0 j
        have hmj := fil_more (leafA (leafCost (O.map vX)) r0) 0 j
        rw [Int.zero_add] at hmj
        have hll : (P ++ (rng 0 j).filterMap (leafA (leafCost (O.map vX)) r0)).length ≤ 2000 := by rw [List.length_append]; have := HPl.out; have := Hlt.out; omega
        obtain ⟨Q, hQ⟩ : ∃ Q, P ++ (rng 0 j).filterMap (leafA (leafCost (O.map vX)) r0) = Q := ⟨_, rfl⟩
        have hmj2 : P ++ (rng 0 (j + 1)).filterMap (leafA (leafCost (O.map vX)) r0) = Q ++ optL (leafA (leafCost (O.map vX)) r0 (j : Int)) := by rw [hmj, ← hQ, List.append_assoc]
        rw [hQ] at hown hll ⊢
        have Hown2 := Lib.hid hown
        have Hb2 := Lib.hid hb
        have Hll := Lib.hid hll
        clear Hown Hb
        by_cases hlj : j < 4
        · have h64 : (j : Int) < 4 := by omega
          obtain ⟨n0, hn0⟩ : ∃ n0, (j : Int) = n0 := ⟨_, rfl⟩
          rw [hn0] at hmj2 h64 ⊢
          have h0n : 0 ≤ n0 := by omega
          have Hn0 := Lib.hid hn0
          have Hmj := Lib.hid hmj2
          have Hlj := Lib.hid hlj
          clear hown hb hQ hmj hql hll hmj2 hn0 hlj hj
          go_wp2
          go_loopw [7, 8] (fun bv q wr => ∃ q' : Nat, q = .int .i64 (q' : Int) ∧ q' ≤ O.length ∧ BestAt bv (refF r0 n0 ((O.map vX).take q')) ∧ OwnR 93 3 Lf.cells wr w1.heap.size (.slice A7 Q.length c7) Q ∧ Below w1.heap.size w1 wr) (fun _ q _ => O.length - (intOf q).toNat)
          case atStart => exact ⟨0, rfl, Nat.zero_le _, BestAt.nil, Hown2.out, Hb2.out⟩
          case round =>
            obtain ⟨q, rfl, hq, hbs, hown, hb⟩ := hrel
            obtain ⟨bb, rfl⟩ := hbs.shape
            clear Hown2 Hb2
            have HBs := Lib.hid hbs
            have Hown2 := Lib.hid hown
            have Hb2 := Lib.hid hb
            by_cases hql : q < O.length
            · have hqk : (q : Int) < (O.length : Int) := by omega
              have hmq := refF_more r0 n0 (T := O.map vX) (k := q) (by simpa using hql)
              rw [List.getElem_map] at hmq
              have hmem := List.getElem_mem hql
              obtain ⟨gA, oA, hA0, -⟩ := row_lsa9b (OwnR.rows (C := 9) (cells := Lsa.cells) (fun _ => rfl) HX1.out.own).2 q hql
              have HA0 := Lib.hid hA0
              rw [hA0]
              clear hA0
              generalize hx : O[q] = x at *
              have HX := Lib.hid hx
              have Hmem := Lib.hid hmem
              have Hql := Lib.hid hql
              obtain ⟨⟨y1, y2, y3, y4, y5, y6, y7⟩, ka, kc, ls, ma, mc, ms⟩ := x
              change refF r0 n0 ((O.map vX).take (q + 1)) = refF r0 n0 ((O.map vX).take q) ++ (if y4 = r0 then linkF n0 ls else []) at hmq
              obtain ⟨nl, hnl⟩ : ∃ nl, ls.length = nl := ⟨_, rfl⟩
              have hnl3 : nl ≤ 1000 := by have := (HX1.out.lens _ hmem).1; simp only at this; omega
              have hnl2 : (nl : Int) ≤ 1000 := by omega
              have Hnl := Lib.hid hnl
              have Hcnt := Lib.hid (Hcn.out.each _ (List.mem_map_of_mem hmem))
              obtain ⟨S, hS⟩ : ∃ S, refF r0 n0 ((O.map vX).take q) = S := ⟨_, rfl⟩
              rw [hS] at hbs hmq
              have Hmq := Lib.hid hmq
              have HBs2 := Lib.hid hbs
              clear hx hmem hnl hS hbs hown hb hmq hq HBs
              by_cases h4 : y4 = r0
              · have hmq2 := Hmq.out
                rw [if_pos h4] at hmq2
                have Hmq2 := Lib.hid hmq2
                have H4 := Lib.hid h4
                clear hmq2 h4
                go_wp2
                go_loopw [7, 9] (fun bv s wr => ∃ s' : Nat, s = .int .i64 (s' : Int) ∧ s' ≤ nl ∧ BestAt bv (S ++ linkF n0 (ls.take s')) ∧ OwnR 93 3 Lf.cells wr w1.heap.size (.slice A7 Q.length c7) Q ∧ Below w1.heap.size w1 wr) (fun _ s _ => nl - (intOf s).toNat)
                case atStart => exact ⟨0, rfl, Nat.zero_le _, by simpa [linkF] using HBs2.out, Hown2.out, Hb2.out⟩
                case round =>
                  obtain ⟨s, rfl, hs, hbs, hown, hb⟩ := hrel
                  obtain ⟨bb, rfl⟩ := hbs.shape
                  clear Hown2 Hb2 HBs2
                  have HBs := Lib.hid hbs
                  have Hown2 := Lib.hid hown
                  have Hb2 := Lib.hid hb
                  obtain ⟨g3, o3, hA3, -, x0, x1, x2, x3, x4, x5, x6, x7, x8⟩ := row_lsaX (OwnR.rows (C := 9) (cells := Lsa.cells) (fun _ => rfl) (HX1.out.keep hb).own).2 q Hql.out HX.out
                  simp only at x0 x1 x2 x3 x4 x5 x6 x7 x8
                  rw [Hnl.out] at x7
                  have hA3' := hA3.symm.trans HA0.out
                  injection hA3' with hA3'
                  injection hA3' with e1' e2'
                  subst e1' e2'
                  by_cases hsl : s < nl
                  · have hsl2 : s < ls.length := by have := Hnl.out; omega
                    obtain ⟨g', o', hA', -, t0, t1, t2, t3⟩ := row_lnk ((HX1.out.keep hb).rows _ Hmem.out).1 s hsl2
                    simp only at hA'
                    have hsk : (s : Int) < (nl : Int) := by omega
                    have hmj := linkF_more n0 hsl2
                    have hyl := cnt_links Hcnt.out (y := ls[s]'hsl2) (List.getElem_mem hsl2)
                    rw [hA'] at x7
                    have Hsl := Lib.hid hsl
                    simp only at t0 t1 t2 t3
                    generalize ls[s]'hsl2 = y at *
                    obtain ⟨e1, e2, e3, e4⟩ := y
                    simp only at t0 t1 t2 t3 hmj hyl
                    have hmj2 : S ++ linkF n0 (ls.take (s + 1)) = S ++ linkF n0 (ls.take s) ++ (if e1 = 3 ∧ e2 / 16 = n0 then [e4] else []) := by rw [hmj, List.append_assoc]
                    have Hmj2 := Lib.hid hmj2
                    have hno : ¬ (e1 = 3 ∧ e2 / 16 = n0) → BestAt (.int .i64 bb) (S ++ linkF n0 (ls.take (s + 1))) := fun P => by rw [hmj2, if_neg P, List.append_nil]; exact hbs
                    have Hno2 := Lib.hid hno
                    have hbc := best_cases hbs hyl.2.2.2.1
                    have Hal := Lib.hid (fun o => hb.alloc hb.size o)
                    have Hoa := Lib.hid (fun o => hown.alloc o)
                    have htd := tdiv16 e2 hyl.2.2.1.1
                    have hwt : wrap64 (Int.tdiv e2 16) = Int.tdiv e2 16 := by unfold wrap64; rw [htd]; have := hyl.2.2.1; omega
                    have h4 := H4.out
                    clear hA3 hA' hsl hsl2 hmj hmj2 hno hbs hown hb hs hyl HBs
                    by_cases f1 : e1 = 3
                    · by_cases f2 : e2 / 16 = n0
                      · have hmj3 := Hmj2.out
                        rw [if_pos ⟨f1, f2⟩] at hmj3
                        have Hmj3 := Lib.hid hmj3
                        have htd2 : Int.tdiv e2 16 = n0 := by rw [htd, f2]
                        clear hmj3 htd f2
                        subst f1
                        rcases hbc with ⟨c1, hB⟩ | ⟨c1, c2, hB⟩ | ⟨c1, c2, hB⟩
                        all_goals
                          have HB := Lib.hid hB
                          clear hB
                          go_wp2
                          go_roundw
                          case measure => have := Hsl.out; simp [intOf]; omega
                          case rel => exact ⟨s + 1, by go_num, Hsl.out, by rw [Hmj3.out]; exact HB.out, Hoa.out _, Hal.out _⟩
                      · have HN := Lib.hid (Hno2.out (fun P => f2 P.2))
                        have htd2 : ¬ Int.tdiv e2 16 = n0 := by rw [htd]; exact f2
                        have htd3 : (Int.tdiv e2 16 == n0) = false := by simpa using htd2
                        clear hbc htd f2
                        subst f1
                        go_wp2
                        go_roundw
                        case measure => have := Hsl.out; simp [intOf]; omega
                        case rel => exact ⟨s + 1, by go_num, Hsl.out, HN.out, Hoa.out _, Hal.out _⟩
                    · have HN := Lib.hid (Hno2.out (fun P => f1 P.1))
                      clear hbc htd
                      go_wp2
                      go_roundw
                      case measure => have := Hsl.out; simp [intOf]; omega
                      case rel => exact ⟨s + 1, by go_num, Hsl.out, HN.out, Hoa.out _, Hal.out _⟩
                  · have hse : s = nl := by omega
                    subst hse
                    have hls2 : ls.take ls.length = ls := List.take_length
                    have hbs2 : BestAt (.int .i64 bb) (refF r0 n0 ((O.map vX).take (q + 1))) := by
                      rw [Hmq2.out]
                      rw [← Hnl.out, hls2] at hbs
                      exact hbs
                    have HBs3 := Lib.hid hbs2
                    have hsk : ¬ (s : Int) < (s : Int) := by omega
                    clear hA3 hsl hbs hown hb hbs2 hls2 hs HBs
                    go_wp2
                    go_roundw
                    case measure => have := Hql.out; simp [intOf]; omega
                    case rel => exact ⟨q + 1, by go_num, Hql.out, HBs3.out, Hown2.out, Hb2.out⟩
              · have hmq2 := Hmq.out
                rw [if_neg h4, List.append_nil] at hmq2
                have Hmq2 := Lib.hid hmq2
                have H4 := Lib.hid h4
                clear hmq2 h4
                go_wp2
                go_loopw [7, 9] (fun bv s wr => bv = .int .i64 bb ∧ s = .int .i64 0 ∧ OwnR 93 3 Lf.cells wr w1.heap.size (.slice A7 Q.length c7) Q ∧ Below w1.heap.size w1 wr) (fun _ _ _ => 0)
                case atStart => exact ⟨rfl, rfl, Hown2.out, Hb2.out⟩
                case round =>
                  obtain ⟨rfl, rfl, hown, hb⟩ := hrel
                  clear Hown2 Hb2
                  have Hown2 := Lib.hid hown
                  have Hb2 := Lib.hid hb
                  obtain ⟨g3, o3, hA3, -, x0, x1, x2, x3, x4, x5, x6, x7, x8⟩ := row_lsaX (OwnR.rows (C := 9) (cells := Lsa.cells) (fun _ => rfl) (HX1.out.keep hb).own).2 q Hql.out HX.out
                  simp only at x0 x1 x2 x3 x4 x5 x6 x7 x8
                  rw [Hnl.out] at x7
                  have hA3' := hA3.symm.trans HA0.out
                  injection hA3' with hA3'
                  injection hA3' with e1' e2'
                  subst e1' e2'
                  have h4 := H4.out
                  clear hA3 hown hb
                  by_cases hn0 : nl = 0
                  · subst hn0
                    go_wp2
                    go_roundw
                    case measure => have := Hql.out; simp [intOf]; omega
                    case rel => exact ⟨q + 1, by go_num, Hql.out, by rw [Hmq2.out]; exact HBs2.out, Hown2.out, Hb2.out⟩
                  · have hp : (0 : Int) < (nl : Int) := by omega
                    go_wp2
                    go_roundw
                    case measure => have := Hql.out; simp [intOf]; omega
                    case rel => exact ⟨q + 1, by go_num, Hql.out, by rw [Hmq2.out]; exact HBs2.out, Hown2.out, Hb2.out⟩
            · have hqe : q = O.length := by omega
              subst hqe
              have hqk : ¬ (O.length : Int) < (O.length : Int) := by omega
              have hv := hbs.val
              rw [show (O.map vX).take O.length = O.map vX from by rw [← List.length_map (f := vX), List.take_length], refF_best] at hv
              injection hv with _ hv
              have hmj2 := Hmj.out
              clear hql hbs hown hb hq HBs
              cases hfc : leafCost (O.map vX) r0 n0 with
              | none =>
                have hed : leafA (leafCost (O.map vX)) r0 n0 = none := by unfold leafA; rw [hfc]; rfl
                rw [hed] at hmj2
                simp only [optL, List.append_nil] at hmj2
                rw [hfc] at hv
                simp only [encO] at hv
                have Hmj3 := Lib.hid hmj2
                subst hv
                clear hmj2 hfc hed
                go_wp2
                go_roundw
                case measure => rw [← Hn0.out]; have := Hlj.out; simp [intOf]; omega
                case rel => exact ⟨j + 1, by rw [← Hn0.out]; go_num, Hlj.out, by rw [Hmj3.out]; exact Hown2.out, Hb2.out⟩
              | some c =>
                have hed : leafA (leafCost (O.map vX)) r0 n0 = some ⟨r0, n0, c⟩ := by unfold leafA; rw [hfc]; rfl
                rw [hed] at hmj2
                simp only [optL] at hmj2
                have hc1 := (leaf_bounds Hcn.out (leaf_is hfc)).2.2.1
                rw [hfc] at hv
                simp only [encO] at hv
                have Hmj3 := Lib.hid hmj2
                subst hv
                clear hmj2 hfc hed
                go_wp2_with (at_builtin; (refine app_row (e := 93) Lf.cells (fun _ => rfl) (by decide) (bytes := 24) (by decide) infoF rfl Try.underlying50 onesF (by rfl) _ _ (by rfl) w1.heap.size _ Q (by rfl) (Hown2.out.alloc _) wr.heap.size ⟨r0, n0, bb⟩ (by rfl) (Blk.new _ _ _) (by have := Hll.out; omega) (by have := Hb2.out.size; simp; omega) ?_); intro v6 w6 hown6 hg6 hor6; have HO6 := Lib.hid hown6; have HB6 := Lib.hid (show Below w1.heap.size w1 w6 from (Hb2.out.alloc Hb2.out.size _).grown hg6 (by have := Hb2.out.size; simp; omega) (fun m e => (Hown2.out.block m e).1)); clear hown6 hg6 hor6)
                go_roundw
                case measure => rw [← Hn0.out]; have := Hlj.out; simp [intOf]; omega
                case rel => exact ⟨j + 1, by rw [← Hn0.out]; go_num, Hlj.out, by rw [Hmj3.out]; exact HO6.out, HB6.out⟩
        · have hje : j = 4 := by omega
          subst hje
          rw [← Hmore.out] at hQ
          have HQ := Lib.hid hQ
          clear hown hb hQ hmj hmj2 hql hll HPl
          go_wp2
          go_roundw
          case measure => rw [← Hr0.out]; have := Hlt.out; simp [intOf]; omega
          case rel => exact ⟨i + 1, by rw [← Hr0.out]; go_num, Hlt.out, by rw [HQ.out]; exact Hown2.out, Hb2.out⟩
    · have hie : i = 15 := by omega
      subst hie
      have HP := Lib.hid hP
      clear hown hb hP hlt hi hpl
      go_wp2
      go_ret
      refine ⟨⟨_, rfl, ?_⟩, below_trans Hb1.out Hb1.out.size Hb.out⟩
      rw [HE.out, HP.out]
      exact Hown.out.lower Hb1.out.size

end Go.Proofs.Ytpfjgecdlilkcaa
