/-
  The law GraphBoth: its walk.
-/
import Derived.Test.YtbffhdlfplgccaaGrWakes
import Derived.Test.YtbffhdlfplgccaaGrRefL
import Derived.Test.YtbffhdlfplgccaaLsMany
namespace Go.Proofs.Ytbffhdlfplgccaa
open Go.RowKit Go.Sort

theorem filter_one {α : Type} {R : α → α → Prop} {p : α → Bool} {L : List α} (hs : L.Pairwise R) (hex : ∃ x ∈ L, p x = true) (hun : ∀ x y, p x = true → p y = true → ¬ R x y) : (L.filter p).length = 1 := by
  have hf : (L.filter p).Pairwise R := hs.filter _
  obtain ⟨x, hx, hp⟩ := hex
  have hm : x ∈ L.filter p := List.mem_filter.2 ⟨hx, hp⟩
  match h : L.filter p with
  | [] => rw [h] at hm; cases hm
  | [y] => rfl
  | y :: z :: t =>
    rw [h] at hf
    have h1 : y ∈ L.filter p := by rw [h]; simp
    have h2 : z ∈ L.filter p := by rw [h]; simp
    exact absurd ((List.pairwise_cons.1 hf).1 z (by simp)) (hun y z (List.mem_filter.1 h1).2 (List.mem_filter.1 h2).2)
/-- of edges those that lead to a vertex -/
def inB2 (a b : Int) (e : Ed) : Bool := decide (e.tk = a) && decide (e.ti = b)
def inL (a b : Int) (l : List Ed) : List Ed := l.filter (inB2 a b)
theorem in_more (a b : Int) {l : List Ed} {k : Nat} (hk : k < l.length) : inL a b (l.take (k + 1)) = inL a b (l.take k) ++ if inB2 a b l[k] = true then [l[k]] else [] := by
  unfold inL
  rw [List.take_succ_eq_append_getElem hk, List.filter_append]
  congr 1
  by_cases h : inB2 a b l[k] = true <;> simp [h]
theorem in_len (a b : Int) (l : List Ed) : (inL a b l).length ≤ l.length := List.length_filter_le _ _
theorem both_one {f : Int → Int → Option Int} {e : Ed} (he : e ∈ edgesC f) : (inL e.fk e.fi (outL e.tk e.ti (edgesC f))).length = 1 := by
  unfold inL outL
  rw [List.filter_filter]
  refine filter_one (edgesC_sorted f) ?_ ?_
  · obtain ⟨r, n, c, hr, hn, hc, rfl | rfl⟩ := mem_edges.1 he
    · exact ⟨⟨2, n, 1, r, 0⟩, mem_edges.2 ⟨r, n, c, hr, hn, hc, .inr rfl⟩, by simp [inB2, outB]⟩
    · exact ⟨⟨1, r, 2, n, c⟩, mem_edges.2 ⟨r, n, c, hr, hn, hc, .inl rfl⟩, by simp [inB2, outB]⟩
  · intro x y hx hy hlt
    simp only [inB2, outB, Bool.and_eq_true, decide_eq_true_eq] at hx hy
    unfold ltE at hlt
    omega
theorem edge_facts {C : List VX} (h : CntOk C) {e : Ed} (he : e ∈ edgesC (costC C)) : (e.fk = 1 ∧ e.tk = 2 ∧ 1 ≤ e.cost ∧ e.cost ≤ 100) ∨ (e.fk = 2 ∧ e.tk = 1 ∧ e.cost = 0) := by
  obtain ⟨r, n, c, hr, hn, hc, rfl | rfl⟩ := mem_edges.1 he
  · have hb := (cand_bounds h (cost_is h hc)).2.2
    exact .inl ⟨rfl, rfl, hb.1, hb.2⟩
  · exact .inr ⟨rfl, rfl, rfl⟩
theorem edges_len2 (f : Int → Int → Option Int) : (edgesC f).length ≤ 2000 := by
  rw [edges_pre, List.length_append]
  have h1 := preA_len f 15
  have h2 := preB_len f 64
  omega

set_option maxHeartbeats 8000000 in
set_option maxRecDepth 100000 in
theorem graphBoth_any (A : Option Addr) (cap : Nat) (l : List Lsa) (w : World) (hl : LsasAt w w.heap.size A l) (hm : l.length ≤ maxLen) :
    Calls Try.prog 11 #[.slice A l.length cap] w fun r w' => r = .returned (.bool true) ∧ Below w.heap.size w w' := by
  have HL := Lib.hid hl
  obtain ⟨t, ht⟩ : ∃ t, manyB 40 l = t := ⟨_, rfl⟩
  have HMany := Lib.hid (fun W (hW : Below w.heap.size w W) => many20 A cap l W w.heap.size (hl.rows.below hW) hW.size hm l.length rfl ht)
  have Ht := Lib.hid ht
  clear hl hm ht
  go_enter Try.func11, Try.ntmps11
  go_wp2_with fail
  with_reducible refine Calls.mono (wakes20 _) ?_
  rintro r w1 ⟨rfl, hb1⟩
  have Hb1 := Lib.hid hb1
  clear hb1
  go_wp2_with fail
  with_reducible refine Calls.mono (HMany.out _ Hb1.out) ?_
  rintro r w2 ⟨rfl, hb2⟩
  have Hb2 := Lib.hid (below_trans Hb1.out Hb1.out.size hb2)
  clear hb2
  cases t with
  | true =>
    go_wp2
    go_ret
    exact ⟨rfl, Hb2.out⟩
  | false =>
    obtain ⟨hl40, hlens⟩ := manyB_lens Ht.out
    have hlen2 : ∀ x ∈ l, x.links.length ≤ 1000 ∧ x.members.length ≤ 1000 := fun x hx => by have := hlens x hx; omega
    have HC := Lib.hid (fun W (hW : Below w.heap.size w W) => Edges_any A cap l W ((HL.out.rows.below hW).more hW.size) (fun x hx => ⟨((HL.out.each x hx).links.below hW).more hW.size, ((HL.out.each x hx).members.below hW).more hW.size⟩) hlen2 (by omega) l.length rfl)
    obtain ⟨E, hE⟩ : ∃ E, edgesV (l.map vX) = E := ⟨_, rfl⟩
    have hEl : E.length ≤ 2000 := by rw [← hE]; exact edges_len2 _
    have hEi : (E.length : Int) ≤ 2000 := by omega
    have HOne := Lib.hid (show ∀ e ∈ E, (inL e.fk e.fi (outL e.tk e.ti E)).length = 1 from fun e he => by rw [← hE] at he ⊢; exact both_one he)
    have HFa := Lib.hid (show ∀ e ∈ E, (e.fk = 1 ∧ e.tk = 2 ∧ 1 ≤ e.cost ∧ e.cost ≤ 100) ∨ (e.fk = 2 ∧ e.tk = 1 ∧ e.cost = 0) from fun e he => by rw [← hE] at he; exact edge_facts (countsV_ok _) he)
    rw [hE] at HC
    clear hl40 hlens hlen2 hE
    go_wp2_with fail
    with_reducible refine Calls.mono (HC.out _ Hb2.out) ?_
    rintro r w3 ⟨⟨v3, rfl, hx3⟩, hb3⟩
    obtain ⟨A3, c3, hv3⟩ := hx3.shape
    subst hv3
    have Hb3 := Lib.hid (below_trans Hb2.out Hb2.out.size hb3)
    have HX3 := Lib.hid (OwnR.rows (C := 5) (cells := Ed.cells) (fun _ => rfl) hx3).2
    clear hb3 hx3
    go_wp2
    go_loopw [17] (fun i wr => ∃ k : Nat, i = .int .i64 k ∧ k ≤ E.length ∧ Below w3.heap.size w3 wr) (fun i _ => E.length - (intOf i).toNat)
    case atStart => exact ⟨0, rfl, Nat.zero_le _, Below.refl _ _⟩
    case round =>
      obtain ⟨k, rfl, hk, hb⟩ := hrel
      have Hb := Lib.hid hb
      by_cases hlt : k < E.length
      · obtain ⟨g, o, hA, -, x0, x1, x2, x3, x4⟩ := row_ed (HX3.out.below hb) k hlt
        have hkl : (k : Int) < (E.length : Int) := by omega
        have hone := HOne.out E[k] (List.getElem_mem hlt)
        have hfa := HFa.out E[k] (List.getElem_mem hlt)
        have HA := Lib.hid hA
        rw [hA]
        have Hlt := Lib.hid hlt
        generalize E[k] = x at *
        obtain ⟨e1, e2, e3, e4, e5⟩ := x
        simp only at x0 x1 x2 x3 x4 hone hfa
        have Hone := Lib.hid hone
        have Hfa := Lib.hid hfa
        obtain ⟨w8, hw8⟩ : ∃ w8, wr.alloc (.cells #[.int .i64 e1, .int .i64 e2, .int .i64 e3, .int .i64 e4, .int .i64 e5] 78) = w8 := ⟨_, rfl⟩
        obtain ⟨g8, hg8⟩ : ∃ g8, wr.heap.size = g8 := ⟨_, rfl⟩
        have hk8 := Blk.new wr 78 #[.int .i64 e1, .int .i64 e2, .int .i64 e3, .int .i64 e4, .int .i64 e5]
        have hb8 := below_new wr (.cells #[.int .i64 e1, .int .i64 e2, .int .i64 e3, .int .i64 e4, .int .i64 e5] 78)
        rw [hw8, hg8] at hk8
        rw [hw8] at hb8
        have K8 := Lib.hid hk8
        have B8 := Lib.hid (below_trans hb hb.size hb8)
        have HOut := Lib.hid (Out_any e3 e4 A3 c3 E w8 w3.heap.size (HX3.out.below B8.out) B8.out.size (by omega) E.length rfl)
        rw [hA] at HOut
        obtain ⟨z0, z1, z2, z3, z4⟩ : _ ∧ _ ∧ _ ∧ _ ∧ _ := ⟨hk8.cell 0, hk8.cell 1, hk8.cell 2, hk8.cell 3, hk8.cell 4⟩
        simp only [List.getElem?_toArray, List.getElem?_cons_zero, List.getElem?_cons_succ] at z0 z1 z2 z3 z4
        obtain ⟨Q, hQ⟩ : ∃ Q, outL e3 e4 E = Q := ⟨_, rfl⟩
        have hQl : Q.length ≤ 2000 := by rw [← hQ]; exact Nat.le_trans (out_len _ _ _) hEl
        have hQi : (Q.length : Int) ≤ 2000 := by omega
        have hone2 := Hone.out
        rw [hQ] at HOut hone2
        have Hone2 := Lib.hid hone2
        clear hA hlt hk8 hb8 hb hone hfa hk hQ hone2
        go_wp2_with fail
        with_reducible refine Calls.mono HOut.out ?_
        rintro r w9 ⟨⟨v9, rfl, hx9⟩, hb9⟩
        obtain ⟨A9, c9, hv9⟩ := hx9.shape
        subst hv9
        have HX9 := Lib.hid (OwnR.rows (C := 5) (cells := Ed.cells) (fun _ => rfl) hx9).2
        have K9 := Lib.hid (K8.out.below hb9 K8.out.lt)
        have B9 := Lib.hid (below_trans B8.out B8.out.size hb9)
        clear hx9 hb9 z0 z1 z2 z3 z4 x0 x1 x2 x3 x4
        go_wp2
        go_loopw [6, 26] (fun n i wr => ∃ j : Nat, i = .int .i64 j ∧ j ≤ Q.length ∧ n = .int .i64 ((inL e1 e2 (Q.take j)).length : Int) ∧ Blk wr g8 78 #[.int .i64 e1, .int .i64 e2, .int .i64 e3, .int .i64 e4, .int .i64 e5] ∧ Below w9.heap.size w9 wr) (fun _ i _ => Q.length - (intOf i).toNat)
        case atStart => exact ⟨0, rfl, Nat.zero_le _, rfl, K9.out, Below.refl _ _⟩
        case round =>
          obtain ⟨j, rfl, hj, rfl, hki, hb⟩ := hrel
          have Hki := Lib.hid hki
          have Hbi := Lib.hid hb
          have hnl := Nat.le_trans (in_len e1 e2 (Q.take j)) (by rw [List.length_take]; exact Nat.min_le_right _ _)
          obtain ⟨m, hm⟩ : ∃ m, (inL e1 e2 (Q.take j)).length = m := ⟨_, rfl⟩
          rw [hm] at hnl ⊢
          have hmi : (m : Int) ≤ 2000 := by omega
          by_cases hjl : j < Q.length
          · obtain ⟨g', o', hA', -, y0, y1, y2, y3, y4⟩ := row_ed (HX9.out.below hb) j hjl
            have hjk : (j : Int) < (Q.length : Int) := by omega
            have hmore := congrArg List.length (in_more e1 e2 hjl)
            rw [List.length_append, hm] at hmore
            have HA' := Lib.hid hA'
            rw [hA']
            have Hjl := Lib.hid hjl
            generalize Q[j] = y at *
            obtain ⟨f1, f2, f3, f4, f5⟩ := y
            simp only at y0 y1 y2 y3 y4
            obtain ⟨t, ht⟩ : ∃ t, inB2 e1 e2 ⟨f1, f2, f3, f4, f5⟩ = t := ⟨_, rfl⟩
            have he := eqV20 f3 f4 e1 e2
            rw [show (decide (f3 = e1) && decide (f4 = e2)) = t from ht] at he
            rw [ht] at hmore
            have Hmore := Lib.hid hmore
            obtain ⟨wb, hwb⟩ : ∃ wb, wr.alloc (.cells #[.int .i64 f1, .int .i64 f2, .int .i64 f3, .int .i64 f4, .int .i64 f5] 78) = wb := ⟨_, rfl⟩
            obtain ⟨gb, hgb⟩ : ∃ gb, wr.heap.size = gb := ⟨_, rfl⟩
            have hkb := Blk.new wr 78 #[.int .i64 f1, .int .i64 f2, .int .i64 f3, .int .i64 f4, .int .i64 f5]
            have hbb := below_new wr (.cells #[.int .i64 f1, .int .i64 f2, .int .i64 f3, .int .i64 f4, .int .i64 f5] 78)
            rw [hwb, hgb] at hkb
            rw [hwb] at hbb
            have KB := Lib.hid (hki.below hbb hki.lt)
            have BB := Lib.hid (below_trans hb hb.size hbb)
            obtain ⟨z0, z1, z2, z3, z4⟩ : _ ∧ _ ∧ _ ∧ _ ∧ _ := ⟨KB.out.cell 0, KB.out.cell 1, KB.out.cell 2, KB.out.cell 3, KB.out.cell 4⟩
            simp only [List.getElem?_toArray, List.getElem?_cons_zero, List.getElem?_cons_succ] at z0 z1 z2 z3 z4
            obtain ⟨u0, u1, u2, u3, u4⟩ : _ ∧ _ ∧ _ ∧ _ ∧ _ := ⟨hkb.cell 0, hkb.cell 1, hkb.cell 2, hkb.cell 3, hkb.cell 4⟩
            simp only [List.getElem?_toArray, List.getElem?_cons_zero, List.getElem?_cons_succ] at u0 u1 u2 u3 u4
            clear hA' hjl hmore ht hkb hbb hki hb hm hj hnl
            cases t with
            | false =>
              have Hm2 := Lib.hid (show (inL e1 e2 (Q.take (j + 1))).length = m by rw [Hmore.out]; rfl)
              go_wp2
              go_roundw
              case measure => have := Hjl.out; simp [intOf]; omega
              case rel => exact ⟨j + 1, by go_num, Hjl.out, by rw [Hm2.out], KB.out, BB.out⟩
            | true =>
              have Hm2 := Lib.hid (show (inL e1 e2 (Q.take (j + 1))).length = m + 1 by rw [Hmore.out]; rfl)
              go_wp2
              go_roundw
              case measure => have := Hjl.out; simp [intOf]; omega
              case rel => exact ⟨j + 1, by go_num, Hjl.out, by rw [Hm2.out]; go_num, KB.out, BB.out⟩
          · have hje : j = Q.length := by omega
            subst hje
            rw [List.take_length, Hone2.out] at hm
            have hjk : ¬ (Q.length : Int) < (Q.length : Int) := by omega
            have hfa := Hfa.out
            obtain ⟨z0, z1, z2, z3, z4⟩ : _ ∧ _ ∧ _ ∧ _ ∧ _ := ⟨hki.cell 0, hki.cell 1, hki.cell 2, hki.cell 3, hki.cell 4⟩
            simp only [List.getElem?_toArray, List.getElem?_cons_zero, List.getElem?_cons_succ] at z0 z1 z2 z3 z4
            have HBn := Lib.hid (below_trans B9.out B9.out.size hb)
            subst hm
            clear hjl hki hb hj hnl
            rcases hfa with ⟨a1, a2, a3, a4⟩ | ⟨a1, a2, a3⟩
            · subst a1
              subst a2
              have c0 : (0 : Int) < e5 := by omega
              go_wp2
              go_roundw
              case measure => have := Hlt.out; simp [intOf]; omega
              case rel => exact ⟨k + 1, by go_num, Hlt.out, HBn.out⟩
            · subst a1
              subst a2
              subst a3
              go_wp2
              go_roundw
              case measure => have := Hlt.out; simp [intOf]; omega
              case rel => exact ⟨k + 1, by go_num, Hlt.out, HBn.out⟩
      · have hke : k = E.length := by omega
        subst hke
        have hkl : ¬ (E.length : Int) < (E.length : Int) := by omega
        clear hlt hk hb
        go_wp2
        go_ret
        exact ⟨rfl, below_trans Hb3.out Hb3.out.size Hb.out⟩

end Go.Proofs.Ytbffhdlfplgccaa
