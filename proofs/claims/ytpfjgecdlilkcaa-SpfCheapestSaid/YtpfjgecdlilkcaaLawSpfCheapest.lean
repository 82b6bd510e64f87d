/-
  The law SpfCheapest: its walk.
-/
import Derived.Test.YtpfjgecdlilkcaaSpWakes
import Derived.Test.YtpfjgecdlilkcaaSpUse
import Derived.Test.YtpfjgecdlilkcaaSpChk
namespace Go.Proofs.Ytpfjgecdlilkcaa
open Go.RowKit

theorem cmod15 (a : Nat) : Int.tmod (a : Int) 15 = ((a % 15 : Nat) : Int) := by
  rw [Int.tmod_eq_emod_of_nonneg (by omega)]
  exact_mod_cast rfl
theorem zeroIc (w : World) : (zeroValue 3).run Try.prog w = .ok (.int .i64 0) w := by kernel_rfl
set_option maxHeartbeats 16000000 in
set_option maxRecDepth 100000 in
theorem spfCheapest_any (a : Nat) (ha : a ≤ 255) (A : Option Addr) (cap : Nat) (E : List Ed) (w : World) (hl : RowsAt 5 Ed.cells w w.heap.size A E) (hm : E.length ≤ maxLen) :
    Calls Try.prog 8 #[.int .u8 a, .slice A E.length cap] w fun r w' => r = .returned (.bool true) ∧ Below w.heap.size w w' := by
  have HE := Lib.hid hl
  obtain ⟨DD, hD⟩ := dists_are E
  have HD := Lib.hid hD
  unfold maxLen at hm
  have hai : (a : Int) ≤ 255 := by omega
  have hrem := cmod15 a
  obtain ⟨kk, hkk⟩ : ∃ kk, a % 15 = kk := ⟨_, rfl⟩
  have hkk15 : kk < 15 := by rw [← hkk]; omega
  rw [hkk] at hrem
  clear hl hD hkk ha
  go_enter Try.func8, Try.ntmps8
  go_wp2_with fail
  with_reducible refine Calls.mono (wakes21 _) ?_
  rintro r w1 ⟨rfl, hb1⟩
  have Hb1 := Lib.hid hb1
  clear hb1
  by_cases h60 : (200 : Int) < (E.length : Int)
  · go_wp2
    go_ret
    exact ⟨rfl, Hb1.out⟩
  · have hE60 : E.length ≤ 200 := by omega
    have HE60 := Lib.hid hE60
    have hki : (kk : Int) < 15 := by omega
    obtain ⟨id, hidd⟩ : ∃ i : Int, (1 : Int) + (kk : Int) = i := ⟨_, rfl⟩
    have hm0 : mayV ⟨1, id⟩ = true := mayV_iff.2 (.inl ⟨rfl, by simp only; omega, by simp only; omega⟩)
    have HT := Lib.hid (fun W (hW : Below w.heap.size w W) => Tree_any id A cap E W ((HE.out.below hW).more hW.size) (by omega) E.length rfl DD HD.out)
    have Hm0 := Lib.hid hm0
    clear hm0 hE60
    go_wp2_with fail
    with_reducible refine Calls.mono (HT.out _ Hb1.out) ?_
    rintro r w3 ⟨⟨v, N, rfl, hN, hTr⟩, hb3⟩
    have Htr := Lib.hid (hTr.1 Hm0.out)
    have HNl := Lib.hid (treeOf_len HD.out hTr)
    have hlow := treeOf_low rfl hTr
    obtain ⟨A5, c5, hv⟩ := hN.row.shape
    subst hv
    obtain ⟨nN, hnN⟩ : ∃ n, N.length = n := ⟨_, rfl⟩
    rw [hnN] at hN ⊢
    have HN := Lib.hid (fun W hW => hN.reads (w' := W) hW hlow)
    have HnN := Lib.hid hnN
    have hnN2 : (nN : Int) ≤ 79 := by have := HNl.out; omega
    have Hb3 := Lib.hid (below_trans Hb1.out Hb1.out.size hb3)
    have hmp : MapAt Vx.enc (w3.alloc (.map #[] 0)) w3.heap.size [] := MapAt.new w3
    have hbp := below_new w3 (.map #[] 0)
    obtain ⟨w4, hw4⟩ : ∃ v, w3.alloc (.map #[] 0) = v := ⟨_, rfl⟩
    obtain ⟨bm, hbm⟩ : ∃ b, w3.heap.size = b := ⟨_, rfl⟩
    rw [hw4] at hmp hbp
    rw [hbm] at hmp
    have hmm : (Instr.makeMap 63 none).run Try.prog w3 = .ok (.map (some bm)) w4 := by rw [← hw4, ← hbm]; rfl
    have Hmp := Lib.hid hmp
    have Hbp := Lib.hid hbp
    have Hbm := Lib.hid hbm
    clear hN hTr hlow hnN hb3 HT hmp hbp
    go_wp2
    clear hw4 hmm hbm hrem hkk15 hki h60
    go_loopw [33] (fun i wr => ∃ k : Nat, i = .int .i64 k ∧ k ≤ nN ∧ Below w3.heap.size w3 wr ∧ MapAt Vx.enc wr bm ((atL N).take k)) (fun i _ => nN - (intOf i).toNat)
    case atStart => exact ⟨0, rfl, Nat.zero_le _, Hbp.out, Hmp.out⟩
    case round =>
      obtain ⟨k, rfl, hk, hb, hmap⟩ := hrel
      by_cases hlt : k < nN
      · have hki2 : (k : Int) < (nN : Int) := by omega
        have hkL : k < N.length := by rw [HnN.out]; exact hlt
        obtain ⟨g, o, hA, -, x0, x1, x2, x3, x4⟩ := row_nd (HN.out wr hb).rows k hkL
        have hstep := atL_step Htr.out.sorted hkL
        subst hA
        generalize N[k] = x at *
        obtain ⟨⟨vk, vi⟩, ⟨xa, xh⟩, xA, xc, xn⟩ := x
        simp only at x0 x1 x2 x3 x4 hstep
        obtain ⟨nl, hnl⟩ : ∃ n, xn.length = n := ⟨_, rfl⟩
        rw [hnl] at x4
        have Hstep := Lib.hid hstep
        have hb6 := below_new wr (.cells #[.int .i64 vk, .int .i64 vi, .int .i64 xa, .int .i64 xh, .slice xA nl xc] 59)
        have hk6 := Blk.new wr 59 #[.int .i64 vk, .int .i64 vi, .int .i64 xa, .int .i64 xh, .slice xA nl xc]
        obtain ⟨w6, hw6⟩ : ∃ w6, wr.alloc (.cells #[.int .i64 vk, .int .i64 vi, .int .i64 xa, .int .i64 xh, .slice xA nl xc] 59) = w6 := ⟨_, rfl⟩
        obtain ⟨g6, hg6⟩ : ∃ g6, wr.heap.size = g6 := ⟨_, rfl⟩
        rw [hw6, hg6] at hk6
        rw [hw6] at hb6
        have Hb6 := Lib.hid (below_trans hb hb.size hb6)
        have Hmap := Lib.hid (hmap.below hb6 hmap.lt)
        have Hlt := Lib.hid hlt
        obtain ⟨⟨z0, z1, z2, z3, z4⟩, -⟩ := blk5 hk6
        clear hb hmap hstep hb6 hk6 hnl hlt hkL hk
        go_wp2_with (at_mapUpdate; (refine wpList_update_st _ (by rfl) _ _ _ 63 (by rfl) 40 3 keyVx Try.underlying63 (by rfl) Hmap.out ⟨vk, vi⟩ (by rfl) (.int .i64 ((k : Int) + 1)) (by rfl) ?_); intro w9 hm9 hg9 hs9; rw [Hstep.out] at hm9; have M9 := Lib.hid hm9; have B9 := Lib.hid (Hb6.out.grown hg9 Hb6.out.size (fun m e => by injection e with e; rw [← e, ← Hbm.out]; exact Nat.le_refl _)); clear hm9 hg9 hs9)
        go_roundw
        case measure => have := Hlt.out; simp [intOf]; omega
        case rel => exact ⟨k + 1, by go_num, Hlt.out, B9.out, M9.out⟩
      · have hke : k = nN := by omega
        subst hke
        have hkk2 : ¬ (k : Int) < (k : Int) := by omega
        rw [List.take_of_length_le (by rw [atL_len, HnN.out]; exact Nat.le_refl _)] at hmap
        have hmk := fun w => (made_had w k (by omega)).1
        have hH := (made_had wr k (by omega)).2
        have hb10 := below_new wr (.cells (madeCells #[.bool false] k) 4)
        obtain ⟨w10, hw10⟩ : ∃ v, wr.alloc (.cells (madeCells #[.bool false] k) 4) = v := ⟨_, rfl⟩
        have hgb : bm < wr.heap.size := hmap.lt
        obtain ⟨gh, hgh⟩ : ∃ v, wr.heap.size = v := ⟨_, rfl⟩
        have hgh3 : w3.heap.size ≤ gh := by rw [← hgh]; exact hb.size
        rw [hw10] at hH hb10
        have Hm10 := Lib.hid (hmap.below hb10 hmap.lt)
        have Hb10 := Lib.hid (below_trans hb hb.size hb10)
        rw [hgh] at hH hgb
        have HH := Lib.hid hH
        have Hgb := Lib.hid hgb
        have Hg3 := Lib.hid hgh3
        clear hb hmap hH hb10 hlt hk hgb hgh3
        go_wp2
        clear hmk hw10 hgh
        go_loopw [49] (fun i wq => ∃ (j : Nat) (H : Nat → Bool), i = .int .i64 j ∧ j ≤ E.length ∧ Below w3.heap.size w3 wq ∧ MapAt Vx.enc wq bm (atL N) ∧ HadAt wq gh H k ∧ (∀ e ∈ E.take j, ∀ i, Hit N e i → H i = true)) (fun i _ => E.length - (intOf i).toNat)
        case atStart => exact ⟨0, _, rfl, Nat.zero_le _, Hb10.out, Hm10.out, HH.out, fun e he => by simp at he⟩
        case round =>
          obtain ⟨j, H, rfl, hj, hb, hmap, hH, hhit⟩ := hrel
          by_cases hjl : j < E.length
          · have hji : (j : Int) < (E.length : Int) := by omega
            obtain ⟨g', o', hA', -, x0, x1, x2, x3, x4⟩ := row_ed ((HE.out.below (below_trans Hb3.out Hb3.out.size hb)).more (below_trans Hb3.out Hb3.out.size hb).size) j hjl
            subst hA'
            have hmem : E[j] ∈ E := List.getElem_mem hjl
            have htk : E.take (j + 1) = E.take j ++ [E[j]] := List.take_succ_eq_append_getElem hjl
            generalize E[j] = x at *
            obtain ⟨f1, f2, f3, f4, f5⟩ := x
            simp only at x0 x1 x2 x3 x4
            have hsays := fun hc i hi hs => edge_says HD.out Htr.out hmem hc (i := i) hi hs
            have Hsays := Lib.hid hsays
            have Htk := Lib.hid htk
            obtain ⟨t, ht⟩ : ∃ t, cntE ⟨f1, f2, f3, f4, f5⟩ = t := ⟨_, rfl⟩
            have Ht := Lib.hid ht
            have HC := Lib.hid (fun W => refCnt_any f1 f2 f3 f4 f5 W ht)
            have hs := Htr.out.sorted
            obtain ⟨si, hsi, hsw⟩ : ∃ si : Int, (getL ⟨f1, f2⟩ (atL N)).getD (.int .i64 0) = .int .i64 si ∧ ((si = 0 ∧ ∀ n ∈ N, n.v ≠ ⟨f1, f2⟩) ∨ ∃ i, ∃ hi : i < N.length, N[i].v = ⟨f1, f2⟩ ∧ si = (i : Int) + 1) := by
              rcases atL_get hs ⟨f1, f2⟩ with ⟨i, hi, hiv, hg⟩ | ⟨hno, hg⟩
              · exact ⟨_, by rw [hg]; rfl, .inr ⟨i, hi, hiv, rfl⟩⟩
              · exact ⟨0, by rw [hg]; rfl, .inl ⟨rfl, hno⟩⟩
            obtain ⟨di, hdi, hdw⟩ : ∃ di : Int, (getL ⟨f3, f4⟩ (atL N)).getD (.int .i64 0) = .int .i64 di ∧ (∀ i, ∀ hi : i < N.length, N[i].v = ⟨f3, f4⟩ → di = (i : Int) + 1) := by
              rcases atL_get hs ⟨f3, f4⟩ with ⟨i, hi, hiv, hg⟩ | ⟨hno, hg⟩
              · exact ⟨_, by rw [hg]; rfl, fun i' hi' h' => by rw [node_ne hs hi' hi (h'.trans hiv.symm)]⟩
              · exact ⟨0, by rw [hg]; rfl, fun i' hi' h' => absurd h' (hno _ (List.getElem_mem hi'))⟩
            have Hsw := Lib.hid hsw
            have Hdw := Lib.hid hdw
            have hb6 := below_new wr (.cells #[.int .i64 f1, .int .i64 f2, .int .i64 f3, .int .i64 f4, .int .i64 f5] 42)
            have hk6 := Blk.new wr 42 #[.int .i64 f1, .int .i64 f2, .int .i64 f3, .int .i64 f4, .int .i64 f5]
            obtain ⟨w6, hw6⟩ : ∃ w6, wr.alloc (.cells #[.int .i64 f1, .int .i64 f2, .int .i64 f3, .int .i64 f4, .int .i64 f5] 42) = w6 := ⟨_, rfl⟩
            obtain ⟨g6, hg6⟩ : ∃ g6, wr.heap.size = g6 := ⟨_, rfl⟩
            rw [hw6, hg6] at hk6
            rw [hw6] at hb6
            have hm6 := hmap.below hb6 hmap.lt
            have Hm6 := Lib.hid hm6
            have Hk6 := Lib.hid hk6
            have HH6 := Lib.hid (hH.below hb6 hH.lt)
            have Hb6 := Lib.hid (below_trans hb hb.size hb6)
            have Hhit := Lib.hid hhit
            have Hjl := Lib.hid hjl
            obtain ⟨z0, z1, z2, z3, z4, -⟩ := hk6.cells5
            have hlk1 := fun n => (Hm6.out.drewN n).look_run keyVx Try.underlying63 (zeroIc _) ⟨f1, f2⟩ false
            have hlk2 := fun n => (Hm6.out.drewN n).look_run keyVx Try.underlying63 (zeroIc _) ⟨f3, f4⟩ false
            rw [hsi] at hlk1
            rw [hdi] at hlk2
            simp only [Bool.false_eq_true, if_false, Vx.enc] at hlk1 hlk2
            clear hmem htk hsays ht hs hsi hsw hdi hdw hb6 hk6 hm6 hb hmap hH hhit hjl hj
            go_wp2
            go_quiet (fail)
            go_wp2_with fail
            clear hlk1 hlk2 x0 x1 x2 x3 x4 z0 z1 z2 z3 z4 hw6 hg6
            with_reducible refine Calls.mono (HC.out _) ?_
            rintro r w7 ⟨rfl, hb7⟩
            have hb67 := (below_drewN (Below.refl w6.heap.size w6) _).trans hb7
            have Hb7 := Lib.hid (below_trans Hb6.out Hb6.out.size hb67)
            have Hm7 := Lib.hid (Hm6.out.below hb67 Hm6.out.lt)
            have HH7 := Lib.hid (HH6.out.below hb67 HH6.out.lt)
            have Hk7 := Lib.hid (Hk6.out.below hb67 Hk6.out.lt)
            have HN7 := Lib.hid (HN.out _ Hb7.out)
            clear hb67 hb7 HC
            cases t with
            | false =>
              have hno : ∀ e ∈ E.take (j + 1), ∀ i, Hit N e i → H i = true := by
                intro e he i hh
                rw [Htk.out, List.mem_append, List.mem_singleton] at he
                rcases he with he | rfl
                · exact Hhit.out e he i hh
                · have := hh.1; rw [Ht.out] at this; cases this
              have Hno := Lib.hid hno
              clear hno
              go_wp2
              go_roundw
              case measure => have := Hjl.out; simp [intOf]; omega
              case rel => exact ⟨j + 1, H, by go_num, Hjl.out, Hb7.out, Hm7.out, HH7.out, Hno.out⟩
            | true =>
              rcases Hsw.out with ⟨h0, hnot⟩ | ⟨i, hi, hiv, hsi⟩
              · have hno : ∀ e ∈ E.take (j + 1), ∀ i, Hit N e i → H i = true := by
                  intro e he i hh
                  rw [Htk.out, List.mem_append, List.mem_singleton] at he
                  rcases he with he | rfl
                  · exact Hhit.out e he i hh
                  · obtain ⟨-, i', hi', -, hs', -, -⟩ := hh
                    exact absurd hs' (hnot _ (List.getElem_mem hi'))
                have Hno := Lib.hid hno
                have c0 : (si == 0) = true := by simp [h0]
                clear hno h0 hnot
                go_wp2
                go_roundw
                case measure => have := Hjl.out; simp [intOf]; omega
                case rel => exact ⟨j + 1, H, by go_num, Hjl.out, Hb7.out, Hm7.out, HH7.out, Hno.out⟩
              · obtain ⟨i2, hi2, hiv2, hle⟩ := Hsays.out Ht.out i hi hiv
                have hdi := Hdw.out i2 hi2 hiv2
                have hcnt : (f1 = 1 ∧ f3 = 2 ∧ 1 ≤ f5 ∧ f5 ≤ 100) ∨ (f1 = 2 ∧ f3 = 1 ∧ f5 = 0) := (cntE_iff.1 Ht.out).2.2
                have hle : (N[i2].a.c : Int) ≤ (N[i].a.c : Int) + f5 := hle
                obtain ⟨g1, o1, hA1, -, x0, x1, x2, x3, x4⟩ := row_nd HN7.out.rows i hi
                obtain ⟨g2, o2, hA2, -, y0, y1, y2, y3, y4⟩ := row_nd HN7.out.rows i2 hi2
                rw [hA1] at hA2
                injection hA2 with hA2
                injection hA2 with hA3 hA4
                subst hA3 hA4
                have hlo1 := dist_low HD.out (by have := HE60.out; omega) (Htr.out.val _ (List.mem_map.2 ⟨_, List.getElem_mem hi, rfl⟩))
                have hlo2 := dist_low HD.out (by have := HE60.out; omega) (Htr.out.val _ (List.mem_map.2 ⟨_, List.getElem_mem hi2, rfl⟩))
                have hhit : ∀ e ∈ E.take (j + 1), ∀ m, Hit N e m → H m = true ∨ (m = i2 ∧ (N[i2].a.c : Int) = (N[i].a.c : Int) + f5) := by
                  intro e he m hh
                  rw [Htk.out, List.mem_append, List.mem_singleton] at he
                  rcases he with he | rfl
                  · exact .inl (Hhit.out e he m hh)
                  · obtain ⟨-, p, hp, hq, hp', hq', hc⟩ := hh
                    have e1 := node_ne Htr.out.sorted hp hi (hp'.trans hiv.symm)
                    have e2 := node_ne Htr.out.sorted hq hi2 (hq'.trans hiv2.symm)
                    subst e1 e2
                    exact .inr ⟨rfl, hc⟩
                obtain ⟨ci, hci⟩ : ∃ c : Int, (N[i].a.c : Int) = c := ⟨_, rfl⟩
                obtain ⟨di2, hdi2⟩ : ∃ c : Int, (N[i2].a.c : Int) = c := ⟨_, rfl⟩
                rw [hci] at x2 hle hhit
                rw [hdi2] at y2 hle hhit
                have hci1 : ci ≤ 100000000 := by have := hlo1.1; rw [← hci]; show ((N[i].nk.a.c : Nat) : Int) ≤ _; omega
                have hci0 : 0 ≤ ci := by rw [← hci]; omega
                have hcd1 : di2 ≤ 100000000 := by have := hlo2.1; rw [← hdi2]; show ((N[i2].nk.a.c : Nat) : Int) ≤ _; omega
                have hcd0 : 0 ≤ di2 := by rw [← hdi2]; omega
                have hf50 : 0 ≤ f5 := by omega
                have hf51 : f5 ≤ 100 := by omega
                have hik : (i : Int) < (k : Int) := by have := HnN.out; omega
                have hi2k : (i2 : Int) < (k : Int) := by have := HnN.out; omega
                have hi2k' : i2 < k := by omega
                obtain ⟨sn, hsn⟩ : ∃ n : Nat, si = n := ⟨i + 1, by omega⟩
                obtain ⟨dn, hdn⟩ : ∃ n : Nat, di = n := ⟨i2 + 1, by omega⟩
                subst hsn hdn
                have hsi1 : (sn : Int) - 1 = (i : Int) := by omega
                have hdi1 : (dn : Int) - 1 = (i2 : Int) := by omega
                have c0 : ((sn : Int) == 0) = false := by simp; omega
                have c1 : ((dn : Int) == 0) = false := by simp; omega
                have c2 : ¬ ci + f5 < di2 := by omega
                have hsib0 : (0 : Int) < (sn : Int) := by omega
                have hsib1 : (sn : Int) ≤ 80 := by omega
                have hdib0 : (0 : Int) < (dn : Int) := by omega
                have hdib1 : (dn : Int) ≤ 80 := by omega
                have hw1 : IntKind.i64.wrap (i : Int) = i := by rw [IntKind.wrap_i64]; omega
                have hw2 : IntKind.i64.wrap (i2 : Int) = i2 := by rw [IntKind.wrap_i64]; omega
                have hw3 : IntKind.i64.wrap (ci + f5) = ci + f5 := by rw [IntKind.wrap_i64]; omega
                obtain ⟨z0, z1, z2, z3, z4, -⟩ := Hk7.out.cells5
                obtain ⟨hhc, hhf⟩ := HH7.out.cell hi2k'
                have Hi2k := Lib.hid hi2k'
                have Hhit2 := Lib.hid hhit
                clear hlo1 hlo2 hhit hci hdi2 hcnt hle hsi hdi hi2k' hiv hiv2 x0 x1 x3 x4 y0 y1 y3 y4
                subst hA1
                go_wp2
                go_quiet (fail)
                by_cases heq : di2 = ci + f5
                · have c3 : (di2 == ci + f5) = true := by simp [heq]
                  go_wp2
                  go_quiet (fail)
                  go_wp2
                  go_roundw
                  case measure => have := Hjl.out; simp [intOf]; omega
                  case rel =>
                    refine ⟨j + 1, _, by go_num, Hjl.out, (below_drewN Hb7.out _).setCell (p := ⟨gh, i2, none⟩) Hg3.out _, (Hm7.out.drewN _).set_ (fun h => by have := Hgb.out; simp only at h; omega) _, (HH7.out.drewN _).put Hi2k.out, fun e he m hh => ?_⟩
                    rcases Hhit2.out e he m hh with h | ⟨h, -⟩
                    · simp [h]
                    · simp [h]
                · have c3 : (di2 == ci + f5) = false := by simp [heq]
                  go_wp2
                  go_quiet (fail)
                  go_wp2
                  go_roundw
                  case measure => have := Hjl.out; simp [intOf]; omega
                  case rel =>
                    refine ⟨j + 1, _, by go_num, Hjl.out, below_drewN Hb7.out _, Hm7.out.drewN _, HH7.out.drewN _, fun e he m hh => ?_⟩
                    rcases Hhit2.out e he m hh with h | ⟨-, h⟩
                    · exact h
                    · exact absurd h heq
          · have hje : j = E.length := by omega
            rw [hje, List.take_length] at hhit
            have hjj : ¬ (j : Int) < (E.length : Int) := by omega
            have HHit := Lib.hid hhit
            have HHr := Lib.hid hH
            have Hbr := Lib.hid hb
            have hpos := tree_some HD.out Htr.out
            have hk0 : (0 : Int) < (k : Int) := by have := HnN.out; omega
            clear hhit hH hb hmap hjl hje hj hpos
            go_wp2
            go_loopw [111] (fun i wq => ∃ j : Nat, i = .int .i64 j ∧ j ≤ k ∧ Below w3.heap.size w3 wq ∧ HadAt wq gh H k) (fun i _ => k - (intOf i).toNat)
            case atStart => exact ⟨0, rfl, Nat.zero_le _, Hbr.out, HHr.out⟩
            case round =>
              obtain ⟨m, rfl, hm', hb, hH⟩ := hrel
              by_cases hlt : m < k
              · have hki2 : (m : Int) < (k : Int) := by omega
                have hkL : m < N.length := by rw [HnN.out]; exact hlt
                obtain ⟨g, o, hA, -, x0, x1, x2, x3, x4⟩ := row_nd (HN.out wr hb).rows m hkL
                have hroot := node_root HD.out rfl Htr.out hkL
                have hnode := fun h => node_had HD.out rfl Htr.out hkL h
                have hhd : N[m].v ≠ ⟨1, id⟩ → H m = true := fun h => by
                  obtain ⟨⟨e, he, hh⟩, -⟩ := hnode h
                  exact HHit.out e he m hh
                subst hA
                generalize N[m] = x at *
                obtain ⟨⟨vk, vi⟩, ⟨xa, xh⟩, xA, xc, xn⟩ := x
                simp only at x0 x1 x2 x3 x4 hroot hnode hhd
                obtain ⟨nl, hnl⟩ : ∃ n, xn.length = n := ⟨_, rfl⟩
                rw [hnl] at x4 hroot hnode
                have hb6 := below_new wr (.cells #[.int .i64 vk, .int .i64 vi, .int .i64 xa, .int .i64 xh, .slice xA nl xc] 59)
                have hk6 := Blk.new wr 59 #[.int .i64 vk, .int .i64 vi, .int .i64 xa, .int .i64 xh, .slice xA nl xc]
                obtain ⟨w6, hw6⟩ : ∃ w6, wr.alloc (.cells #[.int .i64 vk, .int .i64 vi, .int .i64 xa, .int .i64 xh, .slice xA nl xc] 59) = w6 := ⟨_, rfl⟩
                obtain ⟨g6, hg6⟩ : ∃ g6, wr.heap.size = g6 := ⟨_, rfl⟩
                rw [hw6, hg6] at hk6
                rw [hw6] at hb6
                have Hb6 := Lib.hid (below_trans hb hb.size hb6)
                have HH6 := Lib.hid (hH.below hb6 hH.lt)
                have Hlt := Lib.hid hlt
                obtain ⟨hc1, -⟩ := HH6.out.cell hlt
                obtain ⟨⟨z0, z1, z2, z3, z4⟩, -⟩ := blk5 hk6
                have heq := fun w => eqVxN vk vi 1 id w
                clear hb hH hb6 hk6 hnl hlt hkL hm'
                by_cases he : (⟨vk, vi⟩ : Vx) = ⟨1, id⟩
                · rw [decide_eq_true he] at heq
                  obtain ⟨r1, r2, r3⟩ := hroot he
                  have c1 : ((xa : Int) != 0) = false := by simp [r1]
                  have c2 : ((xh : Int) != 0) = false := by simp [r2]
                  have c3 : ¬ 0 < nl := by omega
                  clear hnode hhd he hc1 r1 r2 r3 hroot
                  go_wp2
                  go_roundw
                  case measure => have := Hlt.out; simp [intOf]; omega
                  case rel => exact ⟨m + 1, by go_num, Hlt.out, Hb6.out, HH6.out⟩
                · rw [decide_eq_false he] at heq
                  obtain ⟨-, r1, r2, r3⟩ := hnode he
                  rw [hhd he] at hc1
                  have c1 : decide ((xa : Int) < 1) = false := by simp; omega
                  have c2 : decide ((xh : Int) < 1) = false := by simp; omega
                  have c3 : ((nl : Int) == 0) = false := by simp; omega
                  clear hroot hnode hhd he r1 r2 r3
                  go_wp2
                  go_roundw
                  case measure => have := Hlt.out; simp [intOf]; omega
                  case rel => exact ⟨m + 1, by go_num, Hlt.out, Hb6.out, HH6.out⟩
              · have hke : m = k := by omega
                subst hke
                have hkk3 : ¬ (m : Int) < (m : Int) := by omega
                have hm1 : 0 < m := by omega
                have Hb := Lib.hid (below_trans Hb3.out Hb3.out.size hb)
                clear hlt hb hH hm'
                go_wp2
                go_ret
                exact ⟨rfl, Hb.out⟩

end Go.Proofs.Ytpfjgecdlilkcaa
