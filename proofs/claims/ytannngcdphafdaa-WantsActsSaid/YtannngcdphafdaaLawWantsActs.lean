/-
  The law WantsActs: its walk.
-/
import Derived.Deep.CutRange
import Derived.Deep.DeepCutAuto
import Derived.Deep.CutBlock
import Derived.Outline
import Derived.Test.YtannngcdphafdaaRegionF
import Derived.Test.YtannngcdphafdaaWaAct
namespace Go.Proofs.Ytannngcdphafdaa
open Go.RowKit Go.Sort

theorem wpOp_enterL {P : Program} {ops : Array Oper} {Q : Exit → Act → World → Prop} {i : Nat} {o : Oper} {d : Option Nat} {f : FuncId} {args : Array Value} {a : Act} {w : World} {K : Act → World → Prop} (hi : ops[i]? = some o) (hd : o.dst = d) (hg : Region.wanted o (yielded ops a.tmps) = true)
    (hx : (execOp a.eval o).run P w = .ok (.enter f args) w) (hc : Calls P f args w fun e w'' => ∃ v, e = .returned v ∧ K (a.put d v) w'') : wpOp P ops Q i K a w := by
  subst hd
  exact wpOp_enter hi hg hx hc

theorem WBun.tk {w wr : World} {p b q ga : Nat} {v : Value} {M L : List Hd} {kd : Int} {g2 o2 kc : Nat} {hs : List Hd} (h : WBun w wr p b q v M L ga ⟨kd, some ⟨g2, o2, none⟩, kc, hs⟩) (hx : RowsAt 7 Hd.cells w w.heap.size (some ⟨g2, o2, none⟩) hs) (h0 : 0 < hs.length) {y1 y2 y3 y4 y5 y6 y7 : Int} (he : hs[0] = ⟨y1, y2, y3, y4, y5, y6, y7⟩) :
    wr.cell? ⟨ga, 1, none⟩ = some (.slice (some ⟨g2, o2, none⟩) hs.length kc) ∧ wr.cell? ⟨g2, o2, none⟩ = some (.int .i64 y1) ∧ wr.cell? ⟨g2, o2 + 1, none⟩ = some (.int .i64 y2) ∧ wr.cell? ⟨g2, o2 + 2, none⟩ = some (.int .i64 y3) ∧ wr.cell? ⟨g2, o2 + 3, none⟩ = some (.int .i64 y4) ∧ wr.cell? ⟨g2, o2 + 4, none⟩ = some (.int .i64 y5) ∧ wr.cell? ⟨g2, o2 + 5, none⟩ = some (.int .i64 y6) ∧ wr.cell? ⟨g2, o2 + 6, none⟩ = some (.int .i64 y7) := by
  obtain ⟨g, o, e, -, z⟩ := h.one 0 h0 hx
  simp only at e
  injection e with e
  injection e with e1 e2
  subst e1 e2
  simp only [he, Nat.zero_mul, Nat.add_zero] at z
  exact ⟨h.cells.2, z⟩
set_option maxHeartbeats 8000000 in
set_option maxRecDepth 100000 in
theorem wantsActs_any (A : Option Addr) (cap : Nat) (l : List ActW) (w : World) (hl : ActsW w w.heap.size A l) (hm : l.length ≤ maxLen) :
    Calls Try.prog 9 #[.slice A l.length cap] w fun r w' => r = .returned (.bool true) ∧ Below w.heap.size w w' := by
  unfold maxLen at hm
  have Hl := Lib.hid hl
  clear hl
  by_cases h60 : l.length ≤ 60
  · have h60b : decide ((60 : Int) < (l.length : Int)) = false := by simp; omega
    go_enter Try.func9, Try.ntmps9
    go_wp2_with fail
    with_reducible refine Calls.mono (wakes15 _) ?_
    rintro r w1 ⟨rfl, hb1⟩
    have Hb1 := Lib.hid hb1
    clear hb1
    go_wp2_with fail
    with_reducible refine Calls.mono (New15 w1) ?_
    rintro r w2 ⟨rfl, hR2, hb2⟩
    obtain ⟨p, hp⟩ : ∃ p, w1.heap.size + 1 = p := ⟨_, rfl⟩
    rw [hp] at hR2 ⊢
    obtain ⟨b, hb⟩ : ∃ b, w1.heap.size = b := ⟨_, rfl⟩
    rw [hb] at hR2
    obtain ⟨q, hq⟩ : ∃ q, w2.heap.size = q := ⟨_, rfl⟩
    have HP0 := Lib.hid (show WPair w (w2.alloc (.cells #[.slice none 0 0] 78)) p b q (.slice none 0 0) [] [] from
      ⟨hR2.alloc _, ⟨by rw [← hq]; exact Blk.new _ _ _, OwnR.nil _ _⟩, (Hb1.out.trans (hb2.mono Hb1.out.size)).alloc (by have := Hb1.out.size; have := hb2.size; omega) _, by have := Hb1.out.size; have := hR2.ptr.lt; omega⟩)
    clear hR2 hb2 hp hb
    go_wp2
    go_loopw [23] (fun i wr => ∃ (k : Nat) (M L : List Hd) (v : Value), i = .int .i64 k ∧ k ≤ l.length ∧ WPair w wr p b q v M L ∧ WEq M L ∧ (∀ x ∈ L, ageOk x) ∧ L.length ≤ 50 * k) (fun i _ => l.length - (intOf i).toNat)
    case atStart => exact ⟨0, [], [], _, rfl, Nat.zero_le _, HP0.out, WEq.nil, by simp, by simp⟩
    case round =>
      obtain ⟨j, M, L, v, rfl, hj, hpr, heq, hage, hLl⟩ := hrel
      have Hpr := Lib.hid hpr
      have Heq := Lib.hid heq
      have Hage := Lib.hid hage
      have HLl := Lib.hid hLl
      clear hLl hq HP0 hage heq
      by_cases hlt : j < l.length
      · obtain ⟨g, o, hA, z0, z1⟩ := row_actw (Hl.out.rows.below hpr.bel) j hlt
        have hx := Hl.out.each l[j] (List.getElem_mem hlt)
        have hjl : (j : Int) < (l.length : Int) := by omega
        obtain ⟨ga, hga⟩ : ∃ ga, wr.heap.size = ga := ⟨_, rfl⟩
        have Hga := Lib.hid hga
        generalize l[j] = x at *
        obtain ⟨kd, ka, kc, hs⟩ := x
        simp only at z0 z1 hx
        have Hhs := Lib.hid hx.1
        have Hhm := Lib.hid hx.2
        have HA := Lib.hid hA
        rw [hA]
        clear hx hpr hA
        have HB0 := Lib.hid (show WBun w (wr.alloc (.cells #[.int .i64 kd, .slice ka hs.length kc] 80)) p b q v M L ga ⟨kd, ka, kc, hs⟩ from by
          have hlq := Hpr.out.rw.ptr.lt
          have hng : ∀ g, v.ownBlock = some g → g < ga := fun g e => by rw [← Hga.out]; exact (Hpr.out.rw.own.block g e).2
          refine ⟨Hpr.out.keep ((Below.refl _ _).alloc (Nat.le_refl _) _), ?_, by have := Hga.out; omega, fun e => by have := hng _ e; omega⟩
          rw [← Hga.out]; exact Blk.new _ _ _)
        obtain ⟨t, ht⟩ : ∃ t, mayB hs = t := ⟨_, rfl⟩
        have HMay := Lib.hid (fun W (hW : Below wr.heap.size wr W) => may15 ka kc hs W w.heap.size (Hhs.out.below (Hpr.out.bel.trans (hW.mono Hpr.out.bel.size))) (Nat.le_trans Hpr.out.bel.size hW.size) Hhm.out ht _ rfl)
        have Ht := Lib.hid ht
        clear ht
        go_wp2_with fail
        with_reducible refine Calls.mono (HMay.out _ ((Below.refl _ _).alloc (Nat.le_refl _) _)) ?_
        rintro r w4 ⟨rfl, hb4⟩
        have HB1 := Lib.hid (HB0.out.keep hb4)
        clear hb4 z0 z1 HMay hga
        cases t
        · go_wp2
          go_ret
          exact ⟨rfl, HB1.out.pr.bel⟩
        · obtain ⟨hhage, hh50⟩ := mayB_ages Ht.out
          have Hhage := Lib.hid hhage
          obtain ⟨z0, z1⟩ := HB1.out.cells
          simp only at z0 z1
          have HageM := Lib.hid (show ∀ y ∈ M, ageOk y from fun y hy => Hage.out y (Heq.out.perm.subset hy))
          have Hn0 := Lib.hid (show L.length ≤ 2 ^ 20 by have := HLl.out; omega)
          have HBd := Lib.hid (show ∀ wd : World, wd = w4.drew → WBun w wd p b q v M L ga ⟨kd, ka, kc, hs⟩ from by rintro _ rfl; exact HB1.out.keep (Below.refl _ _).drew)
          clear hhage HB0
          go_upto_block 2 with fail
          go_cut [23] from 23 to 155 (fun iv wx => iv = .int .i64 j ∧ ∃ M2 L2 v2, WBun w wx p b q v2 M2 L2 ga ⟨kd, ka, kc, hs⟩ ∧ WEq M2 L2 ∧ (∀ y ∈ L2, ageOk y) ∧ L2.length ≤ L.length + 50)
          case first =>
            by_cases h0 : kd = 0
            · subst h0
              have hadd := addAll_eq Heq.out hs
              obtain ⟨z, hz⟩ : ∃ z, (addAllD L hs).length = z := ⟨_, rfl⟩
              have Hz1 := Lib.hid (show (addAllM M hs).length = z by rw [hadd.len, hz])
              have Hz2 := Lib.hid hz
              have Hadd := Lib.hid hadd
              clear hz hadd
              go_wp2
              refine wp_region_F (F := fun W => W.cell? ⟨ga, 1, none⟩ = some (.slice ka hs.length kc)) (n := 8) (m := 9) (s := #[false, false, false, false, false, false, false, false, false]) (by kernel_rfl) (by kernel_rfl) (by kernel_rfl) ?_
              intro wd hwd
              have hB0 := HBd.out wd hwd.out
              clear hwd
              refine F_take (i := 0) (d := some 35) (by kernel_rfl) (by kernel_rfl) (by decide) (s' := #[true, false, false, false, false, false, false, false, false]) (by kernel_rfl) rfl rfl (by kernel_rfl) (by kernel_rfl) (by kernel_rfl) (fun _ _ _ h => h) (Or.inl ⟨by kernel_rfl, fun W hW => by obtain x1 := hW; go_simp; try with_reducible rfl⟩) hB0.cells.2 ?_
              go_frame
              refine F_take (i := 1) (d := some 36) (by kernel_rfl) (by kernel_rfl) (by decide) (s' := #[true, true, false, false, false, false, false, false, false]) (by kernel_rfl) rfl rfl (by kernel_rfl) (by kernel_rfl) (by kernel_rfl) (fun _ _ _ h => h) (Or.inl ⟨by kernel_rfl, fun W hW => by obtain x1 := hW; go_simp; try with_reducible rfl⟩) hB0.cells.2 ?_
              go_frame
              refine F_take (i := 2) (d := some 37) (by kernel_rfl) (by kernel_rfl) (by decide) (s' := #[true, true, true, false, false, false, false, false, false]) (by kernel_rfl) rfl rfl (by kernel_rfl) (by kernel_rfl) (by kernel_rfl) (fun _ _ _ h => h) (Or.inl ⟨by kernel_rfl, fun W hW => by obtain x1 := hW; go_simp; try with_reducible rfl⟩) hB0.cells.2 ?_
              go_frame
              refine F_take (i := 4) (d := some 39) (by kernel_rfl) (by kernel_rfl) (by decide) (s' := #[true, true, true, false, true, false, false, false, false]) (by kernel_rfl) rfl rfl (by kernel_rfl) (by kernel_rfl) (by kernel_rfl) (fun _ _ _ h => h) (Or.inl ⟨by kernel_rfl, fun W hW => by obtain x1 := hW; go_simp; try with_reducible rfl⟩) hB0.cells.2 ?_
              go_frame
              refine F_take (i := 5) (d := some 40) (by kernel_rfl) (by kernel_rfl) (by decide) (s' := #[true, true, true, false, true, true, false, false, false]) (by kernel_rfl) rfl rfl (by kernel_rfl) (by kernel_rfl) (by kernel_rfl) (fun _ _ _ h => h) (Or.inl ⟨by kernel_rfl, fun W hW => by obtain x1 := hW; go_simp; try with_reducible rfl⟩) hB0.cells.2 ?_
              go_frame
              refine F_take (i := 6) (d := some 41) (by kernel_rfl) (by kernel_rfl) (by decide) (s' := #[true, true, true, false, true, true, true, false, false]) (by kernel_rfl) rfl rfl (by kernel_rfl) (by kernel_rfl) (by kernel_rfl) (fun _ _ _ h => h) (Or.inl ⟨by kernel_rfl, fun W hW => by obtain x1 := hW; go_simp; try with_reducible rfl⟩) hB0.cells.2 ?_
              go_frame
              refine F_one (i := 3) (s' := #[true, true, true, true, true, true, true, false, false]) (by kernel_rfl) (by kernel_rfl) (wpOp_enterL (i := 3) (d := some 38) (f := 36) (args := #[.pointer (some ⟨p, 0, none⟩), .slice ka hs.length kc]) rfl rfl (by kernel_rfl) (by go_simp) ((bAdd_m hB0 Hhs.out HageM.out Hhage.out (by have := hh50; simp only; omega)).mono ?_))
              rintro r w5 ⟨hr, hB3⟩
              rw [Hz1.out] at hr
              subst hr
              refine ⟨_, rfl, fun _ => hB3.cells.2, ?_⟩
              go_frame
              refine F_one (i := 7) (s' := #[true, true, true, true, true, true, true, true, false]) (by kernel_rfl) (by kernel_rfl) (wpOp_enterL (i := 7) (d := some 42) (f := 44) (args := #[.pointer (some ⟨q, 0, none⟩), .slice ka hs.length kc]) rfl rfl (by kernel_rfl) (by go_simp) ((bAdd_l hB3 Hhs.out Hage.out Hhage.out (by have := HLl.out; simp only; omega)).mono ?_))
              rintro r w6 ⟨hr, u, hB4⟩
              rw [Hz2.out] at hr
              subst hr
              refine ⟨_, rfl, fun _ => hB4.cells.2, ?_⟩
              go_frame
              refine F_one (i := 8) (s' := #[true, true, true, true, true, true, true, true, true]) (by kernel_rfl) (by kernel_rfl) (wpOp_valueL (i := 8) (d := some 43) (w' := w6) (v := .bool false) rfl rfl (by kernel_rfl) (by go_simp) ⟨fun h => absurd h (by decide), ?_⟩)
              go_frame
              refine F_done (by kernel_rfl) ?_ _
              have Hend := Lib.hid hB4
              clear hB0 hB3 hB4
              go_wp2_with fail
              go_meet
              case rel => exact ⟨rfl, _, _, u, Hend.out, Hadd.out, addAllD_age Hage.out Hhage.out, by have := addAllD_len L hs; omega⟩
            · by_cases h1 : kd = 1
              · subst h1
                by_cases h0 : 0 < hs.length
                · obtain ⟨g2, o2, hA2, -⟩ := HB1.out.one 0 h0 Hhs.out
                  simp only at hA2
                  subst hA2
                  obtain ⟨e, he⟩ : ∃ e, hs[0] = e := ⟨_, rfl⟩
                  have hea := Hhage.out hs[0] (List.getElem_mem h0)
                  rw [he] at hea
                  obtain ⟨y1, y2, y3, y4, y5, y6, y7⟩ := e
                  have He0 := Lib.hid he
                  have Hy0 := Lib.hid (show 0 ≤ y1 ∧ y1 ≤ 60 from ⟨hea.lo, hea.hi⟩)
                  obtain ⟨ht1, ht2⟩ := take_eq Heq.out ⟨y1, y2, y3, y4, y5, y6, y7⟩
                  obtain ⟨z, hz⟩ : ∃ z, takeI L ⟨y1, y2, y3, y4, y5, y6, y7⟩ = z := ⟨_, rfl⟩
                  have Hz1 := Lib.hid (show takeI M ⟨y1, y2, y3, y4, y5, y6, y7⟩ = z by rw [ht1, hz])
                  have Hz2 := Lib.hid hz
                  have Htk := Lib.hid ht2
                  have h0' : decide ((0 : Int) < (hs.length : Int)) = true := by simp; omega
                  clear hz ht1 ht2 he hea
                  go_wp2
                  refine wp_region_F (F := fun W => W.cell? ⟨ga, 1, none⟩ = some (.slice (some ⟨g2, o2, none⟩) hs.length kc) ∧ W.cell? ⟨g2, o2, none⟩ = some (.int .i64 y1) ∧ W.cell? ⟨g2, o2 + 1, none⟩ = some (.int .i64 y2) ∧ W.cell? ⟨g2, o2 + 2, none⟩ = some (.int .i64 y3) ∧ W.cell? ⟨g2, o2 + 3, none⟩ = some (.int .i64 y4) ∧ W.cell? ⟨g2, o2 + 4, none⟩ = some (.int .i64 y5) ∧ W.cell? ⟨g2, o2 + 5, none⟩ = some (.int .i64 y6) ∧ W.cell? ⟨g2, o2 + 6, none⟩ = some (.int .i64 y7)) (n := 12) (m := 13) (s := #[false, false, false, false, false, false, false, false, false, false, false, false, false]) (by kernel_rfl) (by kernel_rfl) (by kernel_rfl) ?_
                  intro wd hwd
                  have hB0 := HBd.out wd hwd.out
                  clear hwd
                  refine F_take (i := 0) (d := some 54) (by kernel_rfl) (by kernel_rfl) (by decide) (s' := #[true, false, false, false, false, false, false, false, false, false, false, false, false]) (by kernel_rfl) rfl rfl (by kernel_rfl) (by kernel_rfl) (by kernel_rfl) (fun _ _ _ h => h) (Or.inl ⟨by kernel_rfl, fun W hW => by obtain ⟨x1, c0, c1, c2, c3, c4, c5, c6⟩ := hW; go_simp; try with_reducible rfl⟩) (hB0.tk Hhs.out h0 He0.out) ?_
                  go_frame
                  refine F_take (i := 1) (d := some 55) (by kernel_rfl) (by kernel_rfl) (by decide) (s' := #[true, true, false, false, false, false, false, false, false, false, false, false, false]) (by kernel_rfl) rfl rfl (by kernel_rfl) (by kernel_rfl) (by kernel_rfl) (fun _ _ _ h => h) (Or.inl ⟨by kernel_rfl, fun W hW => by obtain ⟨x1, c0, c1, c2, c3, c4, c5, c6⟩ := hW; go_simp; try with_reducible rfl⟩) (hB0.tk Hhs.out h0 He0.out) ?_
                  go_frame
                  refine F_take (i := 2) (d := some 56) (by kernel_rfl) (by kernel_rfl) (by decide) (s' := #[true, true, true, false, false, false, false, false, false, false, false, false, false]) (by kernel_rfl) rfl rfl (by kernel_rfl) (by kernel_rfl) (by kernel_rfl) (fun _ _ _ h => h) (Or.inl ⟨by kernel_rfl, fun W hW => by obtain ⟨x1, c0, c1, c2, c3, c4, c5, c6⟩ := hW; go_simp; try with_reducible rfl⟩) (hB0.tk Hhs.out h0 He0.out) ?_
                  go_frame
                  refine F_take (i := 3) (d := some 57) (by kernel_rfl) (by kernel_rfl) (by decide) (s' := #[true, true, true, true, false, false, false, false, false, false, false, false, false]) (by kernel_rfl) rfl rfl (by kernel_rfl) (by kernel_rfl) (by kernel_rfl) (fun _ _ _ h => h) (Or.inl ⟨by kernel_rfl, fun W hW => by obtain ⟨x1, c0, c1, c2, c3, c4, c5, c6⟩ := hW; go_simp; try with_reducible rfl⟩) (hB0.tk Hhs.out h0 He0.out) ?_
                  go_frame
                  refine F_take (i := 4) (d := some 58) (by kernel_rfl) (by kernel_rfl) (by decide) (s' := #[true, true, true, true, true, false, false, false, false, false, false, false, false]) (by kernel_rfl) rfl rfl (by kernel_rfl) (by kernel_rfl) (by kernel_rfl) (fun _ _ _ h => h) (Or.inl ⟨by kernel_rfl, fun W hW => by obtain ⟨x1, c0, c1, c2, c3, c4, c5, c6⟩ := hW; go_simp; try with_reducible rfl⟩) (hB0.tk Hhs.out h0 He0.out) ?_
                  go_frame
                  refine F_take (i := 6) (d := some 60) (by kernel_rfl) (by kernel_rfl) (by decide) (s' := #[true, true, true, true, true, false, true, false, false, false, false, false, false]) (by kernel_rfl) rfl rfl (by kernel_rfl) (by kernel_rfl) (by kernel_rfl) (fun _ _ _ h => h) (Or.inl ⟨by kernel_rfl, fun W hW => by obtain ⟨x1, c0, c1, c2, c3, c4, c5, c6⟩ := hW; go_simp; try with_reducible rfl⟩) (hB0.tk Hhs.out h0 He0.out) ?_
                  go_frame
                  refine F_take (i := 7) (d := some 61) (by kernel_rfl) (by kernel_rfl) (by decide) (s' := #[true, true, true, true, true, false, true, true, false, false, false, false, false]) (by kernel_rfl) rfl rfl (by kernel_rfl) (by kernel_rfl) (by kernel_rfl) (fun _ _ _ h => h) (Or.inl ⟨by kernel_rfl, fun W hW => by obtain ⟨x1, c0, c1, c2, c3, c4, c5, c6⟩ := hW; go_simp; try with_reducible rfl⟩) (hB0.tk Hhs.out h0 He0.out) ?_
                  go_frame
                  refine F_take (i := 8) (d := some 62) (by kernel_rfl) (by kernel_rfl) (by decide) (s' := #[true, true, true, true, true, false, true, true, true, false, false, false, false]) (by kernel_rfl) rfl rfl (by kernel_rfl) (by kernel_rfl) (by kernel_rfl) (fun _ _ _ h => h) (Or.inl ⟨by kernel_rfl, fun W hW => by obtain ⟨x1, c0, c1, c2, c3, c4, c5, c6⟩ := hW; go_simp; try with_reducible rfl⟩) (hB0.tk Hhs.out h0 He0.out) ?_
                  go_frame
                  refine F_take (i := 9) (d := some 63) (by kernel_rfl) (by kernel_rfl) (by decide) (s' := #[true, true, true, true, true, false, true, true, true, true, false, false, false]) (by kernel_rfl) rfl rfl (by kernel_rfl) (by kernel_rfl) (by kernel_rfl) (fun _ _ _ h => h) (Or.inl ⟨by kernel_rfl, fun W hW => by obtain ⟨x1, c0, c1, c2, c3, c4, c5, c6⟩ := hW; go_simp; try with_reducible rfl⟩) (hB0.tk Hhs.out h0 He0.out) ?_
                  go_frame
                  refine F_take (i := 10) (d := some 64) (by kernel_rfl) (by kernel_rfl) (by decide) (s' := #[true, true, true, true, true, false, true, true, true, true, true, false, false]) (by kernel_rfl) rfl rfl (by kernel_rfl) (by kernel_rfl) (by kernel_rfl) (fun _ _ _ h => h) (Or.inl ⟨by kernel_rfl, fun W hW => by obtain ⟨x1, c0, c1, c2, c3, c4, c5, c6⟩ := hW; go_simp; try with_reducible rfl⟩) (hB0.tk Hhs.out h0 He0.out) ?_
                  go_frame
                  refine F_one (i := 5) (s' := #[true, true, true, true, true, true, true, true, true, true, true, false, false]) (by kernel_rfl) (by kernel_rfl) (wpOp_enterL (i := 5) (d := some 59) (f := 41) (args := #[.pointer (some ⟨p, 0, none⟩), .agg #[.int .i64 y1, .int .i64 y2, .int .i64 y3, .int .i64 y4, .int .i64 y5, .int .i64 y6, .int .i64 y7]]) rfl rfl (by kernel_rfl) (by go_simp) ((bTake_m hB0 y1 y2 y3 y4 y5 y6 y7 HageM.out Hy0.out).mono ?_))
                  rintro r w5 ⟨hr, hB3⟩
                  rw [Hz1.out] at hr
                  subst hr
                  refine ⟨_, rfl, fun _ => (hB3.tk Hhs.out h0 He0.out), ?_⟩
                  go_frame
                  refine F_one (i := 11) (s' := #[true, true, true, true, true, true, true, true, true, true, true, true, false]) (by kernel_rfl) (by kernel_rfl) (wpOp_enterL (i := 11) (d := some 65) (f := 45) (args := #[.pointer (some ⟨q, 0, none⟩), .agg #[.int .i64 y1, .int .i64 y2, .int .i64 y3, .int .i64 y4, .int .i64 y5, .int .i64 y6, .int .i64 y7]]) rfl rfl (by kernel_rfl) (by go_simp) ((bTake_l hB3 y1 y2 y3 y4 y5 y6 y7 Hage.out Heq.out.sorted.keys Hn0.out Hy0.out).mono ?_))
                  rintro r w6 ⟨hr, u, hB4⟩
                  rw [Hz2.out] at hr
                  subst hr
                  refine ⟨_, rfl, fun _ => (hB4.tk Hhs.out h0 He0.out), ?_⟩
                  go_frame
                  refine F_one (i := 12) (s' := #[true, true, true, true, true, true, true, true, true, true, true, true, true]) (by kernel_rfl) (by kernel_rfl) (wpOp_valueL (i := 12) (d := some 66) (w' := w6) (v := .bool false) rfl rfl (by kernel_rfl) (by go_simp) ⟨fun h => absurd h (by decide), ?_⟩)
                  go_frame
                  refine F_done (by kernel_rfl) ?_ _
                  have Hend := Lib.hid hB4
                  clear hB0 hB3 hB4
                  go_wp2_with fail
                  go_meet
                  case rel => exact ⟨rfl, _, _, u, Hend.out, Htk.out, fun y hy => Hage.out y (take_mem hy), Nat.le_trans (take_len _ _) (Nat.le_add_right _ _)⟩
                · have h0' : decide ((0 : Int) < (hs.length : Int)) = false := decide_eq_false (by omega)
                  have h0n : decide (0 < hs.length) = false := decide_eq_false h0
                  go_wp2_with fail
                  go_meet
                  case rel => exact ⟨rfl, M, L, v, HB1.out, Heq.out, Hage.out, Nat.le_add_right _ _⟩
              · by_cases h2 : kd = 2
                · subst h2
                  obtain ⟨Aq, cq, hvq⟩ := HB1.out.pr.rw.own.shape
                  subst hvq
                  have Hz1 := Lib.hid Heq.out.len
                  go_wp2
                  refine wp_region_F (F := fun W => W.cell? ⟨q, 0, none⟩ = some (.slice Aq L.length cq)) (n := 7) (m := 8) (s := #[false, false, false, false, false, false, false, false]) (by kernel_rfl) (by kernel_rfl) (by kernel_rfl) ?_
                  intro wd hwd
                  have hB0 := HBd.out wd hwd.out
                  clear hwd
                  refine F_take (i := 0) (d := some 71) (by kernel_rfl) (by kernel_rfl) (by decide) (s' := #[true, false, false, false, false, false, false, false]) (by kernel_rfl) rfl rfl (by kernel_rfl) (by kernel_rfl) (by kernel_rfl) (fun _ _ _ h => h) (Or.inl ⟨by kernel_rfl, fun W hW => by obtain x1 := hW; go_simp; try with_reducible rfl⟩) hB0.pr.rw.cell ?_
                  go_frame
                  refine F_take (i := 2) (d := some 73) (by kernel_rfl) (by kernel_rfl) (by decide) (s' := #[true, false, true, false, false, false, false, false]) (by kernel_rfl) rfl rfl (by kernel_rfl) (by kernel_rfl) (by kernel_rfl) (fun _ _ _ h => h) (Or.inl ⟨by kernel_rfl, fun W hW => by obtain x1 := hW; go_simp; try with_reducible rfl⟩) hB0.pr.rw.cell ?_
                  go_frame
                  refine F_take (i := 3) (d := some 74) (by kernel_rfl) (by kernel_rfl) (by decide) (s' := #[true, false, true, true, false, false, false, false]) (by kernel_rfl) rfl rfl (by kernel_rfl) (by kernel_rfl) (by kernel_rfl) (fun _ _ _ h => h) (Or.inl ⟨by kernel_rfl, fun W hW => by obtain x1 := hW; go_simp; try with_reducible rfl⟩) hB0.pr.rw.cell ?_
                  go_frame
                  refine F_take (i := 4) (d := some 75) (by kernel_rfl) (by kernel_rfl) (by decide) (s' := #[true, false, true, true, true, false, false, false]) (by kernel_rfl) rfl rfl (by kernel_rfl) (by kernel_rfl) (by kernel_rfl) (fun _ _ _ h => h) (Or.inl ⟨by kernel_rfl, fun W hW => by obtain x1 := hW; go_simp; try with_reducible rfl⟩) hB0.pr.rw.cell ?_
                  go_frame
                  refine F_take (i := 5) (d := some 76) (by kernel_rfl) (by kernel_rfl) (by decide) (s' := #[true, false, true, true, true, true, false, false]) (by kernel_rfl) rfl rfl (by kernel_rfl) (by kernel_rfl) (by kernel_rfl) (fun _ _ _ h => h) (Or.inl ⟨by kernel_rfl, fun W hW => by obtain x1 := hW; go_simp; try with_reducible rfl⟩) hB0.pr.rw.cell ?_
                  go_frame
                  refine F_take (i := 6) (d := some 77) (by kernel_rfl) (by kernel_rfl) (by decide) (s' := #[true, false, true, true, true, true, true, false]) (by kernel_rfl) rfl rfl (by kernel_rfl) (by kernel_rfl) (by kernel_rfl) (fun _ _ _ h => h) (Or.inl ⟨by kernel_rfl, fun W hW => by obtain x1 := hW; go_simp; try with_reducible rfl⟩) hB0.pr.rw.cell ?_
                  go_frame
                  refine F_one (i := 1) (s' := #[true, true, true, true, true, true, true, false]) (by kernel_rfl) (by kernel_rfl) (wpOp_enterL (i := 1) (d := some 72) (f := 39) (args := #[.pointer (some ⟨p, 0, none⟩)]) rfl rfl (by kernel_rfl) (by go_simp) ((bClear_m hB0).mono ?_))
                  rintro r w5 ⟨hr, hB3⟩
                  rw [Hz1.out] at hr
                  subst hr
                  refine ⟨_, rfl, fun _ => hB3.pr.rw.cell, ?_⟩
                  go_frame
                  refine F_one (i := 7) (s' := #[true, true, true, true, true, true, true, true]) (by kernel_rfl) (by kernel_rfl) (wpOp_valueL (i := 7) (d := some 78) (w' := w5) (v := .bool false) rfl rfl (by kernel_rfl) (by go_simp) ⟨fun h => absurd h (by decide), ?_⟩)
                  go_frame
                  refine F_done (by kernel_rfl) ?_ _
                  have hfz := hB3.pr.rw.ptr.frozen 0
                  have hcq := hB3.pr.rw.cell
                  have Hend := Lib.hid (bNil_l hB3)
                  clear hB0 hB3
                  go_wp2_with fail
                  go_meet
                  case rel => exact ⟨rfl, _, _, _, Hend.out, WEq.nil, by simp, by simp⟩
                · go_wp2_with fail
                  go_meet
                  case rel => exact ⟨rfl, M, L, v, HB1.out, Heq.out, Hage.out, Nat.le_add_right _ _⟩
          case rest =>
            obtain ⟨rfl, M2, L2, v2, hB, heq2, hage2, hl2⟩ := hcut
            obtain ⟨Aq, cq, hvq⟩ := hB.pr.rw.own.shape
            subst hvq
            have HB2 := Lib.hid hB
            have Heq2 := Lib.hid heq2
            have Hage2 := Lib.hid hage2
            have HnL := Lib.hid (show L2.length ≤ 2 ^ 20 by have := HLl.out; omega)
            have HnM := Lib.hid (show M2.length ≤ 2 ^ 20 by have := HLl.out; have := heq2.len; omega)
            have Hnk := Lib.hid (show (askL L2).length ≤ 2 ^ 20 by unfold askL; rw [List.length_map, List.length_take]; exact Nat.le_trans (Nat.min_le_left _ _) (by decide))
            have Hl2 := Lib.hid hl2
            have Hz1 := Lib.hid heq2.len
            have HBd := Lib.hid (show ∀ wd : World, wd = wc.drew → WBun w wd p b q (.slice Aq L2.length cq) M2 L2 ga ⟨kd, ka, kc, hs⟩ from by rintro _ rfl; exact hB.keep (Below.refl _ _).drew)
            clear hB heq2 hage2 hl2 z0 z1 HB1 HageM
            go_wp2
            refine wp_region_F (F := fun W => W.cell? ⟨q, 0, none⟩ = some (.slice Aq L2.length cq)) (n := 25) (m := 26) (s := #[false, false, false, false, false, false, false, false, false, false, false, false, false, false, false, false, false, false, false, false, false, false, false, false, false, false]) (by kernel_rfl) (by kernel_rfl) (by kernel_rfl) ?_
            intro wd hwd
            have hB0 := HBd.out wd hwd.out
            clear hwd
            refine F_take (i := 0) (d := some 82) (by kernel_rfl) (by kernel_rfl) (by decide) (s' := #[true, false, false, false, false, false, false, false, false, false, false, false, false, false, false, false, false, false, false, false, false, false, false, false, false, false]) (by kernel_rfl) rfl rfl (by kernel_rfl) (by kernel_rfl) (by kernel_rfl) (fun _ _ _ h => h) (Or.inl ⟨by kernel_rfl, fun W hW => by obtain x1 := hW; go_simp; try with_reducible rfl⟩) hB0.pr.rw.cell ?_
            go_frame
            refine F_take (i := 2) (d := some 84) (by kernel_rfl) (by kernel_rfl) (by decide) (s' := #[true, false, true, false, false, false, false, false, false, false, false, false, false, false, false, false, false, false, false, false, false, false, false, false, false, false]) (by kernel_rfl) rfl rfl (by kernel_rfl) (by kernel_rfl) (by kernel_rfl) (fun _ _ _ h => h) (Or.inl ⟨by kernel_rfl, fun W hW => by obtain x1 := hW; go_simp; try with_reducible rfl⟩) hB0.pr.rw.cell ?_
            go_frame
            refine F_take (i := 3) (d := some 85) (by kernel_rfl) (by kernel_rfl) (by decide) (s' := #[true, false, true, true, false, false, false, false, false, false, false, false, false, false, false, false, false, false, false, false, false, false, false, false, false, false]) (by kernel_rfl) rfl rfl (by kernel_rfl) (by kernel_rfl) (by kernel_rfl) (fun _ _ _ h => h) (Or.inl ⟨by kernel_rfl, fun W hW => by obtain x1 := hW; go_simp; try with_reducible rfl⟩) hB0.pr.rw.cell ?_
            go_frame
            refine F_take (i := 4) (d := some 86) (by kernel_rfl) (by kernel_rfl) (by decide) (s' := #[true, false, true, true, true, false, false, false, false, false, false, false, false, false, false, false, false, false, false, false, false, false, false, false, false, false]) (by kernel_rfl) rfl rfl (by kernel_rfl) (by kernel_rfl) (by kernel_rfl) (fun _ _ _ h => h) (Or.inl ⟨by kernel_rfl, fun W hW => by obtain x1 := hW; go_simp; try with_reducible rfl⟩) hB0.pr.rw.cell ?_
            go_frame
            refine F_take (i := 5) (d := some 87) (by kernel_rfl) (by kernel_rfl) (by decide) (s' := #[true, false, true, true, true, true, false, false, false, false, false, false, false, false, false, false, false, false, false, false, false, false, false, false, false, false]) (by kernel_rfl) rfl rfl (by kernel_rfl) (by kernel_rfl) (by kernel_rfl) (fun _ _ _ h => h) (Or.inl ⟨by kernel_rfl, fun W hW => by obtain x1 := hW; go_simp; try with_reducible rfl⟩) hB0.pr.rw.cell ?_
            go_frame
            refine F_take (i := 6) (d := some 88) (by kernel_rfl) (by kernel_rfl) (by decide) (s' := #[true, false, true, true, true, true, true, false, false, false, false, false, false, false, false, false, false, false, false, false, false, false, false, false, false, false]) (by kernel_rfl) rfl rfl (by kernel_rfl) (by kernel_rfl) (by kernel_rfl) (fun _ _ _ h => h) (Or.inl ⟨by kernel_rfl, fun W hW => by obtain x1 := hW; go_simp; try with_reducible rfl⟩) hB0.pr.rw.cell ?_
            go_frame
            refine F_one (i := 1) (s' := #[true, true, true, true, true, true, true, false, false, false, false, false, false, false, false, false, false, false, false, false, false, false, false, false, false, false]) (by kernel_rfl) (by kernel_rfl) (wpOp_enterL (i := 1) (d := some 83) (f := 40) (args := #[.pointer (some ⟨p, 0, none⟩)]) rfl rfl (by kernel_rfl) (by go_simp) ((WaLen p b M2 wd hB0.pr.wa).mono ?_))
            rintro r w5 ⟨hr, rfl⟩
            rw [Hz1.out] at hr
            subst hr
            refine ⟨_, rfl, fun _ => hB0.pr.rw.cell, ?_⟩
            go_frame
            refine F_take (i := 7) (d := some 89) (by kernel_rfl) (by kernel_rfl) (by decide) (s' := #[true, true, true, true, true, true, true, true, false, false, false, false, false, false, false, false, false, false, false, false, false, false, false, false, false, false]) (by kernel_rfl) rfl rfl (by kernel_rfl) (by kernel_rfl) (by kernel_rfl) (fun _ _ _ h => h) (Or.inl ⟨by kernel_rfl, fun W hW => by obtain x1 := hW; go_simp; try with_reducible rfl⟩) hB0.pr.rw.cell ?_
            go_frame
            refine F_take (i := 8) (d := some 90) (by kernel_rfl) (by kernel_rfl) (by decide) (s' := #[true, true, true, true, true, true, true, true, true, false, false, false, false, false, false, false, false, false, false, false, false, false, false, false, false, false]) (by kernel_rfl) rfl rfl (by kernel_rfl) (by kernel_rfl) (by kernel_rfl) (fun _ _ _ h => h) (Or.inl ⟨by kernel_rfl, fun W hW => by obtain x1 := hW; go_simp; try with_reducible rfl⟩) hB0.pr.rw.cell ?_
            go_frame
            refine F_take (i := 9) (d := some 91) (by kernel_rfl) (by kernel_rfl) (by decide) (s' := #[true, true, true, true, true, true, true, true, true, true, false, false, false, false, false, false, false, false, false, false, false, false, false, false, false, false]) (by kernel_rfl) rfl rfl (by kernel_rfl) (by kernel_rfl) (by kernel_rfl) (fun _ _ _ h => h) (Or.inl ⟨by kernel_rfl, fun W hW => by obtain x1 := hW; go_simp; try with_reducible rfl⟩) hB0.pr.rw.cell ?_
            go_frame
            refine F_take (i := 11) (d := some 93) (by kernel_rfl) (by kernel_rfl) (by decide) (s' := #[true, true, true, true, true, true, true, true, true, true, false, true, false, false, false, false, false, false, false, false, false, false, false, false, false, false]) (by kernel_rfl) rfl rfl (by kernel_rfl) (by kernel_rfl) (by kernel_rfl) (fun _ _ _ h => h) (Or.inl ⟨by kernel_rfl, fun W hW => by obtain x1 := hW; go_simp; try with_reducible rfl⟩) hB0.pr.rw.cell ?_
            go_frame
            refine F_one (i := 10) (s' := #[true, true, true, true, true, true, true, true, true, true, true, true, false, false, false, false, false, false, false, false, false, false, false, false, false, false]) (by kernel_rfl) (by kernel_rfl) (wpOp_enterL (i := 10) (d := some 92) (f := 38) (args := #[.pointer (some ⟨p, 0, none⟩)]) rfl rfl (by kernel_rfl) (by go_simp) ((WaAsk_of p b M2 L2 _ hB0.pr.wa Heq2.out HnM.out).mono ?_))
            rintro r w6 ⟨u6, rfl, hown6, hb6⟩
            refine ⟨_, rfl, fun _ => (hB0.keep hb6).pr.rw.cell, ?_⟩
            go_frame
            have hB1 := hB0.keep hb6
            clear hb6 hB0
            refine F_one (i := 12) (s' := #[true, true, true, true, true, true, true, true, true, true, true, true, true, false, false, false, false, false, false, false, false, false, false, false, false, false]) (by kernel_rfl) (by kernel_rfl) (wpOp_enterL (i := 12) (d := some 94) (f := 47) (args := #[.pointer (some ⟨q, 0, none⟩)]) rfl rfl (by kernel_rfl) (by go_simp) ((rwAsk q _ L2 w6 hB1.pr.rw HnL.out).mono ?_))
            rintro r w7 ⟨u7, rfl, hown7, hb7⟩
            refine ⟨_, rfl, fun _ => (hB1.keep hb7).pr.rw.cell, ?_⟩
            go_frame
            have hB2 := hB1.keep hb7
            have hown6' := hown6.below hb7
            clear hb7 hB1 hown6
            obtain ⟨A6, cap6, hu6⟩ := hown6'.shape
            obtain ⟨A7, cap7, hu7⟩ := hown7.shape
            subst hu6 hu7
            refine F_one (i := 13) (s' := #[true, true, true, true, true, true, true, true, true, true, true, true, true, true, false, false, false, false, false, false, false, false, false, false, false, false]) (by kernel_rfl) (by kernel_rfl) (wpOp_enterL (i := 13) (d := some 95) (f := 46) (args := #[.slice A6 (askL L2).length cap6, .slice A7 (askL L2).length cap7]) rfl rfl (by kernel_rfl) (by go_simp) ((Keys_same A6 A7 cap6 cap7 _ w7 _ _ (OwnR.rows (C := 3) (cells := K3.cells) (fun _ => rfl) hown6').2 (OwnR.rows (C := 3) (cells := K3.cells) (fun _ => rfl) hown7).2 (Nat.le_refl _) (Nat.le_refl _) Hnk.out _ _ rfl rfl).mono ?_))
            rintro r w8 ⟨rfl, hb8⟩
            refine ⟨_, rfl, fun _ => (hB2.keep hb8).pr.rw.cell, ?_⟩
            go_frame
            have hB3 := hB2.keep hb8
            clear hb8 hB2 hown6' hown7
            refine F_take (i := 14) (d := some 96) (by kernel_rfl) (by kernel_rfl) (by decide) (s' := #[true, true, true, true, true, true, true, true, true, true, true, true, true, true, true, false, false, false, false, false, false, false, false, false, false, false]) (by kernel_rfl) rfl rfl (by kernel_rfl) (by kernel_rfl) (by kernel_rfl) (fun _ _ _ h => h) (Or.inl ⟨by kernel_rfl, fun W hW => by obtain x1 := hW; go_simp; try with_reducible rfl⟩) hB3.pr.rw.cell ?_
            go_frame
            refine F_take (i := 15) (d := some 97) (by kernel_rfl) (by kernel_rfl) (by decide) (s' := #[true, true, true, true, true, true, true, true, true, true, true, true, true, true, true, true, false, false, false, false, false, false, false, false, false, false]) (by kernel_rfl) rfl rfl (by kernel_rfl) (by kernel_rfl) (by kernel_rfl) (fun _ _ _ h => h) (Or.inl ⟨by kernel_rfl, fun W hW => by obtain x1 := hW; go_simp; try with_reducible rfl⟩) hB3.pr.rw.cell ?_
            go_frame
            refine F_take (i := 16) (d := some 98) (by kernel_rfl) (by kernel_rfl) (by decide) (s' := #[true, true, true, true, true, true, true, true, true, true, true, true, true, true, true, true, true, false, false, false, false, false, false, false, false, false]) (by kernel_rfl) rfl rfl (by kernel_rfl) (by kernel_rfl) (by kernel_rfl) (fun _ _ _ h => h) (Or.inl ⟨by kernel_rfl, fun W hW => by obtain x1 := hW; go_simp; try with_reducible rfl⟩) hB3.pr.rw.cell ?_
            go_frame
            refine F_take (i := 17) (d := some 99) (by kernel_rfl) (by kernel_rfl) (by decide) (s' := #[true, true, true, true, true, true, true, true, true, true, true, true, true, true, true, true, true, true, false, false, false, false, false, false, false, false]) (by kernel_rfl) rfl rfl (by kernel_rfl) (by kernel_rfl) (by kernel_rfl) (fun _ _ _ h => h) (Or.inl ⟨by kernel_rfl, fun W hW => by obtain x1 := hW; go_simp; try with_reducible rfl⟩) hB3.pr.rw.cell ?_
            go_frame
            refine F_take (i := 19) (d := some 101) (by kernel_rfl) (by kernel_rfl) (by decide) (s' := #[true, true, true, true, true, true, true, true, true, true, true, true, true, true, true, true, true, true, false, true, false, false, false, false, false, false]) (by kernel_rfl) rfl rfl (by kernel_rfl) (by kernel_rfl) (by kernel_rfl) (fun _ _ _ h => h) (Or.inl ⟨by kernel_rfl, fun W hW => by obtain x1 := hW; go_simp; try with_reducible rfl⟩) hB3.pr.rw.cell ?_
            go_frame
            refine F_take (i := 20) (d := some 102) (by kernel_rfl) (by kernel_rfl) (by decide) (s' := #[true, true, true, true, true, true, true, true, true, true, true, true, true, true, true, true, true, true, false, true, true, false, false, false, false, false]) (by kernel_rfl) rfl rfl (by kernel_rfl) (by kernel_rfl) (by kernel_rfl) (fun _ _ _ h => h) (Or.inl ⟨by kernel_rfl, fun W hW => by obtain x1 := hW; go_simp; try with_reducible rfl⟩) hB3.pr.rw.cell ?_
            go_frame
            refine F_take (i := 21) (d := some 103) (by kernel_rfl) (by kernel_rfl) (by decide) (s' := #[true, true, true, true, true, true, true, true, true, true, true, true, true, true, true, true, true, true, false, true, true, true, false, false, false, false]) (by kernel_rfl) rfl rfl (by kernel_rfl) (by kernel_rfl) (by kernel_rfl) (fun _ _ _ h => h) (Or.inl ⟨by kernel_rfl, fun W hW => by obtain x1 := hW; go_simp; try with_reducible rfl⟩) hB3.pr.rw.cell ?_
            go_frame
            refine F_take (i := 22) (d := some 104) (by kernel_rfl) (by kernel_rfl) (by decide) (s' := #[true, true, true, true, true, true, true, true, true, true, true, true, true, true, true, true, true, true, false, true, true, true, true, false, false, false]) (by kernel_rfl) rfl rfl (by kernel_rfl) (by kernel_rfl) (by kernel_rfl) (fun _ _ _ h => h) (Or.inl ⟨by kernel_rfl, fun W hW => by obtain x1 := hW; go_simp; try with_reducible rfl⟩) hB3.pr.rw.cell ?_
            go_frame
            refine F_one (i := 18) (s' := #[true, true, true, true, true, true, true, true, true, true, true, true, true, true, true, true, true, true, true, true, true, true, true, false, false, false]) (by kernel_rfl) (by kernel_rfl) (wpOp_enterL (i := 18) (d := some 100) (f := 37) (args := #[.pointer (some ⟨p, 0, none⟩)]) rfl rfl (by kernel_rfl) (by go_simp) ((WaAll_of p b M2 L2 _ hB3.pr.wa Heq2.out HnM.out).mono ?_))
            rintro r w9 ⟨u9, rfl, hown9, hb9⟩
            refine ⟨_, rfl, fun _ => (hB3.keep hb9).pr.rw.cell, ?_⟩
            go_frame
            have hB4 := hB3.keep hb9
            clear hb9 hB3
            obtain ⟨A9, cap9, hu9⟩ := hown9.shape
            subst hu9
            refine F_one (i := 23) (s' := #[true, true, true, true, true, true, true, true, true, true, true, true, true, true, true, true, true, true, true, true, true, true, true, true, false, false]) (by kernel_rfl) (by kernel_rfl) (wpOp_enterL (i := 23) (d := some 105) (f := 48) (args := #[.slice A9 L2.length cap9, .slice Aq L2.length cq]) rfl rfl (by kernel_rfl) (by go_simp) ((Same13 A9 Aq cap9 cq L2 w9 _ _ (OwnR.rows (C := 7) (cells := Hd.cells) (fun _ => rfl) hown9).2 (OwnR.rows (C := 7) (cells := Hd.cells) (fun _ => rfl) hB4.pr.rw.own).2 (Nat.le_refl _) (Nat.le_refl _) HnL.out _ _ rfl rfl).mono ?_))
            rintro r w10 ⟨rfl, hb10⟩
            refine ⟨_, rfl, fun _ => (hB4.keep hb10).pr.rw.cell, ?_⟩
            go_frame
            have hB5 := hB4.keep hb10
            clear hb10 hB4 hown9
            refine F_take (i := 24) (d := some 106) (by kernel_rfl) (by kernel_rfl) (by decide) (s' := #[true, true, true, true, true, true, true, true, true, true, true, true, true, true, true, true, true, true, true, true, true, true, true, true, true, false]) (by kernel_rfl) rfl rfl (by kernel_rfl) (by kernel_rfl) (by kernel_rfl) (fun _ _ _ h => h) (Or.inl ⟨by kernel_rfl, fun W hW => by obtain x1 := hW; go_simp; try with_reducible rfl⟩) hB5.pr.rw.cell ?_
            go_frame
            refine F_one (i := 25) (s' := #[true, true, true, true, true, true, true, true, true, true, true, true, true, true, true, true, true, true, true, true, true, true, true, true, true, true]) (by kernel_rfl) (by kernel_rfl) (wpOp_valueL (i := 25) (d := some 107) (w' := w10) (v := .bool false) rfl rfl (by kernel_rfl) (by go_simp) ⟨fun h => absurd h (by decide), ?_⟩)
            go_frame
            refine F_done (by kernel_rfl) ?_ _
            obtain ⟨z0, z1⟩ := hB5.cells
            simp only at z0 z1
            have HB5 := Lib.hid hB5
            clear hB5
            go_wp2
            go_loopw [111] (fun iv wx => ∃ i : Nat, iv = .int .i64 i ∧ i ≤ hs.length ∧ Below w10.heap.size w10 wx) (fun iv _ => hs.length - (intOf iv).toNat)
            case atStart => exact ⟨0, rfl, Nat.zero_le _, Below.refl _ _⟩
            case round =>
              obtain ⟨wo, rfl⟩ : ∃ wo : World, wo = wr := ⟨_, rfl⟩
              obtain ⟨i, rfl, hi, hbx⟩ := hrel
              have hBx := HB5.out.keep hbx
              by_cases hlt2 : i < hs.length
              · obtain ⟨g2, o2, hA2, -, x0, x1, x2, x3, x4, x5, x6⟩ := hBx.one i hlt2 Hhs.out
                have hil : (i : Int) < (hs.length : Int) := by omega
                simp only at x0 x1 x2 x3 x4 x5 x6 hA2
                subst hA2
                generalize hs[i] = y at *
                obtain ⟨y1, y2, y3, y4, y5, y6, y7⟩ := y
                simp only at x0 x1 x2 x3 x4 x5 x6
                have HBx := Lib.hid hBx
                have Hbx := Lib.hid hbx
                clear hBx hbx z0 z1
                rcases findI_get (k := ⟨y2, y3, y4⟩) (L := L2) with ⟨hf, hg⟩ | ⟨j2, hj2, hf, hg, -, -⟩
                · have hgM := hg
                  rw [← Heq2.out.get] at hgM
                  obtain ⟨z, hz⟩ : ∃ z, findI ⟨y2, y3, y4⟩ L2 = z := ⟨_, rfl⟩
                  rw [hz] at hf
                  have hf' : decide ((0 : Int) ≤ z) = false := decide_eq_false (by omega)
                  have Hf := Lib.hid hz
                  obtain ⟨u1, u2, u3, u4, u5, u6, u7, hu1, hu2⟩ : ∃ u1 u2 u3 u4 u5 u6 u7 : Int, (getH ⟨y2, y3, y4⟩ M2).getD zeroHd = ⟨u1, u2, u3, u4, u5, u6, u7⟩ ∧ (u1 = 0 ∧ u2 = 0 ∧ u3 = 0 ∧ u4 = 0 ∧ u5 = 0 ∧ u6 = 0 ∧ u7 = 0) := ⟨0, 0, 0, 0, 0, 0, 0, by rw [hgM]; rfl, rfl, rfl, rfl, rfl, rfl, rfl, rfl⟩
                  have Hu := Lib.hid hu1
                  have His := Lib.hid (show (getH ⟨y2, y3, y4⟩ M2).isSome = false by rw [hgM]; rfl)
                  have Hu2 := Lib.hid hu2
                  clear hg hgM hz hf hu1 hu2
                  go_wp2_with fail
                  with_reducible refine Calls.mono (key_any _ _ _ _ _ _ _ _) ?_
                  rintro r wa ⟨rfl, hba⟩
                  obtain ⟨wb, hWb, hkb, hBb, hbb⟩ : ∃ wb, wa.alloc (.cells #[.int .i64 y2, .int .i64 y3, .int .i64 y4] 63) = wb ∧ Blk wb wa.heap.size 63 #[.int .i64 y2, .int .i64 y3, .int .i64 y4] ∧ WBun w wb p b q (.slice Aq L2.length cq) M2 L2 ga ⟨kd, some ⟨g2, o2, none⟩, kc, hs⟩ ∧ Below w10.heap.size w10 wb := ⟨_, rfl, Blk.new _ _ _, ((HBx.out.keep ((Below.refl _ _).alloc (Nat.le_refl _) _)).keep hba).keep ((Below.refl _ _).alloc (Nat.le_refl _) _), Hbx.out.trans ((below_two hba _).mono Hbx.out.size)⟩
                  obtain ⟨k0, k1, k2⟩ : _ ∧ _ ∧ _ := ⟨hkb.cell 0, hkb.cell 1, hkb.cell 2⟩
                  simp only [List.getElem?_toArray, List.getElem?_cons_zero, List.getElem?_cons_succ] at k0 k1 k2
                  have Hkb := Lib.hid hkb
                  have HBb := Lib.hid hBb
                  have Hbb := Lib.hid hbb
                  clear hba hkb hBb hbb x0 x1 x2 x3 x4 x5 x6
                  go_wp2_with fail
                  with_reducible refine Calls.mono (WaGet p b M2 y2 y3 y4 _ HBb.out.pr.wa Hu.out His.out) ?_
                  rintro r wd ⟨rfl, hbd⟩
                  unfold aggH Hd.cells
                  obtain ⟨we, hWe, hue, hke, hBe, hbe⟩ : ∃ we, wd.alloc (.cells #[.int .i64 u1, .int .i64 u2, .int .i64 u3, .int .i64 u4, .int .i64 u5, .int .i64 u6, .int .i64 u7] 58) = we ∧ Blk we wd.heap.size 58 #[.int .i64 u1, .int .i64 u2, .int .i64 u3, .int .i64 u4, .int .i64 u5, .int .i64 u6, .int .i64 u7] ∧ Blk we wa.heap.size 63 #[.int .i64 y2, .int .i64 y3, .int .i64 y4] ∧ WBun w we p b q (.slice Aq L2.length cq) M2 L2 ga ⟨kd, some ⟨g2, o2, none⟩, kc, hs⟩ ∧ Below w10.heap.size w10 we := ⟨_, rfl, Blk.new _ _ _, (Hkb.out.below hbd Hkb.out.lt).alloc _, (HBb.out.keep hbd).keep ((Below.refl _ _).alloc (Nat.le_refl _) _), (Hbb.out.trans (hbd.mono Hbb.out.size)).alloc (Nat.le_trans Hbb.out.size hbd.size) _⟩
                  obtain ⟨l0, l1, l2⟩ : _ ∧ _ ∧ _ := ⟨hke.cell 0, hke.cell 1, hke.cell 2⟩
                  simp only [List.getElem?_toArray, List.getElem?_cons_zero, List.getElem?_cons_succ] at l0 l1 l2
                  have Hue := Lib.hid hue
                  have HBe := Lib.hid hBe
                  have Hbe := Lib.hid hbe
                  clear hbd hke hue hBe hbe k0 k1 k2
                  go_wp2_with fail
                  with_reducible refine Calls.mono (rwFind q _ L2 y2 y3 y4 _ HBe.out.pr.rw HnL.out Hf.out) ?_
                  rintro r wf ⟨rfl, hbf⟩
                  have huf := Hue.out.below hbf Hue.out.lt
                  have hBf := HBe.out.keep hbf
                  obtain ⟨a0, a1, a2, a3, a4, a5, a6, -⟩ := huf.both7
                  have cp := hBf.pr.rw.cell
                  have Hbf := Lib.hid (Hbe.out.trans (hbf.mono Hbe.out.size))
                  clear huf hBf hbf l0 l1 l2
                  obtain ⟨rfl, rfl, rfl, rfl, rfl, rfl, rfl⟩ := Hu2.out
                  go_wp2
                  go_quiet (fail)
                  go_wp2
                  go_roundw
                  case measure => simp [intOf]; omega
                  case rel => exact ⟨i + 1, by go_num, by omega, below_drewN Hbf.out _⟩
                · have hgM := hg
                  rw [← Heq2.out.get] at hgM
                  obtain ⟨x2', hx2⟩ : ∃ x2', L2[j2] = x2' := ⟨_, rfl⟩
                  rw [hx2] at hgM
                  have Hx2 := Lib.hid hx2
                  have hf' : decide ((0 : Int) ≤ (j2 : Int)) = true := decide_eq_true (by omega)
                  have Hf := Lib.hid hf
                  obtain ⟨u1, u2, u3, u4, u5, u6, u7⟩ := x2'
                  have Hu := Lib.hid (show (getH ⟨y2, y3, y4⟩ M2).getD zeroHd = ⟨u1, u2, u3, u4, u5, u6, u7⟩ by rw [hgM]; rfl)
                  have His := Lib.hid (show (getH ⟨y2, y3, y4⟩ M2).isSome = true by rw [hgM]; rfl)
                  clear hg hgM hx2 hf
                  go_wp2_with fail
                  with_reducible refine Calls.mono (key_any _ _ _ _ _ _ _ _) ?_
                  rintro r wa ⟨rfl, hba⟩
                  obtain ⟨wb, hWb, hkb, hBb, hbb⟩ : ∃ wb, wa.alloc (.cells #[.int .i64 y2, .int .i64 y3, .int .i64 y4] 63) = wb ∧ Blk wb wa.heap.size 63 #[.int .i64 y2, .int .i64 y3, .int .i64 y4] ∧ WBun w wb p b q (.slice Aq L2.length cq) M2 L2 ga ⟨kd, some ⟨g2, o2, none⟩, kc, hs⟩ ∧ Below w10.heap.size w10 wb := ⟨_, rfl, Blk.new _ _ _, ((HBx.out.keep ((Below.refl _ _).alloc (Nat.le_refl _) _)).keep hba).keep ((Below.refl _ _).alloc (Nat.le_refl _) _), Hbx.out.trans ((below_two hba _).mono Hbx.out.size)⟩
                  obtain ⟨k0, k1, k2⟩ : _ ∧ _ ∧ _ := ⟨hkb.cell 0, hkb.cell 1, hkb.cell 2⟩
                  simp only [List.getElem?_toArray, List.getElem?_cons_zero, List.getElem?_cons_succ] at k0 k1 k2
                  have Hkb := Lib.hid hkb
                  have HBb := Lib.hid hBb
                  have Hbb := Lib.hid hbb
                  clear hba hkb hBb hbb x0 x1 x2 x3 x4 x5 x6
                  go_wp2_with fail
                  with_reducible refine Calls.mono (WaGet p b M2 y2 y3 y4 _ HBb.out.pr.wa Hu.out His.out) ?_
                  rintro r wd ⟨rfl, hbd⟩
                  unfold aggH Hd.cells
                  obtain ⟨we, hWe, hue, hke, hBe, hbe⟩ : ∃ we, wd.alloc (.cells #[.int .i64 u1, .int .i64 u2, .int .i64 u3, .int .i64 u4, .int .i64 u5, .int .i64 u6, .int .i64 u7] 58) = we ∧ Blk we wd.heap.size 58 #[.int .i64 u1, .int .i64 u2, .int .i64 u3, .int .i64 u4, .int .i64 u5, .int .i64 u6, .int .i64 u7] ∧ Blk we wa.heap.size 63 #[.int .i64 y2, .int .i64 y3, .int .i64 y4] ∧ WBun w we p b q (.slice Aq L2.length cq) M2 L2 ga ⟨kd, some ⟨g2, o2, none⟩, kc, hs⟩ ∧ Below w10.heap.size w10 we := ⟨_, rfl, Blk.new _ _ _, (Hkb.out.below hbd Hkb.out.lt).alloc _, (HBb.out.keep hbd).keep ((Below.refl _ _).alloc (Nat.le_refl _) _), (Hbb.out.trans (hbd.mono Hbb.out.size)).alloc (Nat.le_trans Hbb.out.size hbd.size) _⟩
                  obtain ⟨l0, l1, l2⟩ : _ ∧ _ ∧ _ := ⟨hke.cell 0, hke.cell 1, hke.cell 2⟩
                  simp only [List.getElem?_toArray, List.getElem?_cons_zero, List.getElem?_cons_succ] at l0 l1 l2
                  have Hue := Lib.hid hue
                  have HBe := Lib.hid hBe
                  have Hbe := Lib.hid hbe
                  clear hbd hke hue hBe hbe k0 k1 k2
                  go_wp2_with fail
                  with_reducible refine Calls.mono (rwFind q _ L2 y2 y3 y4 _ HBe.out.pr.rw HnL.out Hf.out) ?_
                  rintro r wf ⟨rfl, hbf⟩
                  have huf := Hue.out.below hbf Hue.out.lt
                  have hBf := HBe.out.keep hbf
                  obtain ⟨a0, a1, a2, a3, a4, a5, a6, -⟩ := huf.both7
                  have cp := hBf.pr.rw.cell
                  obtain ⟨gq, cq', hvq', r0, r1, r2, r3, r4, r5, r6⟩ := hBf.pr.rw.row j2 hj2
                  rw [Hx2.out] at r0 r1 r2 r3 r4 r5 r6
                  injection hvq' with hAq hnq hcq
                  subst hAq hcq
                  simp only at r0 r1 r2 r3 r4 r5 r6
                  have hjl2 : (j2 : Int) < (L2.length : Int) := by omega
                  have Hbf := Lib.hid (Hbe.out.trans (hbf.mono Hbe.out.size))
                  clear huf hBf hbf l0 l1 l2 hnq
                  go_wp2
                  go_quiet (fail)
                  go_wp2
                  go_roundw
                  case measure => simp [intOf]; omega
                  case rel => exact ⟨i + 1, by go_num, by omega, below_drewN Hbf.out _⟩
              · have hil : i = hs.length := by omega
                subst hil
                have HBx := Lib.hid hBx
                clear hBx hbx z0 z1
                go_wp2
                go_roundw
                case measure => simp [intOf]; omega
                case rel => exact ⟨j + 1, M2, L2, _, by go_num, by omega, HBx.out.pr, Heq2.out, Hage2.out, by have := HLl.out; have := Hl2.out; omega⟩
      · have hjl : j = l.length := by omega
        subst hjl
        have Hbe := Lib.hid hpr.bel
        clear hpr
        go_wp2
        go_ret
        exact ⟨rfl, Hbe.out⟩
  · have h60' : 60 < l.length := by omega
    go_enter Try.func9, Try.ntmps9
    go_wp2_with fail
    with_reducible refine Calls.mono (wakes15 _) ?_
    rintro r w1 ⟨rfl, hb1⟩
    go_wp2
    go_ret
    exact ⟨rfl, hb1⟩

end Go.Proofs.Ytannngcdphafdaa
