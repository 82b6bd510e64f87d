/-
  The law RxmtActs: its walk.
-/
import Derived.Deep.CutRange
import Derived.Deep.DeepCutAuto
import Derived.Deep.CutBlock
import Derived.Outline
import Derived.Test.YtfhikkmgclkcdaaRxActB
namespace Go.Proofs.Ytfhikkmgclkcdaa
open Go.RowKit

theorem wpOp_enterL {P : Program} {ops : Array Oper} {Q : Exit → Act → World → Prop} {i : Nat} {o : Oper} {d : Option Nat} {f : FuncId} {args : Array Value} {a : Act} {w : World} {K : Act → World → Prop} (hi : ops[i]? = some o) (hd : o.dst = d) (hg : Region.wanted o (yielded ops a.tmps) = true)
    (hx : (execOp a.eval o).run P w = .ok (.enter f args) w) (hc : Calls P f args w fun e w'' => ∃ v, e = .returned v ∧ K (a.put d v) w'') : wpOp P ops Q i K a w := by
  subst hd
  exact wpOp_enter hi hg hx hc

structure Kun (w wr : World) (p b q : Nat) (v : Value) (R S : List E5) (gk : Nat) (k : K3) : Prop where
  pr : Pair w wr p b q v R S
  bk : Blk wr gk 61 #[.int .i64 k.kind, .int .i64 k.id, .int .i64 k.adv]
  ord : q < gk
  ng : v.ownBlock ≠ some gk
section
variable {w wr wr' : World} {p b q ga gk : Nat} {v : Value} {R S : List E5} {x : ActV} {k : K3}
theorem Kun.keep (h : Kun w wr p b q v R S gk k) (hb : Below wr.heap.size wr wr') : Kun w wr' p b q v R S gk k := ⟨h.pr.keep hb, h.bk.below hb h.bk.lt, h.ord, h.ng⟩
theorem Kun.kk (h : Kun w wr p b q v R S gk k) : wr.cell? ⟨gk, 0, none⟩ = some (.int .i64 k.kind) ∧ wr.cell? ⟨gk, 1, none⟩ = some (.int .i64 k.id) ∧ wr.cell? ⟨gk, 2, none⟩ = some (.int .i64 k.adv) := ⟨h.bk.cell 0, h.bk.cell 1, h.bk.cell 2⟩
theorem Bun.kun (h : Bun w wr p b q v R S ga gk x k) : Kun w wr p b q v R S gk k := ⟨h.pr, h.bk, h.ord.2, h.ng.2⟩
theorem Kun.bun (h : Kun w wr p b q v R S gk k) (x : ActV) : Bun w (wr.alloc (.cells #[.int .i64 x.kind, .int .i64 x.lan, .int .i64 x.id, .slice x.ka x.keys.length x.kcap] 101)) p b q v R S wr.heap.size gk x k := by
  have h1 := h.keep ((Below.refl _ _).alloc (Nat.le_refl _) (.cells #[.int .i64 x.kind, .int .i64 x.lan, .int .i64 x.id, .slice x.ka x.keys.length x.kcap] 101))
  exact ⟨h1.pr, Blk.new _ _ _, h1.bk, ⟨h.pr.rf.ptr.lt, h.ord⟩, fun e => by have := (h.pr.rf.own.block _ e).2; omega, h.ng⟩
end

set_option maxHeartbeats 8000000 in
set_option maxRecDepth 100000 in
theorem rxmtActs_any (A : Option Addr) (cap : Nat) (l : List ActV) (w : World) (hl : ActsAt w w.heap.size A l) (hm : l.length ≤ maxLen) :
    Calls Try.prog 13 #[.slice A l.length cap] w fun r w' => r = .returned (.bool true) ∧ Below w.heap.size w w' := by
  unfold maxLen at hm
  have Hl := Lib.hid hl
  clear hl
  by_cases h60 : l.length ≤ 60
  · have h60b : decide ((60 : Int) < (l.length : Int)) = false := by simp; omega
    go_enter Try.func13, Try.ntmps13
    go_wp2_with fail
    with_reducible refine Calls.mono (wakes16 _) ?_
    rintro r w1 ⟨rfl, hb1⟩
    have Hb1 := Lib.hid hb1
    clear hb1
    go_wp2_with fail
    with_reducible refine Calls.mono (New16 w1) ?_
    rintro r w2 ⟨rfl, hR2, hb2⟩
    obtain ⟨p, hp⟩ : ∃ p, w1.heap.size + 1 = p := ⟨_, rfl⟩
    rw [hp] at hR2 ⊢
    obtain ⟨b, hb⟩ : ∃ b, w1.heap.size = b := ⟨_, rfl⟩
    rw [hb] at hR2
    obtain ⟨q, hq⟩ : ∃ q, w2.heap.size = q := ⟨_, rfl⟩
    have HP0 := Lib.hid (show Pair w (w2.alloc (.cells #[.slice none 0 0] 99)) p b q (.slice none 0 0) [] [] from
      ⟨hR2.alloc _, ⟨by rw [← hq]; exact Blk.new _ _ _, OwnR.nil _ _⟩, (Hb1.out.trans (hb2.mono Hb1.out.size)).alloc (by have := Hb1.out.size; have := hb2.size; omega) _, by have := Hb1.out.size; have := hR2.ptr.lt; omega⟩)
    clear hR2 hb2 hp hb
    go_wp2
    go_loopw [21] (fun i wr => ∃ (k : Nat) (R : List E5) (v : Value), i = .int .i64 k ∧ k ≤ l.length ∧ Pair w wr p b q v R R ∧ R.length ≤ 30 * k) (fun i _ => l.length - (intOf i).toNat)
    case atStart => exact ⟨0, [], _, rfl, Nat.zero_le _, HP0.out, by simp⟩
    case round =>
      obtain ⟨j, R, v, rfl, hj, hpr, hRl⟩ := hrel
      have Hpr := Lib.hid hpr
      have HRl := Lib.hid hRl
      clear hRl hq HP0
      by_cases hlt : j < l.length
      · obtain ⟨g, o, hA, z0, z1, z2, z3⟩ := row_act (Hl.out.rows.below hpr.bel) j hlt
        have hx := Hl.out.each l[j] (List.getElem_mem hlt)
        have hjl : (j : Int) < (l.length : Int) := by omega
        obtain ⟨ga, hga⟩ : ∃ ga, wr.heap.size = ga := ⟨_, rfl⟩
        have Hga := Lib.hid hga
        generalize l[j] = x at *
        obtain ⟨kd, la, id, ka, kc, ks⟩ := x
        simp only at z0 z1 z2 z3 hx
        have Hks := Lib.hid hx.1
        have HA := Lib.hid hA
        rw [hA]
        clear hx hpr hA
        by_cases h30 : 30 < ks.length
        · have Hbe := Lib.hid (Hpr.out.bel.alloc Hpr.out.bel.size (.cells #[.int .i64 kd, .int .i64 la, .int .i64 id, .slice ka ks.length kc] 101))
          go_wp2
          go_ret
          exact ⟨rfl, Hbe.out⟩
        · have Hn1 := Lib.hid (show R.length + ks.length ≤ 2 ^ 20 by have := HRl.out; omega)
          have Hn0 := Lib.hid (show R.length ≤ 2 ^ 20 by have := HRl.out; omega)
          have HB0 := Lib.hid (show ∀ c1 c2 c3 : Int, Bun w ((wr.alloc (.cells #[.int .i64 kd, .int .i64 la, .int .i64 id, .slice ka ks.length kc] 101)).alloc (.cells #[.int .i64 c1, .int .i64 c2, .int .i64 c3] 61)) p b q v R R ga (ga + 1) ⟨kd, la, id, ka, kc, ks⟩ ⟨c1, c2, c3⟩ from fun c1 c2 c3 => by
            have hlq := Hpr.out.rf.ptr.lt
            have hng : ∀ g, v.ownBlock = some g → g < ga := fun g e => by rw [← Hga.out]; exact (Hpr.out.rf.own.block g e).2
            refine ⟨Hpr.out.keep (((Below.refl _ _).alloc (Nat.le_refl _) _).alloc (by simp) _), ?_, ?_, by have := Hga.out; omega, fun e => by have := hng _ e; omega, fun e => by have := hng _ e; omega⟩
            · rw [← Hga.out]; exact (Blk.new _ _ _).alloc _
            · rw [← Hga.out]; exact Blk.size (by simp))
          have H30 := Lib.hid h30
          go_upto_if 32 with fail
          go_cut [21] from 21 to 158 (fun iv wx => iv = .int .i64 j ∧ ∃ c1 c2 c3, Bun w wx p b q v R R ga (ga + 1) ⟨kd, la, id, ka, kc, ks⟩ ⟨c1, c2, c3⟩)
          case first =>
            clear z0 z1 z2 z3
            by_cases h0 : 0 < ks.length
            · obtain ⟨g2, o2, hA2, hlt2, hc2⟩ := (Hks.out.below Hpr.out.bel) h0
              have y0 := cell_new (cell_new (hc2 0 h0 0 _ (by decide) rfl) (.cells #[.int .i64 kd, .int .i64 la, .int .i64 id, .slice ka ks.length kc] 101)) (.cells #[.int .i64 0, .int .i64 0, .int .i64 0] 61)
              have y1 := cell_new (cell_new (hc2 0 h0 1 _ (by decide) rfl) (.cells #[.int .i64 kd, .int .i64 la, .int .i64 id, .slice ka ks.length kc] 101)) (.cells #[.int .i64 0, .int .i64 0, .int .i64 0] 61)
              have y2 := cell_new (cell_new (hc2 0 h0 2 _ (by decide) rfl) (.cells #[.int .i64 kd, .int .i64 la, .int .i64 id, .slice ka ks.length kc] 101)) (.cells #[.int .i64 0, .int .i64 0, .int .i64 0] 61)
              generalize ks[0] = c at y0 y1 y2
              obtain ⟨c1, c2, c3⟩ := c
              simp only [Nat.zero_mul, Nat.add_zero] at y0 y1 y2
              subst hA2
              clear hc2
              go_wp2_with fail
              go_meet
              case rel => exact ⟨rfl, c1, c2, c3, HB0.out c1 c2 c3⟩
            · go_wp2_with fail
              go_meet
              case rel => exact ⟨rfl, 0, 0, 0, HB0.out 0 0 0⟩
          case rest =>
            obtain ⟨rfl, c1, c2, c3, hB⟩ := hcut
            have z9 := hB.ba.cell 0
            simp only [List.getElem?_toArray, List.getElem?_cons_zero] at z9
            have HB := Lib.hid hB
            have Hnd := Lib.hid hB.pr.rx.nodup
            have HBd := Lib.hid (show ∀ wd : World, wd = wc.drew → Bun w wd p b q v R R ga (ga + 1) ⟨kd, la, id, ka, kc, ks⟩ ⟨c1, c2, c3⟩ from by rintro _ rfl; exact hB.keep (Below.refl _ _).drew)
            clear hB z0 z1 z2 z3 HB0 hga
            go_upto_block 2 with fail
            go_cut [21] from 21 to 158 (fun iv wx => iv = .int .i64 j ∧ ∃ R2 v2, Kun w wx p b q v2 R2 R2 (ga + 1) ⟨c1, c2, c3⟩ ∧ R2.length ≤ R.length + 30)
            case first =>
              by_cases h0 : kd = 0
              · subst h0
                go_wp2
                refine wp_region_F (F := fun W => (W.cell? ⟨ga, 1, none⟩ = some (.int .i64 la) ∧ W.cell? ⟨ga, 2, none⟩ = some (.int .i64 id) ∧ W.cell? ⟨ga, 3, none⟩ = some (.slice ka ks.length kc)) ∧ W.cell? ⟨ga + 1, 0, none⟩ = some (.int .i64 c1) ∧ W.cell? ⟨ga + 1, 1, none⟩ = some (.int .i64 c2) ∧ W.cell? ⟨ga + 1, 2, none⟩ = some (.int .i64 c3)) (n := 16) (m := 17) (s := #[false, false, false, false, false, false, false, false, false, false, false, false, false, false, false, false, false]) (by kernel_rfl) (by kernel_rfl) (by kernel_rfl) ?_
                intro wd hwd
                have hB0 := HBd.out wd hwd.out
                clear hwd
                refine F_take (i := 0) (d := some 41) (by kernel_rfl) (by kernel_rfl) (by decide) (s' := #[true, false, false, false, false, false, false, false, false, false, false, false, false, false, false, false, false]) (by kernel_rfl) rfl rfl (by kernel_rfl) (by kernel_rfl) (by kernel_rfl) (fun _ _ _ h => h) (Or.inl ⟨by kernel_rfl, fun W hW => by obtain ⟨⟨x1, x2, x3⟩, y0, y1, y2⟩ := hW; go_simp; try with_reducible rfl⟩) hB0.ak ?_
                go_frame
                refine F_take (i := 1) (d := some 42) (by kernel_rfl) (by kernel_rfl) (by decide) (s' := #[true, true, false, false, false, false, false, false, false, false, false, false, false, false, false, false, false]) (by kernel_rfl) rfl rfl (by kernel_rfl) (by kernel_rfl) (by kernel_rfl) (fun _ _ _ h => h) (Or.inl ⟨by kernel_rfl, fun W hW => by obtain ⟨⟨x1, x2, x3⟩, y0, y1, y2⟩ := hW; go_simp; try with_reducible rfl⟩) hB0.ak ?_
                go_frame
                refine F_take (i := 2) (d := some 43) (by kernel_rfl) (by kernel_rfl) (by decide) (s' := #[true, true, true, false, false, false, false, false, false, false, false, false, false, false, false, false, false]) (by kernel_rfl) rfl rfl (by kernel_rfl) (by kernel_rfl) (by kernel_rfl) (fun _ _ _ h => h) (Or.inl ⟨by kernel_rfl, fun W hW => by obtain ⟨⟨x1, x2, x3⟩, y0, y1, y2⟩ := hW; go_simp; try with_reducible rfl⟩) hB0.ak ?_
                go_frame
                refine F_take (i := 3) (d := some 44) (by kernel_rfl) (by kernel_rfl) (by decide) (s' := #[true, true, true, true, false, false, false, false, false, false, false, false, false, false, false, false, false]) (by kernel_rfl) rfl rfl (by kernel_rfl) (by kernel_rfl) (by kernel_rfl) (fun _ _ _ h => h) (Or.inl ⟨by kernel_rfl, fun W hW => by obtain ⟨⟨x1, x2, x3⟩, y0, y1, y2⟩ := hW; go_simp; try with_reducible rfl⟩) hB0.ak ?_
                go_frame
                refine F_take (i := 4) (d := some 45) (by kernel_rfl) (by kernel_rfl) (by decide) (s' := #[true, true, true, true, true, false, false, false, false, false, false, false, false, false, false, false, false]) (by kernel_rfl) rfl rfl (by kernel_rfl) (by kernel_rfl) (by kernel_rfl) (fun _ _ _ h => h) (Or.inl ⟨by kernel_rfl, fun W hW => by obtain ⟨⟨x1, x2, x3⟩, y0, y1, y2⟩ := hW; go_simp; try with_reducible rfl⟩) hB0.ak ?_
                go_frame
                refine F_take (i := 5) (d := some 46) (by kernel_rfl) (by kernel_rfl) (by decide) (s' := #[true, true, true, true, true, true, false, false, false, false, false, false, false, false, false, false, false]) (by kernel_rfl) rfl rfl (by kernel_rfl) (by kernel_rfl) (by kernel_rfl) (fun _ _ _ h => h) (Or.inl ⟨by kernel_rfl, fun W hW => by obtain ⟨⟨x1, x2, x3⟩, y0, y1, y2⟩ := hW; go_simp; try with_reducible rfl⟩) hB0.ak ?_
                go_frame
                refine F_take (i := 6) (d := some 47) (by kernel_rfl) (by kernel_rfl) (by decide) (s' := #[true, true, true, true, true, true, true, false, false, false, false, false, false, false, false, false, false]) (by kernel_rfl) rfl rfl (by kernel_rfl) (by kernel_rfl) (by kernel_rfl) (fun _ _ _ h => h) (Or.inl ⟨by kernel_rfl, fun W hW => by obtain ⟨⟨x1, x2, x3⟩, y0, y1, y2⟩ := hW; go_simp; try with_reducible rfl⟩) hB0.ak ?_
                go_frame
                refine F_take (i := 8) (d := some 49) (by kernel_rfl) (by kernel_rfl) (by decide) (s' := #[true, true, true, true, true, true, true, false, true, false, false, false, false, false, false, false, false]) (by kernel_rfl) rfl rfl (by kernel_rfl) (by kernel_rfl) (by kernel_rfl) (fun _ _ _ h => h) (Or.inl ⟨by kernel_rfl, fun W hW => by obtain ⟨⟨x1, x2, x3⟩, y0, y1, y2⟩ := hW; go_simp; try with_reducible rfl⟩) hB0.ak ?_
                go_frame
                refine F_take (i := 9) (d := some 50) (by kernel_rfl) (by kernel_rfl) (by decide) (s' := #[true, true, true, true, true, true, true, false, true, true, false, false, false, false, false, false, false]) (by kernel_rfl) rfl rfl (by kernel_rfl) (by kernel_rfl) (by kernel_rfl) (fun _ _ _ h => h) (Or.inl ⟨by kernel_rfl, fun W hW => by obtain ⟨⟨x1, x2, x3⟩, y0, y1, y2⟩ := hW; go_simp; try with_reducible rfl⟩) hB0.ak ?_
                go_frame
                refine F_take (i := 10) (d := some 51) (by kernel_rfl) (by kernel_rfl) (by decide) (s' := #[true, true, true, true, true, true, true, false, true, true, true, false, false, false, false, false, false]) (by kernel_rfl) rfl rfl (by kernel_rfl) (by kernel_rfl) (by kernel_rfl) (fun _ _ _ h => h) (Or.inl ⟨by kernel_rfl, fun W hW => by obtain ⟨⟨x1, x2, x3⟩, y0, y1, y2⟩ := hW; go_simp; try with_reducible rfl⟩) hB0.ak ?_
                go_frame
                refine F_take (i := 11) (d := some 52) (by kernel_rfl) (by kernel_rfl) (by decide) (s' := #[true, true, true, true, true, true, true, false, true, true, true, true, false, false, false, false, false]) (by kernel_rfl) rfl rfl (by kernel_rfl) (by kernel_rfl) (by kernel_rfl) (fun _ _ _ h => h) (Or.inl ⟨by kernel_rfl, fun W hW => by obtain ⟨⟨x1, x2, x3⟩, y0, y1, y2⟩ := hW; go_simp; try with_reducible rfl⟩) hB0.ak ?_
                go_frame
                refine F_take (i := 12) (d := some 53) (by kernel_rfl) (by kernel_rfl) (by decide) (s' := #[true, true, true, true, true, true, true, false, true, true, true, true, true, false, false, false, false]) (by kernel_rfl) rfl rfl (by kernel_rfl) (by kernel_rfl) (by kernel_rfl) (fun _ _ _ h => h) (Or.inl ⟨by kernel_rfl, fun W hW => by obtain ⟨⟨x1, x2, x3⟩, y0, y1, y2⟩ := hW; go_simp; try with_reducible rfl⟩) hB0.ak ?_
                go_frame
                refine F_take (i := 13) (d := some 54) (by kernel_rfl) (by kernel_rfl) (by decide) (s' := #[true, true, true, true, true, true, true, false, true, true, true, true, true, true, false, false, false]) (by kernel_rfl) rfl rfl (by kernel_rfl) (by kernel_rfl) (by kernel_rfl) (fun _ _ _ h => h) (Or.inl ⟨by kernel_rfl, fun W hW => by obtain ⟨⟨x1, x2, x3⟩, y0, y1, y2⟩ := hW; go_simp; try with_reducible rfl⟩) hB0.ak ?_
                go_frame
                refine F_take (i := 14) (d := some 55) (by kernel_rfl) (by kernel_rfl) (by decide) (s' := #[true, true, true, true, true, true, true, false, true, true, true, true, true, true, true, false, false]) (by kernel_rfl) rfl rfl (by kernel_rfl) (by kernel_rfl) (by kernel_rfl) (fun _ _ _ h => h) (Or.inl ⟨by kernel_rfl, fun W hW => by obtain ⟨⟨x1, x2, x3⟩, y0, y1, y2⟩ := hW; go_simp; try with_reducible rfl⟩) hB0.ak ?_
                go_frame
                refine F_one (i := 7) (s' := #[true, true, true, true, true, true, true, true, true, true, true, true, true, true, true, false, false]) (by kernel_rfl) (by kernel_rfl) (wpOp_enterL (i := 7) (d := some 48) (f := 43) (args := #[.pointer (some ⟨p, 0, none⟩), .int .i64 la, .int .i64 id, .slice ka ks.length kc]) rfl rfl (by kernel_rfl) (by go_simp) ((bPut_r hB0 Hks.out (Hn1.out)).mono ?_))
                rintro r w3 ⟨rfl, hB3⟩
                refine ⟨_, rfl, fun _ => hB3.ak, ?_⟩
                go_frame
                refine F_one (i := 15) (s' := #[true, true, true, true, true, true, true, true, true, true, true, true, true, true, true, true, false]) (by kernel_rfl) (by kernel_rfl) (wpOp_enterL (i := 15) (d := some 56) (f := 51) (args := #[.pointer (some ⟨q, 0, none⟩), .int .i64 la, .int .i64 id, .slice ka ks.length kc]) rfl rfl (by kernel_rfl) (by go_simp) ((bPut_x hB3 Hks.out (Hn1.out)).mono ?_))
                rintro r w4 ⟨rfl, u, hB4⟩
                refine ⟨_, rfl, fun _ => hB4.ak, ?_⟩
                go_frame
                refine F_one (i := 16) (s' := #[true, true, true, true, true, true, true, true, true, true, true, true, true, true, true, true, true]) (by kernel_rfl) (by kernel_rfl) (wpOp_valueL (i := 16) (d := some 57) (w' := w4) (v := .bool false) rfl rfl (by kernel_rfl) (by go_simp) ⟨fun h => absurd h (by decide), ?_⟩)
                go_frame
                refine F_done (by kernel_rfl) ?_ _
                have Hend := Lib.hid hB4
                clear hB0 hB3 hB4
                go_wp2_with fail
                go_meet
                case rel => exact ⟨rfl, _, u, Hend.out.kun, by have h1 := addAll_len R la id ks; have := H30.out; omega⟩
              · by_cases h1 : kd = 1
                · subst h1
                  go_wp2
                  refine wp_region_F (F := fun W => (W.cell? ⟨ga, 1, none⟩ = some (.int .i64 la) ∧ W.cell? ⟨ga, 2, none⟩ = some (.int .i64 id) ∧ W.cell? ⟨ga, 3, none⟩ = some (.slice ka ks.length kc)) ∧ W.cell? ⟨ga + 1, 0, none⟩ = some (.int .i64 c1) ∧ W.cell? ⟨ga + 1, 1, none⟩ = some (.int .i64 c2) ∧ W.cell? ⟨ga + 1, 2, none⟩ = some (.int .i64 c3)) (n := 14) (m := 15) (s := #[false, false, false, false, false, false, false, false, false, false, false, false, false, false, false]) (by kernel_rfl) (by kernel_rfl) (by kernel_rfl) ?_
                  intro wd hwd
                  have hB0 := HBd.out wd hwd.out
                  clear hwd
                  refine F_take (i := 0) (d := some 60) (by kernel_rfl) (by kernel_rfl) (by decide) (s' := #[true, false, false, false, false, false, false, false, false, false, false, false, false, false, false]) (by kernel_rfl) rfl rfl (by kernel_rfl) (by kernel_rfl) (by kernel_rfl) (fun _ _ _ h => h) (Or.inl ⟨by kernel_rfl, fun W hW => by obtain ⟨⟨x1, x2, x3⟩, y0, y1, y2⟩ := hW; go_simp; try with_reducible rfl⟩) hB0.ak ?_
                  go_frame
                  refine F_take (i := 1) (d := some 61) (by kernel_rfl) (by kernel_rfl) (by decide) (s' := #[true, true, false, false, false, false, false, false, false, false, false, false, false, false, false]) (by kernel_rfl) rfl rfl (by kernel_rfl) (by kernel_rfl) (by kernel_rfl) (fun _ _ _ h => h) (Or.inl ⟨by kernel_rfl, fun W hW => by obtain ⟨⟨x1, x2, x3⟩, y0, y1, y2⟩ := hW; go_simp; try with_reducible rfl⟩) hB0.ak ?_
                  go_frame
                  refine F_take (i := 2) (d := some 62) (by kernel_rfl) (by kernel_rfl) (by decide) (s' := #[true, true, true, false, false, false, false, false, false, false, false, false, false, false, false]) (by kernel_rfl) rfl rfl (by kernel_rfl) (by kernel_rfl) (by kernel_rfl) (fun _ _ _ h => h) (Or.inl ⟨by kernel_rfl, fun W hW => by obtain ⟨⟨x1, x2, x3⟩, y0, y1, y2⟩ := hW; go_simp; try with_reducible rfl⟩) hB0.ak ?_
                  go_frame
                  refine F_take (i := 3) (d := some 63) (by kernel_rfl) (by kernel_rfl) (by decide) (s' := #[true, true, true, true, false, false, false, false, false, false, false, false, false, false, false]) (by kernel_rfl) rfl rfl (by kernel_rfl) (by kernel_rfl) (by kernel_rfl) (fun _ _ _ h => h) (Or.inl ⟨by kernel_rfl, fun W hW => by obtain ⟨⟨x1, x2, x3⟩, y0, y1, y2⟩ := hW; go_simp; try with_reducible rfl⟩) hB0.ak ?_
                  go_frame
                  refine F_take (i := 4) (d := some 64) (by kernel_rfl) (by kernel_rfl) (by decide) (s' := #[true, true, true, true, true, false, false, false, false, false, false, false, false, false, false]) (by kernel_rfl) rfl rfl (by kernel_rfl) (by kernel_rfl) (by kernel_rfl) (fun _ _ _ h => h) (Or.inl ⟨by kernel_rfl, fun W hW => by obtain ⟨⟨x1, x2, x3⟩, y0, y1, y2⟩ := hW; go_simp; try with_reducible rfl⟩) hB0.ak ?_
                  go_frame
                  refine F_take (i := 5) (d := some 65) (by kernel_rfl) (by kernel_rfl) (by decide) (s' := #[true, true, true, true, true, true, false, false, false, false, false, false, false, false, false]) (by kernel_rfl) rfl rfl (by kernel_rfl) (by kernel_rfl) (by kernel_rfl) (fun _ _ _ h => h) (Or.inl ⟨by kernel_rfl, fun W hW => by obtain ⟨⟨x1, x2, x3⟩, y0, y1, y2⟩ := hW; go_simp; try with_reducible rfl⟩) hB0.ak ?_
                  go_frame
                  refine F_take (i := 7) (d := some 67) (by kernel_rfl) (by kernel_rfl) (by decide) (s' := #[true, true, true, true, true, true, false, true, false, false, false, false, false, false, false]) (by kernel_rfl) rfl rfl (by kernel_rfl) (by kernel_rfl) (by kernel_rfl) (fun _ _ _ h => h) (Or.inl ⟨by kernel_rfl, fun W hW => by obtain ⟨⟨x1, x2, x3⟩, y0, y1, y2⟩ := hW; go_simp; try with_reducible rfl⟩) hB0.ak ?_
                  go_frame
                  refine F_take (i := 8) (d := some 68) (by kernel_rfl) (by kernel_rfl) (by decide) (s' := #[true, true, true, true, true, true, false, true, true, false, false, false, false, false, false]) (by kernel_rfl) rfl rfl (by kernel_rfl) (by kernel_rfl) (by kernel_rfl) (fun _ _ _ h => h) (Or.inl ⟨by kernel_rfl, fun W hW => by obtain ⟨⟨x1, x2, x3⟩, y0, y1, y2⟩ := hW; go_simp; try with_reducible rfl⟩) hB0.ak ?_
                  go_frame
                  refine F_take (i := 9) (d := some 69) (by kernel_rfl) (by kernel_rfl) (by decide) (s' := #[true, true, true, true, true, true, false, true, true, true, false, false, false, false, false]) (by kernel_rfl) rfl rfl (by kernel_rfl) (by kernel_rfl) (by kernel_rfl) (fun _ _ _ h => h) (Or.inl ⟨by kernel_rfl, fun W hW => by obtain ⟨⟨x1, x2, x3⟩, y0, y1, y2⟩ := hW; go_simp; try with_reducible rfl⟩) hB0.ak ?_
                  go_frame
                  refine F_take (i := 10) (d := some 70) (by kernel_rfl) (by kernel_rfl) (by decide) (s' := #[true, true, true, true, true, true, false, true, true, true, true, false, false, false, false]) (by kernel_rfl) rfl rfl (by kernel_rfl) (by kernel_rfl) (by kernel_rfl) (fun _ _ _ h => h) (Or.inl ⟨by kernel_rfl, fun W hW => by obtain ⟨⟨x1, x2, x3⟩, y0, y1, y2⟩ := hW; go_simp; try with_reducible rfl⟩) hB0.ak ?_
                  go_frame
                  refine F_take (i := 11) (d := some 71) (by kernel_rfl) (by kernel_rfl) (by decide) (s' := #[true, true, true, true, true, true, false, true, true, true, true, true, false, false, false]) (by kernel_rfl) rfl rfl (by kernel_rfl) (by kernel_rfl) (by kernel_rfl) (fun _ _ _ h => h) (Or.inl ⟨by kernel_rfl, fun W hW => by obtain ⟨⟨x1, x2, x3⟩, y0, y1, y2⟩ := hW; go_simp; try with_reducible rfl⟩) hB0.ak ?_
                  go_frame
                  refine F_take (i := 12) (d := some 72) (by kernel_rfl) (by kernel_rfl) (by decide) (s' := #[true, true, true, true, true, true, false, true, true, true, true, true, true, false, false]) (by kernel_rfl) rfl rfl (by kernel_rfl) (by kernel_rfl) (by kernel_rfl) (fun _ _ _ h => h) (Or.inl ⟨by kernel_rfl, fun W hW => by obtain ⟨⟨x1, x2, x3⟩, y0, y1, y2⟩ := hW; go_simp; try with_reducible rfl⟩) hB0.ak ?_
                  go_frame
                  refine F_one (i := 6) (s' := #[true, true, true, true, true, true, true, true, true, true, true, true, true, false, false]) (by kernel_rfl) (by kernel_rfl) (wpOp_enterL (i := 6) (d := some 66) (f := 45) (args := #[.pointer (some ⟨p, 0, none⟩), .int .i64 la, .int .i64 id, .agg #[.int .i64 c1, .int .i64 c2, .int .i64 c3]]) rfl rfl (by kernel_rfl) (by go_simp) ((bAck_r hB0).mono ?_))
                  rintro r w3 ⟨rfl, hB3⟩
                  refine ⟨_, rfl, fun _ => hB3.ak, ?_⟩
                  go_frame
                  refine F_one (i := 13) (s' := #[true, true, true, true, true, true, true, true, true, true, true, true, true, true, false]) (by kernel_rfl) (by kernel_rfl) (wpOp_enterL (i := 13) (d := some 73) (f := 52) (args := #[.pointer (some ⟨q, 0, none⟩), .int .i64 la, .int .i64 id, .agg #[.int .i64 c1, .int .i64 c2, .int .i64 c3]]) rfl rfl (by kernel_rfl) (by go_simp) ((bAck_x hB3 Hnd.out Hn0.out).mono ?_))
                  rintro r w4 ⟨rfl, u, hB4⟩
                  refine ⟨_, rfl, fun _ => hB4.ak, ?_⟩
                  go_frame
                  refine F_one (i := 14) (s' := #[true, true, true, true, true, true, true, true, true, true, true, true, true, true, true]) (by kernel_rfl) (by kernel_rfl) (wpOp_valueL (i := 14) (d := some 74) (w' := w4) (v := .bool false) rfl rfl (by kernel_rfl) (by go_simp) ⟨fun h => absurd h (by decide), ?_⟩)
                  go_frame
                  refine F_done (by kernel_rfl) ?_ _
                  have Hend := Lib.hid hB4
                  clear hB0 hB3 hB4
                  go_wp2_with fail
                  go_meet
                  case rel => exact ⟨rfl, _, u, Hend.out.kun, Nat.le_trans (List.length_filter_le _ _) (Nat.le_add_right _ _)⟩
                · by_cases h2 : kd = 2
                  · subst h2
                    go_wp2
                    refine wp_region_F (F := fun W => (W.cell? ⟨ga, 1, none⟩ = some (.int .i64 la) ∧ W.cell? ⟨ga, 2, none⟩ = some (.int .i64 id) ∧ W.cell? ⟨ga, 3, none⟩ = some (.slice ka ks.length kc)) ∧ W.cell? ⟨ga + 1, 0, none⟩ = some (.int .i64 c1) ∧ W.cell? ⟨ga + 1, 1, none⟩ = some (.int .i64 c2) ∧ W.cell? ⟨ga + 1, 2, none⟩ = some (.int .i64 c3)) (n := 12) (m := 13) (s := #[false, false, false, false, false, false, false, false, false, false, false, false, false]) (by kernel_rfl) (by kernel_rfl) (by kernel_rfl) ?_
                    intro wd hwd
                    have hB0 := HBd.out wd hwd.out
                    clear hwd
                    refine F_take (i := 0) (d := some 77) (by kernel_rfl) (by kernel_rfl) (by decide) (s' := #[true, false, false, false, false, false, false, false, false, false, false, false, false]) (by kernel_rfl) rfl rfl (by kernel_rfl) (by kernel_rfl) (by kernel_rfl) (fun _ _ _ h => h) (Or.inl ⟨by kernel_rfl, fun W hW => by obtain ⟨⟨x1, x2, x3⟩, y0, y1, y2⟩ := hW; go_simp; try with_reducible rfl⟩) hB0.ak ?_
                    go_frame
                    refine F_take (i := 1) (d := some 78) (by kernel_rfl) (by kernel_rfl) (by decide) (s' := #[true, true, false, false, false, false, false, false, false, false, false, false, false]) (by kernel_rfl) rfl rfl (by kernel_rfl) (by kernel_rfl) (by kernel_rfl) (fun _ _ _ h => h) (Or.inl ⟨by kernel_rfl, fun W hW => by obtain ⟨⟨x1, x2, x3⟩, y0, y1, y2⟩ := hW; go_simp; try with_reducible rfl⟩) hB0.ak ?_
                    go_frame
                    refine F_take (i := 2) (d := some 79) (by kernel_rfl) (by kernel_rfl) (by decide) (s' := #[true, true, true, false, false, false, false, false, false, false, false, false, false]) (by kernel_rfl) rfl rfl (by kernel_rfl) (by kernel_rfl) (by kernel_rfl) (fun _ _ _ h => h) (Or.inl ⟨by kernel_rfl, fun W hW => by obtain ⟨⟨x1, x2, x3⟩, y0, y1, y2⟩ := hW; go_simp; try with_reducible rfl⟩) hB0.ak ?_
                    go_frame
                    refine F_take (i := 3) (d := some 80) (by kernel_rfl) (by kernel_rfl) (by decide) (s' := #[true, true, true, true, false, false, false, false, false, false, false, false, false]) (by kernel_rfl) rfl rfl (by kernel_rfl) (by kernel_rfl) (by kernel_rfl) (fun _ _ _ h => h) (Or.inl ⟨by kernel_rfl, fun W hW => by obtain ⟨⟨x1, x2, x3⟩, y0, y1, y2⟩ := hW; go_simp; try with_reducible rfl⟩) hB0.ak ?_
                    go_frame
                    refine F_take (i := 4) (d := some 81) (by kernel_rfl) (by kernel_rfl) (by decide) (s' := #[true, true, true, true, true, false, false, false, false, false, false, false, false]) (by kernel_rfl) rfl rfl (by kernel_rfl) (by kernel_rfl) (by kernel_rfl) (fun _ _ _ h => h) (Or.inl ⟨by kernel_rfl, fun W hW => by obtain ⟨⟨x1, x2, x3⟩, y0, y1, y2⟩ := hW; go_simp; try with_reducible rfl⟩) hB0.ak ?_
                    go_frame
                    refine F_take (i := 6) (d := some 83) (by kernel_rfl) (by kernel_rfl) (by decide) (s' := #[true, true, true, true, true, false, true, false, false, false, false, false, false]) (by kernel_rfl) rfl rfl (by kernel_rfl) (by kernel_rfl) (by kernel_rfl) (fun _ _ _ h => h) (Or.inl ⟨by kernel_rfl, fun W hW => by obtain ⟨⟨x1, x2, x3⟩, y0, y1, y2⟩ := hW; go_simp; try with_reducible rfl⟩) hB0.ak ?_
                    go_frame
                    refine F_take (i := 7) (d := some 84) (by kernel_rfl) (by kernel_rfl) (by decide) (s' := #[true, true, true, true, true, false, true, true, false, false, false, false, false]) (by kernel_rfl) rfl rfl (by kernel_rfl) (by kernel_rfl) (by kernel_rfl) (fun _ _ _ h => h) (Or.inl ⟨by kernel_rfl, fun W hW => by obtain ⟨⟨x1, x2, x3⟩, y0, y1, y2⟩ := hW; go_simp; try with_reducible rfl⟩) hB0.ak ?_
                    go_frame
                    refine F_take (i := 8) (d := some 85) (by kernel_rfl) (by kernel_rfl) (by decide) (s' := #[true, true, true, true, true, false, true, true, true, false, false, false, false]) (by kernel_rfl) rfl rfl (by kernel_rfl) (by kernel_rfl) (by kernel_rfl) (fun _ _ _ h => h) (Or.inl ⟨by kernel_rfl, fun W hW => by obtain ⟨⟨x1, x2, x3⟩, y0, y1, y2⟩ := hW; go_simp; try with_reducible rfl⟩) hB0.ak ?_
                    go_frame
                    refine F_take (i := 9) (d := some 86) (by kernel_rfl) (by kernel_rfl) (by decide) (s' := #[true, true, true, true, true, false, true, true, true, true, false, false, false]) (by kernel_rfl) rfl rfl (by kernel_rfl) (by kernel_rfl) (by kernel_rfl) (fun _ _ _ h => h) (Or.inl ⟨by kernel_rfl, fun W hW => by obtain ⟨⟨x1, x2, x3⟩, y0, y1, y2⟩ := hW; go_simp; try with_reducible rfl⟩) hB0.ak ?_
                    go_frame
                    refine F_take (i := 10) (d := some 87) (by kernel_rfl) (by kernel_rfl) (by decide) (s' := #[true, true, true, true, true, false, true, true, true, true, true, false, false]) (by kernel_rfl) rfl rfl (by kernel_rfl) (by kernel_rfl) (by kernel_rfl) (fun _ _ _ h => h) (Or.inl ⟨by kernel_rfl, fun W hW => by obtain ⟨⟨x1, x2, x3⟩, y0, y1, y2⟩ := hW; go_simp; try with_reducible rfl⟩) hB0.ak ?_
                    go_frame
                    refine F_one (i := 5) (s' := #[true, true, true, true, true, true, true, true, true, true, true, false, false]) (by kernel_rfl) (by kernel_rfl) (wpOp_enterL (i := 5) (d := some 82) (f := 49) (args := #[.pointer (some ⟨p, 0, none⟩), .int .i64 la, .int .i64 id]) rfl rfl (by kernel_rfl) (by go_simp) ((bForget_r hB0 Hn0.out).mono ?_))
                    rintro r w3 ⟨rfl, hB3⟩
                    refine ⟨_, rfl, fun _ => hB3.ak, ?_⟩
                    go_frame
                    refine F_one (i := 11) (s' := #[true, true, true, true, true, true, true, true, true, true, true, true, false]) (by kernel_rfl) (by kernel_rfl) (wpOp_enterL (i := 11) (d := some 88) (f := 53) (args := #[.pointer (some ⟨q, 0, none⟩), .int .i64 la, .int .i64 id]) rfl rfl (by kernel_rfl) (by go_simp) ((bForget_x hB3 Hn0.out).mono ?_))
                    rintro r w4 ⟨rfl, u, hB4⟩
                    refine ⟨_, rfl, fun _ => hB4.ak, ?_⟩
                    go_frame
                    refine F_one (i := 12) (s' := #[true, true, true, true, true, true, true, true, true, true, true, true, true]) (by kernel_rfl) (by kernel_rfl) (wpOp_valueL (i := 12) (d := some 89) (w' := w4) (v := .bool false) rfl rfl (by kernel_rfl) (by go_simp) ⟨fun h => absurd h (by decide), ?_⟩)
                    go_frame
                    refine F_done (by kernel_rfl) ?_ _
                    have Hend := Lib.hid hB4
                    clear hB0 hB3 hB4
                    go_wp2_with fail
                    go_meet
                    case rel => exact ⟨rfl, _, u, Hend.out.kun, Nat.le_trans (List.length_filter_le _ _) (Nat.le_add_right _ _)⟩
                  · by_cases h3 : kd = 3
                    · subst h3
                      go_wp2
                      refine wp_region_F (F := fun W => (W.cell? ⟨ga, 1, none⟩ = some (.int .i64 la) ∧ W.cell? ⟨ga, 2, none⟩ = some (.int .i64 id) ∧ W.cell? ⟨ga, 3, none⟩ = some (.slice ka ks.length kc)) ∧ W.cell? ⟨ga + 1, 0, none⟩ = some (.int .i64 c1) ∧ W.cell? ⟨ga + 1, 1, none⟩ = some (.int .i64 c2) ∧ W.cell? ⟨ga + 1, 2, none⟩ = some (.int .i64 c3)) (n := 6) (m := 7) (s := #[false, false, false, false, false, false, false]) (by kernel_rfl) (by kernel_rfl) (by kernel_rfl) ?_
                      intro wd hwd
                      have hB0 := HBd.out wd hwd.out
                      clear hwd
                      refine F_take (i := 0) (d := some 92) (by kernel_rfl) (by kernel_rfl) (by decide) (s' := #[true, false, false, false, false, false, false]) (by kernel_rfl) rfl rfl (by kernel_rfl) (by kernel_rfl) (by kernel_rfl) (fun _ _ _ h => h) (Or.inl ⟨by kernel_rfl, fun W hW => by obtain ⟨⟨x1, x2, x3⟩, y0, y1, y2⟩ := hW; go_simp; try with_reducible rfl⟩) hB0.ak ?_
                      go_frame
                      refine F_take (i := 1) (d := some 93) (by kernel_rfl) (by kernel_rfl) (by decide) (s' := #[true, true, false, false, false, false, false]) (by kernel_rfl) rfl rfl (by kernel_rfl) (by kernel_rfl) (by kernel_rfl) (fun _ _ _ h => h) (Or.inl ⟨by kernel_rfl, fun W hW => by obtain ⟨⟨x1, x2, x3⟩, y0, y1, y2⟩ := hW; go_simp; try with_reducible rfl⟩) hB0.ak ?_
                      go_frame
                      refine F_take (i := 3) (d := some 95) (by kernel_rfl) (by kernel_rfl) (by decide) (s' := #[true, true, false, true, false, false, false]) (by kernel_rfl) rfl rfl (by kernel_rfl) (by kernel_rfl) (by kernel_rfl) (fun _ _ _ h => h) (Or.inl ⟨by kernel_rfl, fun W hW => by obtain ⟨⟨x1, x2, x3⟩, y0, y1, y2⟩ := hW; go_simp; try with_reducible rfl⟩) hB0.ak ?_
                      go_frame
                      refine F_take (i := 4) (d := some 96) (by kernel_rfl) (by kernel_rfl) (by decide) (s' := #[true, true, false, true, true, false, false]) (by kernel_rfl) rfl rfl (by kernel_rfl) (by kernel_rfl) (by kernel_rfl) (fun _ _ _ h => h) (Or.inl ⟨by kernel_rfl, fun W hW => by obtain ⟨⟨x1, x2, x3⟩, y0, y1, y2⟩ := hW; go_simp; try with_reducible rfl⟩) hB0.ak ?_
                      go_frame
                      refine F_one (i := 2) (s' := #[true, true, true, true, true, false, false]) (by kernel_rfl) (by kernel_rfl) (wpOp_enterL (i := 2) (d := some 94) (f := 50) (args := #[.pointer (some ⟨p, 0, none⟩), .agg #[.int .i64 c1, .int .i64 c2, .int .i64 c3]]) rfl rfl (by kernel_rfl) (by go_simp) ((bDrop_r hB0 Hn0.out).mono ?_))
                      rintro r w3 ⟨rfl, hB3⟩
                      refine ⟨_, rfl, fun _ => hB3.ak, ?_⟩
                      go_frame
                      refine F_one (i := 5) (s' := #[true, true, true, true, true, true, false]) (by kernel_rfl) (by kernel_rfl) (wpOp_enterL (i := 5) (d := some 97) (f := 54) (args := #[.pointer (some ⟨q, 0, none⟩), .agg #[.int .i64 c1, .int .i64 c2, .int .i64 c3]]) rfl rfl (by kernel_rfl) (by go_simp) ((bDrop_x hB3 Hn0.out).mono ?_))
                      rintro r w4 ⟨rfl, u, hB4⟩
                      refine ⟨_, rfl, fun _ => hB4.ak, ?_⟩
                      go_frame
                      refine F_one (i := 6) (s' := #[true, true, true, true, true, true, true]) (by kernel_rfl) (by kernel_rfl) (wpOp_valueL (i := 6) (d := some 98) (w' := w4) (v := .bool false) rfl rfl (by kernel_rfl) (by go_simp) ⟨fun h => absurd h (by decide), ?_⟩)
                      go_frame
                      refine F_done (by kernel_rfl) ?_ _
                      have Hend := Lib.hid hB4
                      clear hB0 hB3 hB4
                      go_wp2_with fail
                      go_meet
                      case rel => exact ⟨rfl, _, u, Hend.out.kun, Nat.le_trans (List.length_filter_le _ _) (Nat.le_add_right _ _)⟩
                    · go_wp2_with fail
                      go_meet
                      case rel => exact ⟨rfl, R, v, HB.out.kun, Nat.le_add_right _ _⟩
            case rest =>
              obtain ⟨rfl, R2, v2, hK, hR2⟩ := hcut
              have HK := Lib.hid hK
              have HR2 := Lib.hid hR2
              have Hn := Lib.hid (show R2.length ≤ 2 ^ 20 by have := HRl.out; omega)
              have HL := Lib.hid (Hl.out.below hK.pr.bel)
              clear hK hR2 HBd HB Hnd z9
              go_wp2
              go_loopw [101] (fun iv wx => ∃ i : Nat, iv = .int .i64 i ∧ i ≤ l.length ∧ Below wc.heap.size wc wx) (fun iv _ => l.length - (intOf iv).toNat)
              case atStart => exact ⟨0, rfl, Nat.zero_le _, Below.refl _ _⟩
              case round =>
                obtain ⟨i, rfl, hi, hbx⟩ := hrel
                by_cases hlt2 : i < l.length
                · have hil : (i : Int) < (l.length : Int) := by omega
                  have hKx := HK.out.keep hbx
                  have HLx := HL.out.below (hbx.mono HK.out.pr.bel.size)
                  obtain ⟨g4, o4, hA4, z0, z1, z2, z3⟩ := row_act HLx.rows i hlt2
                  have Hbx := Lib.hid hbx
                  rw [HA.out] at hA4
                  injection hA4 with hA4
                  injection hA4 with e1 e2
                  subst e1 e2
                  generalize l[i] = y at *
                  obtain ⟨kd, la, id, ka, kc, ks⟩ := y
                  simp only at z0 z1 z2 z3
                  obtain ⟨gi, hgi⟩ : ∃ gi, wr.heap.size = gi := ⟨_, rfl⟩
                  have HBx := Lib.hid (hKx.bun ⟨kd, la, id, ka, kc, ks⟩)
                  rw [hgi] at HBx
                  simp only at HBx
                  clear hKx HLx hbx
                  go_wp2_with fail
                  with_reducible refine Calls.mono (refList_any q v2 R2 la id _ HBx.out.pr.rf Hn.out) ?_
                  rintro r w5 ⟨u5, rfl, hown5, hb5⟩
                  obtain ⟨Ai, ci, rfl⟩ := hown5.shape
                  have Hb5 := Lib.hid (Hbx.out.trans (((Below.refl _ _).alloc (Nat.le_refl _) _).trans (hb5.mono (by simp)) |>.mono Hbx.out.size))
                  have HBd := Lib.hid (show ∀ wd : World, wd = w5.drew → Bun w wd p b q v2 R2 R2 gi (ga + 1) ⟨kd, la, id, ka, kc, ks⟩ ⟨c1, c2, c3⟩ ∧ OwnK wd (wr.alloc (.cells #[.int .i64 kd, .int .i64 la, .int .i64 id, .slice ka ks.length kc] 101)).heap.size (.slice Ai (listK R2 la id).length ci) (listK R2 la id) ∧ Below wc.heap.size wc wd from by
                    rintro _ rfl
                    exact ⟨(HBx.out.keep hb5).keep (Below.refl _ _).drew, hown5.below (Below.refl _ _).drew, Hb5.out.drew⟩)
                  have Hnl := Lib.hid (Nat.le_trans (listK_len R2 la id) Hn.out)
                  have Hnt := Lib.hid (show ((listK R2 la id).take 3).length ≤ 2 ^ 20 by rw [List.length_take]; exact Nat.le_trans (Nat.min_le_left _ _) (by decide))
                  obtain ⟨z, hz⟩ : ∃ z, idxI R2 ⟨la, id, ⟨c1, c2, c3⟩⟩ = z := ⟨_, rfl⟩
                  have HonV := Lib.hid (show onB16 R2 ⟨la, id, ⟨c1, c2, c3⟩⟩ = decide (0 ≤ z) by rw [← hz]; exact (idx_on R2 _).1.symm)
                  have Hz := Lib.hid hz
                  clear hb5 hown5 hz z0 z1 z2 z3
                  go_wp2
                  refine wp_region_F (F := fun W => (W.cell? ⟨gi, 1, none⟩ = some (.int .i64 la) ∧ W.cell? ⟨gi, 2, none⟩ = some (.int .i64 id) ∧ W.cell? ⟨gi, 3, none⟩ = some (.slice ka ks.length kc)) ∧ W.cell? ⟨ga + 1, 0, none⟩ = some (.int .i64 c1) ∧ W.cell? ⟨ga + 1, 1, none⟩ = some (.int .i64 c2) ∧ W.cell? ⟨ga + 1, 2, none⟩ = some (.int .i64 c3)) (n := 38) (m := 39) (s := #[false, false, false, false, false, false, false, false, false, false, false, false, false, false, false, false, false, false, false, false, false, false, false, false, false, false, false, false, false, false, false, false, false, false, false, false, false, false, false]) (by kernel_rfl) (by kernel_rfl) (by kernel_rfl) ?_
                  intro wd hwd
                  obtain ⟨hB0, hL0, hbF⟩ := HBd.out wd hwd.out
                  clear hwd
                  refine F_take (i := 0) (d := some 111) (by kernel_rfl) (by kernel_rfl) (by decide) (s' := #[true, false, false, false, false, false, false, false, false, false, false, false, false, false, false, false, false, false, false, false, false, false, false, false, false, false, false, false, false, false, false, false, false, false, false, false, false, false, false]) (by kernel_rfl) rfl rfl (by kernel_rfl) (by kernel_rfl) (by kernel_rfl) (fun _ _ _ h => h) (Or.inl ⟨by kernel_rfl, fun W hW => by obtain ⟨⟨x1, x2, x3⟩, y0, y1, y2⟩ := hW; go_simp; try with_reducible rfl⟩) hB0.ak ?_
                  go_frame
                  refine F_take (i := 1) (d := some 112) (by kernel_rfl) (by kernel_rfl) (by decide) (s' := #[true, true, false, false, false, false, false, false, false, false, false, false, false, false, false, false, false, false, false, false, false, false, false, false, false, false, false, false, false, false, false, false, false, false, false, false, false, false, false]) (by kernel_rfl) rfl rfl (by kernel_rfl) (by kernel_rfl) (by kernel_rfl) (fun _ _ _ h => h) (Or.inl ⟨by kernel_rfl, fun W hW => by obtain ⟨⟨x1, x2, x3⟩, y0, y1, y2⟩ := hW; go_simp; try with_reducible rfl⟩) hB0.ak ?_
                  go_frame
                  refine F_take (i := 2) (d := some 113) (by kernel_rfl) (by kernel_rfl) (by decide) (s' := #[true, true, true, false, false, false, false, false, false, false, false, false, false, false, false, false, false, false, false, false, false, false, false, false, false, false, false, false, false, false, false, false, false, false, false, false, false, false, false]) (by kernel_rfl) rfl rfl (by kernel_rfl) (by kernel_rfl) (by kernel_rfl) (fun _ _ _ h => h) (Or.inl ⟨by kernel_rfl, fun W hW => by obtain ⟨⟨x1, x2, x3⟩, y0, y1, y2⟩ := hW; go_simp; try with_reducible rfl⟩) hB0.ak ?_
                  go_frame
                  refine F_take (i := 3) (d := some 114) (by kernel_rfl) (by kernel_rfl) (by decide) (s' := #[true, true, true, true, false, false, false, false, false, false, false, false, false, false, false, false, false, false, false, false, false, false, false, false, false, false, false, false, false, false, false, false, false, false, false, false, false, false, false]) (by kernel_rfl) rfl rfl (by kernel_rfl) (by kernel_rfl) (by kernel_rfl) (fun _ _ _ h => h) (Or.inl ⟨by kernel_rfl, fun W hW => by obtain ⟨⟨x1, x2, x3⟩, y0, y1, y2⟩ := hW; go_simp; try with_reducible rfl⟩) hB0.ak ?_
                  go_frame
                  refine F_take (i := 4) (d := some 115) (by kernel_rfl) (by kernel_rfl) (by decide) (s' := #[true, true, true, true, true, false, false, false, false, false, false, false, false, false, false, false, false, false, false, false, false, false, false, false, false, false, false, false, false, false, false, false, false, false, false, false, false, false, false]) (by kernel_rfl) rfl rfl (by kernel_rfl) (by kernel_rfl) (by kernel_rfl) (fun _ _ _ h => h) (Or.inl ⟨by kernel_rfl, fun W hW => by obtain ⟨⟨x1, x2, x3⟩, y0, y1, y2⟩ := hW; go_simp; try with_reducible rfl⟩) hB0.ak ?_
                  go_frame
                  refine F_take (i := 6) (d := some 117) (by kernel_rfl) (by kernel_rfl) (by decide) (s' := #[true, true, true, true, true, false, true, false, false, false, false, false, false, false, false, false, false, false, false, false, false, false, false, false, false, false, false, false, false, false, false, false, false, false, false, false, false, false, false]) (by kernel_rfl) rfl rfl (by kernel_rfl) (by kernel_rfl) (by kernel_rfl) (fun _ _ _ h => h) (Or.inl ⟨by kernel_rfl, fun W hW => by obtain ⟨⟨x1, x2, x3⟩, y0, y1, y2⟩ := hW; go_simp; try with_reducible rfl⟩) hB0.ak ?_
                  go_frame
                  refine F_take (i := 7) (d := some 118) (by kernel_rfl) (by kernel_rfl) (by decide) (s' := #[true, true, true, true, true, false, true, true, false, false, false, false, false, false, false, false, false, false, false, false, false, false, false, false, false, false, false, false, false, false, false, false, false, false, false, false, false, false, false]) (by kernel_rfl) rfl rfl (by kernel_rfl) (by kernel_rfl) (by kernel_rfl) (fun _ _ _ h => h) (Or.inl ⟨by kernel_rfl, fun W hW => by obtain ⟨⟨x1, x2, x3⟩, y0, y1, y2⟩ := hW; go_simp; try with_reducible rfl⟩) hB0.ak ?_
                  go_frame
                  refine F_one (i := 5) (s' := #[true, true, true, true, true, true, true, true, false, false, false, false, false, false, false, false, false, false, false, false, false, false, false, false, false, false, false, false, false, false, false, false, false, false, false, false, false, false, false]) (by kernel_rfl) (by kernel_rfl) (wpOp_enterL (i := 5) (d := some 116) (f := 47) (args := #[.pointer (some ⟨p, 0, none⟩), .int .i64 la, .int .i64 id]) rfl rfl (by kernel_rfl) (by go_simp) ((Len_of sortsK p b R2 la id wd hB0.pr.rx Hn.out).mono ?_))
                  rintro r w1 ⟨rfl, hb1⟩
                  refine ⟨_, rfl, fun _ => (hB0.keep hb1).ak, ?_⟩
                  go_frame
                  have hB1 := hB0.keep hb1
                  have hbF := hbF.trans (hb1.mono hbF.size)
                  have hL1 := hL0.below hb1
                  clear hb1 hB0 hL0
                  refine F_take (i := 8) (d := some 119) (by kernel_rfl) (by kernel_rfl) (by decide) (s' := #[true, true, true, true, true, true, true, true, true, false, false, false, false, false, false, false, false, false, false, false, false, false, false, false, false, false, false, false, false, false, false, false, false, false, false, false, false, false, false]) (by kernel_rfl) rfl rfl (by kernel_rfl) (by kernel_rfl) (by kernel_rfl) (fun _ _ _ h => h) (Or.inl ⟨by kernel_rfl, fun W hW => by obtain ⟨⟨x1, x2, x3⟩, y0, y1, y2⟩ := hW; go_simp; try with_reducible rfl⟩) hB1.ak ?_
                  go_frame
                  refine F_take (i := 9) (d := some 120) (by kernel_rfl) (by kernel_rfl) (by decide) (s' := #[true, true, true, true, true, true, true, true, true, true, false, false, false, false, false, false, false, false, false, false, false, false, false, false, false, false, false, false, false, false, false, false, false, false, false, false, false, false, false]) (by kernel_rfl) rfl rfl (by kernel_rfl) (by kernel_rfl) (by kernel_rfl) (fun _ _ _ h => h) (Or.inl ⟨by kernel_rfl, fun W hW => by obtain ⟨⟨x1, x2, x3⟩, y0, y1, y2⟩ := hW; go_simp; try with_reducible rfl⟩) hB1.ak ?_
                  go_frame
                  refine F_take (i := 10) (d := some 121) (by kernel_rfl) (by kernel_rfl) (by decide) (s' := #[true, true, true, true, true, true, true, true, true, true, true, false, false, false, false, false, false, false, false, false, false, false, false, false, false, false, false, false, false, false, false, false, false, false, false, false, false, false, false]) (by kernel_rfl) rfl rfl (by kernel_rfl) (by kernel_rfl) (by kernel_rfl) (fun _ _ _ h => h) (Or.inl ⟨by kernel_rfl, fun W hW => by obtain ⟨⟨x1, x2, x3⟩, y0, y1, y2⟩ := hW; go_simp; try with_reducible rfl⟩) hB1.ak ?_
                  go_frame
                  refine F_take (i := 11) (d := some 122) (by kernel_rfl) (by kernel_rfl) (by decide) (s' := #[true, true, true, true, true, true, true, true, true, true, true, true, false, false, false, false, false, false, false, false, false, false, false, false, false, false, false, false, false, false, false, false, false, false, false, false, false, false, false]) (by kernel_rfl) rfl rfl (by kernel_rfl) (by kernel_rfl) (by kernel_rfl) (fun _ _ _ h => h) (Or.inl ⟨by kernel_rfl, fun W hW => by obtain ⟨⟨x1, x2, x3⟩, y0, y1, y2⟩ := hW; go_simp; try with_reducible rfl⟩) hB1.ak ?_
                  go_frame
                  refine F_take (i := 12) (d := some 123) (by kernel_rfl) (by kernel_rfl) (by decide) (s' := #[true, true, true, true, true, true, true, true, true, true, true, true, true, false, false, false, false, false, false, false, false, false, false, false, false, false, false, false, false, false, false, false, false, false, false, false, false, false, false]) (by kernel_rfl) rfl rfl (by kernel_rfl) (by kernel_rfl) (by kernel_rfl) (fun _ _ _ h => h) (Or.inl ⟨by kernel_rfl, fun W hW => by obtain ⟨⟨x1, x2, x3⟩, y0, y1, y2⟩ := hW; go_simp; try with_reducible rfl⟩) hB1.ak ?_
                  go_frame
                  refine F_take (i := 13) (d := some 124) (by kernel_rfl) (by kernel_rfl) (by decide) (s' := #[true, true, true, true, true, true, true, true, true, true, true, true, true, true, false, false, false, false, false, false, false, false, false, false, false, false, false, false, false, false, false, false, false, false, false, false, false, false, false]) (by kernel_rfl) rfl rfl (by kernel_rfl) (by kernel_rfl) (by kernel_rfl) (fun _ _ _ h => h) (Or.inl ⟨by kernel_rfl, fun W hW => by obtain ⟨⟨x1, x2, x3⟩, y0, y1, y2⟩ := hW; go_simp; try with_reducible rfl⟩) hB1.ak ?_
                  go_frame
                  refine F_take (i := 14) (d := some 125) (by kernel_rfl) (by kernel_rfl) (by decide) (s' := #[true, true, true, true, true, true, true, true, true, true, true, true, true, true, true, false, false, false, false, false, false, false, false, false, false, false, false, false, false, false, false, false, false, false, false, false, false, false, false]) (by kernel_rfl) rfl rfl (by kernel_rfl) (by kernel_rfl) (by kernel_rfl) (fun _ _ _ h => h) (Or.inl ⟨by kernel_rfl, fun W hW => by obtain ⟨⟨x1, x2, x3⟩, y0, y1, y2⟩ := hW; go_simp; try with_reducible rfl⟩) hB1.ak ?_
                  go_frame
                  refine F_take (i := 16) (d := some 127) (by kernel_rfl) (by kernel_rfl) (by decide) (s' := #[true, true, true, true, true, true, true, true, true, true, true, true, true, true, true, false, true, false, false, false, false, false, false, false, false, false, false, false, false, false, false, false, false, false, false, false, false, false, false]) (by kernel_rfl) rfl rfl (by kernel_rfl) (by kernel_rfl) (by kernel_rfl) (fun _ _ _ h => h) (Or.inl ⟨by kernel_rfl, fun W hW => by obtain ⟨⟨x1, x2, x3⟩, y0, y1, y2⟩ := hW; go_simp; try with_reducible rfl⟩) hB1.ak ?_
                  go_frame
                  refine F_one (i := 15) (s' := #[true, true, true, true, true, true, true, true, true, true, true, true, true, true, true, true, true, false, false, false, false, false, false, false, false, false, false, false, false, false, false, false, false, false, false, false, false, false, false]) (by kernel_rfl) (by kernel_rfl) (wpOp_enterL (i := 15) (d := some 126) (f := 44) (args := #[.pointer (some ⟨p, 0, none⟩), .int .i64 la, .int .i64 id]) rfl rfl (by kernel_rfl) (by go_simp) ((Next_any p b R2 la id w1 hB1.pr.rx Hn.out).mono ?_))
                  rintro r w2 ⟨u2, rfl, hown2, hb2⟩
                  refine ⟨_, rfl, fun _ => (hB1.keep hb2).ak, ?_⟩
                  go_frame
                  have hB2 := hB1.keep hb2
                  have hbF := hbF.trans (hb2.mono hbF.size)
                  have hL2 := hL1.below hb2
                  clear hb2 hB1 hL1
                  refine F_one (i := 17) (s' := #[true, true, true, true, true, true, true, true, true, true, true, true, true, true, true, true, true, true, false, false, false, false, false, false, false, false, false, false, false, false, false, false, false, false, false, false, false, false, false]) (by kernel_rfl) (by kernel_rfl) (wpOp_enterL (i := 17) (d := some 128) (f := 57) (args := #[.slice Ai (listK R2 la id).length ci]) rfl rfl (by kernel_rfl) (by go_simp) ((First_any Ai ci (listK R2 la id) w2 _ (OwnR.rows (C := 3) (cells := K3.cells) (fun _ => rfl) hL2).2 (Nat.le_refl _) Hnl.out _ rfl).mono ?_))
                  rintro r w3 ⟨u3, rfl, hown3, hb3⟩
                  refine ⟨_, rfl, fun _ => (hB2.keep hb3).ak, ?_⟩
                  go_frame
                  have hB3 := hB2.keep hb3
                  have hbF := hbF.trans (hb3.mono hbF.size)
                  have hown2' := hown2.below hb3
                  clear hb3 hB2 hL2 hown2
                  obtain ⟨A2, cap2, hu2⟩ := hown2'.shape
                  obtain ⟨A3, cap3, hu3⟩ := hown3.shape
                  subst hu2 hu3
                  refine F_one (i := 18) (s' := #[true, true, true, true, true, true, true, true, true, true, true, true, true, true, true, true, true, true, true, false, false, false, false, false, false, false, false, false, false, false, false, false, false, false, false, false, false, false, false]) (by kernel_rfl) (by kernel_rfl) (wpOp_enterL (i := 18) (d := some 129) (f := 56) (args := #[.slice A2 ((listK R2 la id).take 3).length cap2, .slice A3 ((listK R2 la id).take 3).length cap3]) rfl rfl (by kernel_rfl) (by go_simp) ((Keys_same A2 A3 cap2 cap3 _ w3 _ _ (OwnR.rows (C := 3) (cells := K3.cells) (fun _ => rfl) hown2').2 (OwnR.rows (C := 3) (cells := K3.cells) (fun _ => rfl) hown3).2 (Nat.le_refl _) (Nat.le_refl _) Hnt.out _ _ rfl rfl).mono ?_))
                  rintro r w4 ⟨rfl, hb4⟩
                  refine ⟨_, rfl, fun _ => (hB3.keep hb4).ak, ?_⟩
                  go_frame
                  have hB4 := hB3.keep hb4
                  have hbF := hbF.trans (hb4.mono hbF.size)
                  clear hb4 hB3 hown2' hown3
                  refine F_take (i := 19) (d := some 130) (by kernel_rfl) (by kernel_rfl) (by decide) (s' := #[true, true, true, true, true, true, true, true, true, true, true, true, true, true, true, true, true, true, true, true, false, false, false, false, false, false, false, false, false, false, false, false, false, false, false, false, false, false, false]) (by kernel_rfl) rfl rfl (by kernel_rfl) (by kernel_rfl) (by kernel_rfl) (fun _ _ _ h => h) (Or.inl ⟨by kernel_rfl, fun W hW => by obtain ⟨⟨x1, x2, x3⟩, y0, y1, y2⟩ := hW; go_simp; try with_reducible rfl⟩) hB4.ak ?_
                  go_frame
                  refine F_take (i := 20) (d := some 131) (by kernel_rfl) (by kernel_rfl) (by decide) (s' := #[true, true, true, true, true, true, true, true, true, true, true, true, true, true, true, true, true, true, true, true, true, false, false, false, false, false, false, false, false, false, false, false, false, false, false, false, false, false, false]) (by kernel_rfl) rfl rfl (by kernel_rfl) (by kernel_rfl) (by kernel_rfl) (fun _ _ _ h => h) (Or.inl ⟨by kernel_rfl, fun W hW => by obtain ⟨⟨x1, x2, x3⟩, y0, y1, y2⟩ := hW; go_simp; try with_reducible rfl⟩) hB4.ak ?_
                  go_frame
                  refine F_take (i := 21) (d := some 132) (by kernel_rfl) (by kernel_rfl) (by decide) (s' := #[true, true, true, true, true, true, true, true, true, true, true, true, true, true, true, true, true, true, true, true, true, true, false, false, false, false, false, false, false, false, false, false, false, false, false, false, false, false, false]) (by kernel_rfl) rfl rfl (by kernel_rfl) (by kernel_rfl) (by kernel_rfl) (fun _ _ _ h => h) (Or.inl ⟨by kernel_rfl, fun W hW => by obtain ⟨⟨x1, x2, x3⟩, y0, y1, y2⟩ := hW; go_simp; try with_reducible rfl⟩) hB4.ak ?_
                  go_frame
                  refine F_take (i := 22) (d := some 133) (by kernel_rfl) (by kernel_rfl) (by decide) (s' := #[true, true, true, true, true, true, true, true, true, true, true, true, true, true, true, true, true, true, true, true, true, true, true, false, false, false, false, false, false, false, false, false, false, false, false, false, false, false, false]) (by kernel_rfl) rfl rfl (by kernel_rfl) (by kernel_rfl) (by kernel_rfl) (fun _ _ _ h => h) (Or.inl ⟨by kernel_rfl, fun W hW => by obtain ⟨⟨x1, x2, x3⟩, y0, y1, y2⟩ := hW; go_simp; try with_reducible rfl⟩) hB4.ak ?_
                  go_frame
                  refine F_take (i := 23) (d := some 134) (by kernel_rfl) (by kernel_rfl) (by decide) (s' := #[true, true, true, true, true, true, true, true, true, true, true, true, true, true, true, true, true, true, true, true, true, true, true, true, false, false, false, false, false, false, false, false, false, false, false, false, false, false, false]) (by kernel_rfl) rfl rfl (by kernel_rfl) (by kernel_rfl) (by kernel_rfl) (fun _ _ _ h => h) (Or.inl ⟨by kernel_rfl, fun W hW => by obtain ⟨⟨x1, x2, x3⟩, y0, y1, y2⟩ := hW; go_simp; try with_reducible rfl⟩) hB4.ak ?_
                  go_frame
                  refine F_take (i := 24) (d := some 135) (by kernel_rfl) (by kernel_rfl) (by decide) (s' := #[true, true, true, true, true, true, true, true, true, true, true, true, true, true, true, true, true, true, true, true, true, true, true, true, true, false, false, false, false, false, false, false, false, false, false, false, false, false, false]) (by kernel_rfl) rfl rfl (by kernel_rfl) (by kernel_rfl) (by kernel_rfl) (fun _ _ _ h => h) (Or.inl ⟨by kernel_rfl, fun W hW => by obtain ⟨⟨x1, x2, x3⟩, y0, y1, y2⟩ := hW; go_simp; try with_reducible rfl⟩) hB4.ak ?_
                  go_frame
                  refine F_take (i := 25) (d := some 136) (by kernel_rfl) (by kernel_rfl) (by decide) (s' := #[true, true, true, true, true, true, true, true, true, true, true, true, true, true, true, true, true, true, true, true, true, true, true, true, true, true, false, false, false, false, false, false, false, false, false, false, false, false, false]) (by kernel_rfl) rfl rfl (by kernel_rfl) (by kernel_rfl) (by kernel_rfl) (fun _ _ _ h => h) (Or.inl ⟨by kernel_rfl, fun W hW => by obtain ⟨⟨x1, x2, x3⟩, y0, y1, y2⟩ := hW; go_simp; try with_reducible rfl⟩) hB4.ak ?_
                  go_frame
                  refine F_take (i := 26) (d := some 137) (by kernel_rfl) (by kernel_rfl) (by decide) (s' := #[true, true, true, true, true, true, true, true, true, true, true, true, true, true, true, true, true, true, true, true, true, true, true, true, true, true, true, false, false, false, false, false, false, false, false, false, false, false, false]) (by kernel_rfl) rfl rfl (by kernel_rfl) (by kernel_rfl) (by kernel_rfl) (fun _ _ _ h => h) (Or.inl ⟨by kernel_rfl, fun W hW => by obtain ⟨⟨x1, x2, x3⟩, y0, y1, y2⟩ := hW; go_simp; try with_reducible rfl⟩) hB4.ak ?_
                  go_frame
                  refine F_take (i := 27) (d := some 138) (by kernel_rfl) (by kernel_rfl) (by decide) (s' := #[true, true, true, true, true, true, true, true, true, true, true, true, true, true, true, true, true, true, true, true, true, true, true, true, true, true, true, true, false, false, false, false, false, false, false, false, false, false, false]) (by kernel_rfl) rfl rfl (by kernel_rfl) (by kernel_rfl) (by kernel_rfl) (fun _ _ _ h => h) (Or.inl ⟨by kernel_rfl, fun W hW => by obtain ⟨⟨x1, x2, x3⟩, y0, y1, y2⟩ := hW; go_simp; try with_reducible rfl⟩) hB4.ak ?_
                  go_frame
                  refine F_take (i := 29) (d := some 140) (by kernel_rfl) (by kernel_rfl) (by decide) (s' := #[true, true, true, true, true, true, true, true, true, true, true, true, true, true, true, true, true, true, true, true, true, true, true, true, true, true, true, true, false, true, false, false, false, false, false, false, false, false, false]) (by kernel_rfl) rfl rfl (by kernel_rfl) (by kernel_rfl) (by kernel_rfl) (fun _ _ _ h => h) (Or.inl ⟨by kernel_rfl, fun W hW => by obtain ⟨⟨x1, x2, x3⟩, y0, y1, y2⟩ := hW; go_simp; try with_reducible rfl⟩) hB4.ak ?_
                  go_frame
                  refine F_take (i := 30) (d := some 141) (by kernel_rfl) (by kernel_rfl) (by decide) (s' := #[true, true, true, true, true, true, true, true, true, true, true, true, true, true, true, true, true, true, true, true, true, true, true, true, true, true, true, true, false, true, true, false, false, false, false, false, false, false, false]) (by kernel_rfl) rfl rfl (by kernel_rfl) (by kernel_rfl) (by kernel_rfl) (fun _ _ _ h => h) (Or.inl ⟨by kernel_rfl, fun W hW => by obtain ⟨⟨x1, x2, x3⟩, y0, y1, y2⟩ := hW; go_simp; try with_reducible rfl⟩) hB4.ak ?_
                  go_frame
                  refine F_take (i := 31) (d := some 142) (by kernel_rfl) (by kernel_rfl) (by decide) (s' := #[true, true, true, true, true, true, true, true, true, true, true, true, true, true, true, true, true, true, true, true, true, true, true, true, true, true, true, true, false, true, true, true, false, false, false, false, false, false, false]) (by kernel_rfl) rfl rfl (by kernel_rfl) (by kernel_rfl) (by kernel_rfl) (fun _ _ _ h => h) (Or.inl ⟨by kernel_rfl, fun W hW => by obtain ⟨⟨x1, x2, x3⟩, y0, y1, y2⟩ := hW; go_simp; try with_reducible rfl⟩) hB4.ak ?_
                  go_frame
                  refine F_take (i := 32) (d := some 143) (by kernel_rfl) (by kernel_rfl) (by decide) (s' := #[true, true, true, true, true, true, true, true, true, true, true, true, true, true, true, true, true, true, true, true, true, true, true, true, true, true, true, true, false, true, true, true, true, false, false, false, false, false, false]) (by kernel_rfl) rfl rfl (by kernel_rfl) (by kernel_rfl) (by kernel_rfl) (fun _ _ _ h => h) (Or.inl ⟨by kernel_rfl, fun W hW => by obtain ⟨⟨x1, x2, x3⟩, y0, y1, y2⟩ := hW; go_simp; try with_reducible rfl⟩) hB4.ak ?_
                  go_frame
                  refine F_take (i := 33) (d := some 144) (by kernel_rfl) (by kernel_rfl) (by decide) (s' := #[true, true, true, true, true, true, true, true, true, true, true, true, true, true, true, true, true, true, true, true, true, true, true, true, true, true, true, true, false, true, true, true, true, true, false, false, false, false, false]) (by kernel_rfl) rfl rfl (by kernel_rfl) (by kernel_rfl) (by kernel_rfl) (fun _ _ _ h => h) (Or.inl ⟨by kernel_rfl, fun W hW => by obtain ⟨⟨x1, x2, x3⟩, y0, y1, y2⟩ := hW; go_simp; try with_reducible rfl⟩) hB4.ak ?_
                  go_frame
                  refine F_take (i := 34) (d := some 145) (by kernel_rfl) (by kernel_rfl) (by decide) (s' := #[true, true, true, true, true, true, true, true, true, true, true, true, true, true, true, true, true, true, true, true, true, true, true, true, true, true, true, true, false, true, true, true, true, true, true, false, false, false, false]) (by kernel_rfl) rfl rfl (by kernel_rfl) (by kernel_rfl) (by kernel_rfl) (fun _ _ _ h => h) (Or.inl ⟨by kernel_rfl, fun W hW => by obtain ⟨⟨x1, x2, x3⟩, y0, y1, y2⟩ := hW; go_simp; try with_reducible rfl⟩) hB4.ak ?_
                  go_frame
                  refine F_one (i := 28) (s' := #[true, true, true, true, true, true, true, true, true, true, true, true, true, true, true, true, true, true, true, true, true, true, true, true, true, true, true, true, true, true, true, true, true, true, true, false, false, false, false]) (by kernel_rfl) (by kernel_rfl) (wpOp_enterL (i := 28) (d := some 139) (f := 48) (args := #[.pointer (some ⟨p, 0, none⟩), .int .i64 la, .int .i64 id, .agg #[.int .i64 c1, .int .i64 c2, .int .i64 c3]]) rfl rfl (by kernel_rfl) (by go_simp) ((On_any p b R2 la id c1 c2 c3 w4 hB4.pr.rx).mono ?_))
                  rintro r w5 ⟨rfl, hb5⟩; rw [HonV.out]
                  refine ⟨_, rfl, fun _ => (hB4.keep hb5).ak, ?_⟩
                  go_frame
                  have hB5 := hB4.keep hb5
                  have hbF := hbF.trans (hb5.mono hbF.size)
                  clear hb5 hB4
                  refine F_one (i := 35) (s' := #[true, true, true, true, true, true, true, true, true, true, true, true, true, true, true, true, true, true, true, true, true, true, true, true, true, true, true, true, true, true, true, true, true, true, true, true, false, false, false]) (by kernel_rfl) (by kernel_rfl) (wpOp_enterL (i := 35) (d := some 146) (f := 58) (args := #[.pointer (some ⟨q, 0, none⟩), .int .i64 la, .int .i64 id, .agg #[.int .i64 c1, .int .i64 c2, .int .i64 c3]]) rfl rfl (by kernel_rfl) (by go_simp) ((refFind_any q v2 R2 la id c1 c2 c3 w5 hB5.pr.rf Hn.out Hz.out).mono ?_))
                  rintro r w6 ⟨rfl, hb6⟩
                  refine ⟨_, rfl, fun _ => (hB5.keep hb6).ak, ?_⟩
                  go_frame
                  have hB6 := hB5.keep hb6
                  have hbF := hbF.trans (hb6.mono hbF.size)
                  clear hb6 hB5
                  refine F_take (i := 36) (d := some 147) (by kernel_rfl) (by kernel_rfl) (by decide) (s' := #[true, true, true, true, true, true, true, true, true, true, true, true, true, true, true, true, true, true, true, true, true, true, true, true, true, true, true, true, true, true, true, true, true, true, true, true, true, false, false]) (by kernel_rfl) rfl rfl (by kernel_rfl) (by kernel_rfl) (by kernel_rfl) (fun _ _ _ h => h) (Or.inl ⟨by kernel_rfl, fun W hW => by obtain ⟨⟨x1, x2, x3⟩, y0, y1, y2⟩ := hW; go_simp; try with_reducible rfl⟩) hB6.ak ?_
                  go_frame
                  refine F_take (i := 37) (d := some 148) (by kernel_rfl) (by kernel_rfl) (by decide) (s' := #[true, true, true, true, true, true, true, true, true, true, true, true, true, true, true, true, true, true, true, true, true, true, true, true, true, true, true, true, true, true, true, true, true, true, true, true, true, true, false]) (by kernel_rfl) rfl rfl (by kernel_rfl) (by kernel_rfl) (by kernel_rfl) (fun _ _ _ h => h) (Or.inl ⟨by kernel_rfl, fun W hW => by obtain ⟨⟨x1, x2, x3⟩, y0, y1, y2⟩ := hW; go_simp; try with_reducible rfl⟩) hB6.ak ?_
                  go_frame
                  refine F_one (i := 38) (s' := #[true, true, true, true, true, true, true, true, true, true, true, true, true, true, true, true, true, true, true, true, true, true, true, true, true, true, true, true, true, true, true, true, true, true, true, true, true, true, true]) (by kernel_rfl) (by kernel_rfl) (wpOp_valueL (i := 38) (d := some 149) (w' := w6) (v := .bool false) rfl rfl (by kernel_rfl) (by go_simp) ⟨fun h => absurd h (by decide), ?_⟩)
                  go_frame
                  refine F_done (by kernel_rfl) ?_ _
                  have Hend := Lib.hid hbF
                  clear hB6 hbF
                  go_wp2
                  go_roundw
                  case measure => simp [intOf]; omega
                  case rel => exact ⟨i + 1, by go_num, by omega, Hend.out⟩
                · have hil : i = l.length := by omega
                  subst hil
                  have HBd := Lib.hid (show ∀ wd : World, wd = wr.drew → Kun w wd p b q v2 R2 R2 (ga + 1) ⟨c1, c2, c3⟩ from by rintro _ rfl; exact (HK.out.keep hbx).keep (Below.refl _ _).drew)
                  clear hbx
                  obtain ⟨hv, hh⟩ : ∃ hv, hasB16 R2 ⟨c1, c2, c3⟩ = hv := ⟨_, rfl⟩
                  have Hh := Lib.hid hh
                  clear hh
                  go_wp2
                  refine wp_region_F (F := fun W => W.cell? ⟨ga + 1, 0, none⟩ = some (.int .i64 c1) ∧ W.cell? ⟨ga + 1, 1, none⟩ = some (.int .i64 c2) ∧ W.cell? ⟨ga + 1, 2, none⟩ = some (.int .i64 c3)) (n := 6) (m := 7) (s := #[false, false, false, false, false, false, false]) (by kernel_rfl) (by kernel_rfl) (by kernel_rfl) ?_
                  intro wd hwd
                  have hB0 := HBd.out wd hwd.out
                  clear hwd
                  refine F_take (i := 0) (d := some 151) (by kernel_rfl) (by kernel_rfl) (by decide) (s' := #[true, false, false, false, false, false, false]) (by kernel_rfl) rfl rfl (by kernel_rfl) (by kernel_rfl) (by kernel_rfl) (fun _ _ _ h => h) (Or.inl ⟨by kernel_rfl, fun W hW => by obtain ⟨y0, y1, y2⟩ := hW; go_simp; try with_reducible rfl⟩) hB0.kk ?_
                  go_frame
                  refine F_take (i := 1) (d := some 152) (by kernel_rfl) (by kernel_rfl) (by decide) (s' := #[true, true, false, false, false, false, false]) (by kernel_rfl) rfl rfl (by kernel_rfl) (by kernel_rfl) (by kernel_rfl) (fun _ _ _ h => h) (Or.inl ⟨by kernel_rfl, fun W hW => by obtain ⟨y0, y1, y2⟩ := hW; go_simp; try with_reducible rfl⟩) hB0.kk ?_
                  go_frame
                  refine F_take (i := 3) (d := some 154) (by kernel_rfl) (by kernel_rfl) (by decide) (s' := #[true, true, false, true, false, false, false]) (by kernel_rfl) rfl rfl (by kernel_rfl) (by kernel_rfl) (by kernel_rfl) (fun _ _ _ h => h) (Or.inl ⟨by kernel_rfl, fun W hW => by obtain ⟨y0, y1, y2⟩ := hW; go_simp; try with_reducible rfl⟩) hB0.kk ?_
                  go_frame
                  refine F_take (i := 4) (d := some 155) (by kernel_rfl) (by kernel_rfl) (by decide) (s' := #[true, true, false, true, true, false, false]) (by kernel_rfl) rfl rfl (by kernel_rfl) (by kernel_rfl) (by kernel_rfl) (fun _ _ _ h => h) (Or.inl ⟨by kernel_rfl, fun W hW => by obtain ⟨y0, y1, y2⟩ := hW; go_simp; try with_reducible rfl⟩) hB0.kk ?_
                  go_frame
                  refine F_one (i := 2) (s' := #[true, true, true, true, true, false, false]) (by kernel_rfl) (by kernel_rfl) (wpOp_enterL (i := 2) (d := some 153) (f := 46) (args := #[.pointer (some ⟨p, 0, none⟩), .agg #[.int .i64 c1, .int .i64 c2, .int .i64 c3]]) rfl rfl (by kernel_rfl) (by go_simp) ((Has_any p b R2 c1 c2 c3 wd hB0.pr.rx Hh.out).mono ?_))
                  rintro r w1 ⟨rfl, hb1⟩
                  refine ⟨_, rfl, fun _ => (hB0.keep hb1).kk, ?_⟩
                  go_frame
                  have hB1 := hB0.keep hb1
                  clear hb1 hB0
                  refine F_one (i := 5) (s' := #[true, true, true, true, true, true, false]) (by kernel_rfl) (by kernel_rfl) (wpOp_enterL (i := 5) (d := some 156) (f := 59) (args := #[.pointer (some ⟨q, 0, none⟩), .agg #[.int .i64 c1, .int .i64 c2, .int .i64 c3]]) rfl rfl (by kernel_rfl) (by go_simp) ((refHas_any q v2 R2 c1 c2 c3 w1 hB1.pr.rf Hn.out Hh.out).mono ?_))
                  rintro r w2 ⟨rfl, hb2⟩
                  refine ⟨_, rfl, fun _ => (hB1.keep hb2).kk, ?_⟩
                  go_frame
                  have hB2 := hB1.keep hb2
                  clear hb2 hB1
                  refine F_one (i := 6) (s' := #[true, true, true, true, true, true, true]) (by kernel_rfl) (by kernel_rfl) (wpOp_valueL (i := 6) (d := some 157) (w' := w2) (v := .bool false) rfl rfl (by kernel_rfl) (by go_simp) ⟨fun h => absurd h (by decide), ?_⟩)
                  go_frame
                  refine F_done (by kernel_rfl) ?_ _
                  have Hend := Lib.hid hB2
                  clear hB2
                  go_wp2
                  go_roundw
                  case measure => simp [intOf]; omega
                  case rel => exact ⟨j + 1, R2, v2, by go_num, by omega, Hend.out.pr, by have := HRl.out; have := HR2.out; omega⟩
      · have hjl : j = l.length := by omega
        subst hjl
        have Hbe := Lib.hid hpr.bel
        clear hpr
        go_wp2
        go_ret
        exact ⟨rfl, Hbe.out⟩
  · have h60' : 60 < l.length := by omega
    go_enter Try.func13, Try.ntmps13
    go_wp2_with fail
    with_reducible refine Calls.mono (wakes16 _) ?_
    rintro r w1 ⟨rfl, hb1⟩
    go_wp2
    go_ret
    exact ⟨rfl, hb1⟩

end Go.Proofs.Ytfhikkmgclkcdaa
