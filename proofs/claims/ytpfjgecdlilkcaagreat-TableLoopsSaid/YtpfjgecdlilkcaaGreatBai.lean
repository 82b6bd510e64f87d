/-
  The document's word for a description that may be: the program's way.
-/
import Derived.Deep.CutRange
import Derived.Deep.DeepCutAuto
import Derived.Lib.QuietBelow
import Derived.Test.YtpfjgecdlilkcaaGreatBad
import Derived.Test.YtpfjgecdlilkcaaGreatBae
import Derived.Test.YtpfjgecdlilkcaaGreatBah
namespace Go.Proofs.YtpfjgecdlilkcaaGreat
open Go.RowKit

set_option maxHeartbeats 1000000 in
theorem rin_v (n a b : Int) (w : World) {t : Bool} (ht : inB n a b = t) : Calls Tryz.prog 56 #[.int .i64 n, .int .i64 a, .int .i64 b] w fun r w' => r = .returned (.bool t) ∧ w = w' := by
  rcases in_cases n a b with ⟨h1, h2⟩ | ⟨h1, h2⟩
  · rw [h2] at ht
    subst ht
    clear h2
    go_enter Tryz.func56, Tryz.ntmps56
    go_wp2
    go_ret
    exact ⟨rfl, rfl⟩
  · rw [ht] at h2
    clear ht
    go_enter Tryz.func56, Tryz.ntmps56
    go_wp2
    go_ret
    exact ⟨rfl, rfl⟩

set_option maxHeartbeats 2000000 in
set_option maxRecDepth 100000 in
theorem refHead_any (a1 a2 a3 a4 a5 a6 a7 : Int) (w : World) {t : Bool} (ht : headB ⟨a1, a2, a3, a4, a5, a6, a7⟩ = t) : Calls Tryz.prog 55 #[.agg #[.int .i64 a1, .int .i64 a2, .int .i64 a3, .int .i64 a4, .int .i64 a5, .int .i64 a6, .int .i64 a7]] w fun r w' => r = .returned (.bool t) ∧ Below w.heap.size w w' := by
  unfold headB at ht
  simp only at ht
  obtain ⟨t1, h1⟩ : ∃ t1, inB a1 0 60 = t1 := ⟨_, rfl⟩
  obtain ⟨t2, h2⟩ : ∃ t2, inB a2 1 2 = t2 := ⟨_, rfl⟩
  obtain ⟨t3, h3⟩ : ∃ t3, inB a4 1 15 = t3 := ⟨_, rfl⟩
  obtain ⟨t4, h4⟩ : ∃ t4, inB a5 (-2147483647) 2147483647 = t4 := ⟨_, rfl⟩
  rw [h1, h2, h3, h4] at ht
  have H1 := Lib.hid h1
  have H2 := Lib.hid h2
  have H3 := Lib.hid h3
  have H4 := Lib.hid h4
  clear h1 h2 h3 h4
  have Hb := Lib.hid ((Below.refl w.heap.size w).alloc (Nat.le_refl _) (.cells #[.int .i64 a1, .int .i64 a2, .int .i64 a3, .int .i64 a4, .int .i64 a5, .int .i64 a6, .int .i64 a7] 37))
  rcases bool4 t1 t2 t3 t4 with rfl | ⟨rfl, rfl⟩ | ⟨rfl, rfl, rfl⟩ | ⟨rfl, rfl, rfl, rfl⟩ | ⟨rfl, rfl, rfl, rfl⟩
  all_goals
    simp only [Bool.false_and, Bool.and_false, Bool.and_true] at ht
    subst ht
    go_enter Tryz.func55, Tryz.ntmps55
    go_wp2_with (first
      | (go_at_call 56; (with_reducible refine Calls.mono (rin_v a1 0 60 _ H1.out) ?_); rintro r w2 ⟨rfl, rfl⟩)
      | (go_at_call 56; (with_reducible refine Calls.mono (rin_v a2 1 2 _ H2.out) ?_); rintro r w2 ⟨rfl, rfl⟩)
      | (go_at_call 56; (with_reducible refine Calls.mono (rin_v a4 1 15 _ H3.out) ?_); rintro r w2 ⟨rfl, rfl⟩)
      | (go_at_call 56; (with_reducible refine Calls.mono (rin_v a5 (-2147483647) 2147483647 _ H4.out) ?_); rintro r w2 ⟨rfl, rfl⟩))
    go_ret
    exact ⟨rfl, Hb.out⟩

theorem rin_q (n a b : Int) (w : World) (q : Nat) {t : Bool} (ht : inB n a b = t) : Calls Tryz.prog 56 #[.int .i64 n, .int .i64 a, .int .i64 b] (w.drewN q) fun r w' => r = .returned (.bool t) ∧ ∃ q', w' = w.drewN q' :=
  (rin_v n a b _ ht).mono fun _r _w' ⟨h1, h2⟩ => ⟨h1, q, h2.symm⟩
theorem inB23 {x : Int} {t : Bool} (h : inB x 2 3 = t) : (t = true ∧ (x = 2 ∨ x = 3)) ∨ (t = false ∧ ¬ x = 2 ∧ ¬ x = 3) := by
  subst h
  unfold inB
  by_cases h1 : x = 2
  · subst h1; left; simp
  · by_cases h2 : x = 3
    · subst h2; left; simp
    · right; refine ⟨?_, h1, h2⟩; simp; omega
theorem in23t {x : Int} (h : (true = true ∧ (x = 2 ∨ x = 3)) ∨ (true = false ∧ ¬ x = 2 ∧ ¬ x = 3)) : x = 2 ∨ x = 3 := by
  rcases h with ⟨-, h⟩ | ⟨h, -⟩
  · exact h
  · cases h
set_option maxHeartbeats 8000000 in
set_option maxRecDepth 100000 in
theorem refRight_any (a1 a2 a3 a4 a5 a6 a7 : Int) (ka : Option Addr) (kc : Nat) (ls : List Lnk) (ma : Option Addr) (mc : Nat) (ms : List Int) (w : World) (B : Nat) (hl : RowsAt 4 Lnk.cells w B ka ls) (hm : RowsAt 1 icell w B ma ms) (hB : B ≤ w.heap.size) (hlm : ls.length ≤ maxLen) (hmm : ms.length ≤ maxLen) (nl nm : Nat) (hnl : nl = ls.length) (hnm : nm = ms.length) {t : Bool} (ht : rightB ⟨⟨a1, a2, a3, a4, a5, a6, a7⟩, ka, kc, ls, ma, mc, ms⟩ = t) :
    Calls Tryz.prog 27 #[.agg #[.int .i64 a1, .int .i64 a2, .int .i64 a3, .int .i64 a4, .int .i64 a5, .int .i64 a6, .int .i64 a7, .slice ka nl kc, .slice ma nm mc]] w fun r w' => r = .returned (.bool t) ∧ Below w.heap.size w w' := by
  have hcs := right_cases ⟨⟨a1, a2, a3, a4, a5, a6, a7⟩, ka, kc, ls, ma, mc, ms⟩
  simp only at hcs
  rw [← hnl, ← hnm] at hcs
  obtain ⟨w0, hW0⟩ : ∃ w0, w.alloc (.cells #[.int .i64 a1, .int .i64 a2, .int .i64 a3, .int .i64 a4, .int .i64 a5, .int .i64 a6, .int .i64 a7, .slice ka nl kc, .slice ma nm mc] 41) = w0 := ⟨_, rfl⟩
  have hk0 := Blk.new w 41 #[.int .i64 a1, .int .i64 a2, .int .i64 a3, .int .i64 a4, .int .i64 a5, .int .i64 a6, .int .i64 a7, .slice ka nl kc, .slice ma nm mc]
  have hb0 := (Below.refl w.heap.size w).alloc (Nat.le_refl _) (.cells #[.int .i64 a1, .int .i64 a2, .int .i64 a3, .int .i64 a4, .int .i64 a5, .int .i64 a6, .int .i64 a7, .slice ka nl kc, .slice ma nm mc] 41)
  rw [hW0] at hk0 hb0
  have Hk0 := Lib.hid hk0
  have Hb0 := Lib.hid hb0
  have Hl := Lib.hid (hl.more hB)
  have Hm := Lib.hid (hm.more hB)
  obtain ⟨z0, z1, z2, z3, z4, z5, z6, z7, z8, -⟩ := blk9 hk0
  clear hl hm hB hk0 hb0
  obtain ⟨th, hth⟩ : ∃ th, headB ⟨a1, a2, a3, a4, a5, a6, a7⟩ = th := ⟨_, rfl⟩
  obtain ⟨tl, htl⟩ : ∃ tl, linksB ls = tl := ⟨_, rfl⟩
  obtain ⟨tm, htm⟩ : ∃ tm, membersB ms = tm := ⟨_, rfl⟩
  obtain ⟨ti, hti⟩ : ∃ ti, inB a3 0 63 = ti := ⟨_, rfl⟩
  rw [hth, htl, htm, hti, ht] at hcs
  have Hth := Lib.hid hth
  have Htl := Lib.hid htl
  have Htm := Lib.hid htm
  have Hti := Lib.hid hti
  clear ht hth htl htm hti
  have HC := Lib.hid (fun W (hW : Below w.heap.size w W) => refHead_any a1 a2 a3 a4 a5 a6 a7 W Hth.out)
  have Hnl := Lib.hid hnl
  have Hnm := Lib.hid hnm
  have Hlm := Lib.hid hlm
  have Hmm := Lib.hid hmm
  have hm1 : (nl : Int) ≤ 9223372036854775807 := by unfold maxLen at hlm; omega
  have hm2 : (nm : Int) ≤ 9223372036854775807 := by unfold maxLen at hmm; omega
  have FW := Lib.hid (fun W (hW : Below w0.heap.size w0 W) => blk9 (Hk0.out.below hW Hk0.out.lt))
  clear hnl hnm hlm hmm
  rcases hcs with ⟨h1, rfl⟩ | ⟨h1, h2, h3, rfl⟩ | ⟨h1, h2, h3, h4, rfl⟩ | ⟨h1, h2, h3, rfl, rfl⟩ | ⟨h1, h2, h3, rfl⟩ | ⟨h1, h2, h3, h4, rfl⟩ | ⟨h1, h2, h3, rfl, rfl⟩
  all_goals
    subst h1
    go_enter Tryz.func27, Tryz.ntmps27
    go_wp2_with fail
    with_reducible refine Calls.mono (HC.out _ Hb0.out) ?_
    rintro r w2 ⟨rfl, hb2⟩
    obtain ⟨y0, y1, y2, y3, y4, y5, y6, y7, y8, -⟩ := blk9 (Hk0.out.below hb2 Hk0.out.lt)
    have Hb2 := Lib.hid (Hb0.out.trans (hb2.mono Hb0.out.size))
    have Hb02 := Lib.hid (hb2.mono (show w0.heap.size ≤ w0.heap.size from Nat.le_refl _))
    clear z0 z1 z2 z3 z4 z5 z6 z7 z8 hb2
  · go_wp2
    go_ret
    exact ⟨rfl, Hb2.out⟩
  · have g1 := of_decide_eq_false h3
    go_wp2
    go_ret
    exact ⟨rfl, Hb2.out⟩
  · have g1 := of_decide_eq_true h3
    have g2 : (0 : Int) < (nm : Int) := by omega
    subst g1
    go_wp2
    go_ret
    exact ⟨rfl, Hb2.out⟩
  · have g1 := of_decide_eq_true h3
    subst g1
    by_cases h4 : nl ≤ 4
    · have g4 : ¬ (4 : Int) < (nl : Int) := by omega
      have hk1 : a2 = 1 := by simpa using h2
      subst hk1
      go_wp2
      go_loopw [3] (fun i wr => ∃ k : Nat, i = .int .i64 k ∧ k ≤ ls.length ∧ (ls.take k).all linkB = true ∧ Below w0.heap.size w0 wr) (fun i _ => ls.length - (intOf i).toNat)
      case atStart => exact ⟨0, rfl, Nat.zero_le _, by simp, Hb02.out⟩
      case round =>
        obtain ⟨k, rfl, hk, hall, hb⟩ := hrel
        have Hb := Lib.hid hb
        have hbw := Hb0.out.trans (hb.mono Hb0.out.size)
        by_cases hlt : k < ls.length
        · obtain ⟨g, o, rfl, -, z0, z1, z2, z3⟩ := row_lnk (Hl.out.below hbw) k hlt
          obtain ⟨y0, y1, y2, y3, y4, y5, y6, y7, y8, -⟩ := FW.out _ hb
          have hkl : (k : Int) < (nl : Int) := by have := Hnl.out; omega
          have hno : linkB ls[k] = false → linksB ls = false := fun h => by
            unfold linksB
            have : ls.all linkB = false := by
              rw [List.all_eq_false]
              exact ⟨ls[k], List.getElem_mem hlt, by simp [h]⟩
            rw [this]; rfl
          have hyes : linkB ls[k] = true → (ls.take (k + 1)).all linkB = true := fun h => by
            rw [List.take_succ_eq_append_getElem hlt, List.all_append, hall]
            simp [h]
          have Hno := Lib.hid hno
          have Hyes := Lib.hid hyes
          have Hal := Lib.hid (fun o => hbw.alloc hbw.size o)
          have Hal0 := Lib.hid (fun o => hb.alloc hb.size o)
          clear hb hbw hno hyes hall
          generalize ls[k] = x at *
          obtain ⟨x1, x2, x3, x4⟩ := x
          simp only at z0 z1 z2 z3
          unfold linkB at Hno Hyes
          simp only at Hno Hyes
          obtain ⟨t1, h1⟩ : ∃ t1, inB x1 2 3 = t1 := ⟨_, rfl⟩
          obtain ⟨t2, h2⟩ : ∃ t2, inB x2 0 63 = t2 := ⟨_, rfl⟩
          obtain ⟨t3, h3⟩ : ∃ t3, inB x3 0 63 = t3 := ⟨_, rfl⟩
          obtain ⟨t4, h4⟩ : ∃ t4, inB x4 1 100 = t4 := ⟨_, rfl⟩
          rw [h1, h2, h3, h4] at Hno Hyes
          have h23 := inB23 h1
          have H2 := Lib.hid h2
          have H3 := Lib.hid h3
          have H4 := Lib.hid h4
          clear h1 h2 h3 h4
          rcases bool4n t1 t2 t3 t4 with ⟨hv, hd⟩ | ⟨hv, rfl, rfl, rfl, rfl⟩
          · have ht2 : t = false := by rw [← Htl.out]; exact Hno.out hv
            subst ht2
            clear Hyes Hno hv
            rcases hd with rfl | ⟨rfl, rfl⟩ | ⟨rfl, rfl, rfl⟩ | ⟨rfl, rfl, rfl, rfl⟩
            · rcases h23 with ⟨h0, -⟩ | ⟨-, n2, n3⟩
              · cases h0
              · go_wp2_with (first
                | (go_at_call 56; (with_reducible refine Calls.mono (rin_v x4 1 100 _ H4.out) ?_); rintro r w9 ⟨rfl, rfl⟩)
                | (go_at_call 56; (with_reducible refine Calls.mono (rin_v x2 0 63 _ H2.out) ?_); rintro r w9 ⟨rfl, rfl⟩)
                | (go_at_call 56; (with_reducible refine Calls.mono (rin_v x3 0 63 _ H3.out) ?_); rintro r w9 ⟨rfl, rfl⟩))
                go_ret
                exact ⟨rfl, Hal.out _⟩
            all_goals
              rcases in23t h23 with rfl | rfl
              all_goals
                go_wp2_with (first
                | (go_at_call 56; (with_reducible refine Calls.mono (rin_v x4 1 100 _ H4.out) ?_); rintro r w9 ⟨rfl, rfl⟩)
                | (go_at_call 56; (with_reducible refine Calls.mono (rin_v x2 0 63 _ H2.out) ?_); rintro r w9 ⟨rfl, rfl⟩)
                | (go_at_call 56; (with_reducible refine Calls.mono (rin_v x3 0 63 _ H3.out) ?_); rintro r w9 ⟨rfl, rfl⟩))
                go_ret
                exact ⟨rfl, Hal.out _⟩
          · have Hy := Lib.hid (Hyes.out hv)
            clear Hno Hyes hv
            rcases in23t h23 with rfl | rfl
            all_goals
              go_wp2_with (first
                | (go_at_call 56; (with_reducible refine Calls.mono (rin_v x4 1 100 _ H4.out) ?_); rintro r w9 ⟨rfl, rfl⟩)
                | (go_at_call 56; (with_reducible refine Calls.mono (rin_v x2 0 63 _ H2.out) ?_); rintro r w9 ⟨rfl, rfl⟩)
                | (go_at_call 56; (with_reducible refine Calls.mono (rin_v x3 0 63 _ H3.out) ?_); rintro r w9 ⟨rfl, rfl⟩))
              go_roundw
              case measure => simp [intOf]; omega
              case rel => exact ⟨k + 1, by go_num, hlt, Hy.out, Hal0.out _⟩
        · have hkk : k = ls.length := by omega
          obtain ⟨y0, y1, y2, y3, y4, y5, y6, y7, y8, -⟩ := FW.out _ hb
          have hkl : ¬ (k : Int) < (nl : Int) := by have := Hnl.out; omega
          have ht2 : t = true := by
            rw [← Htl.out]
            unfold linksB
            rw [hkk, List.take_length] at hall
            rw [hall, Bool.true_and]
            exact decide_eq_true (by have := Hnl.out; omega)
          subst ht2
          have Hbw := Lib.hid hbw
          clear hb hall hkk hbw
          go_wp2
          go_ret
          exact ⟨rfl, Hbw.out⟩
    · have g4 : (4 : Int) < (nl : Int) := by omega
      have ht2 : t = false := by
        rw [← Htl.out]
        unfold linksB
        rw [decide_eq_false (by have := Hnl.out; omega), Bool.and_false]
      subst ht2
      go_wp2
      go_ret
      exact ⟨rfl, Hb2.out⟩
  · go_wp2_with (go_at_call 56; (with_reducible refine Calls.mono (rin_v a3 0 63 _ Hti.out) ?_); rintro r w3 ⟨rfl, rfl⟩)
    go_ret
    exact ⟨rfl, Hb2.out⟩
  · subst h3
    have g2 : (0 : Int) < (nl : Int) := by omega
    go_wp2_with (go_at_call 56; (with_reducible refine Calls.mono (rin_v a3 0 63 _ Hti.out) ?_); rintro r w3 ⟨rfl, rfl⟩)
    go_ret
    exact ⟨rfl, Hb2.out⟩
  · by_cases h5 : nm = 0
    · subst h5
      have ht2 : t = false := by
        rw [← Htm.out]
        unfold membersB
        rw [decide_eq_false (by have := Hnm.out; omega), Bool.and_false]
      subst ht2
      subst h3
      go_wp2_with (go_at_call 56; (with_reducible refine Calls.mono (rin_v a3 0 63 _ Hti.out) ?_); rintro r w3 ⟨rfl, rfl⟩)
      go_ret
      exact ⟨rfl, Hb2.out⟩
    · subst h3
      have g5 : ¬ (nm : Int) = 0 := by omega
      have g6 : ((nm : Int) == 0) = false := by simpa using h5
      go_wp2_with (go_at_call 56; (with_reducible refine Calls.mono (rin_v a3 0 63 _ Hti.out) ?_); rintro r w3 ⟨rfl, rfl⟩)
      go_loopw [5] (fun i wr => ∃ (k : Nat) (z : Int), i = .int .i64 k ∧ k ≤ ms.length ∧ memC 0 (ms.take k) = true ∧ (((0 : Int) :: ms.take k).getLast (by simp)) = z ∧ 0 ≤ z ∧ z ≤ 15 ∧ Below w0.heap.size w0 wr) (fun i _ => ms.length - (intOf i).toNat)
      case atStart => exact ⟨0, 0, rfl, Nat.zero_le _, rfl, rfl, by omega, by omega, Hb02.out⟩
      case round =>
        obtain ⟨k, z, rfl, hk, hmem, hz, hz0, hz15, hb⟩ := hrel
        have hbw := Hb0.out.trans (hb.mono Hb0.out.size)
        obtain ⟨y0, y1, y2, y3, y4, y5, y6, y7, y8, -⟩ := FW.out _ hb
        by_cases hlt : k < ms.length
        · obtain ⟨g, o, rfl, -, z9⟩ := row_int (Hm.out.below hbw) k hlt
          have hkl : (k : Int) < (nm : Int) := by have := Hnm.out; omega
          obtain ⟨m1, m2⟩ := memC_take hlt hmem
          have hlast : (((0 : Int) :: ms.take (k + 1)).getLast (by simp)) = ms[k] := by
            have : (0 : Int) :: ms.take (k + 1) = ((0 : Int) :: ms.take k) ++ [ms[k]] := by rw [List.take_succ_eq_append_getElem hlt]; rfl
            simp only [this, List.getLast_append, List.getLast_singleton]
            simp
          have Hb := Lib.hid hb
          have Hbw := Lib.hid hbw
          have Hlt := Lib.hid hlt
          rcases Nat.eq_zero_or_pos k with hk0 | hk0
          · subst hk0
            have hz' : z = 0 := by rw [← hz]; rfl
            subst hz'
            rw [hz] at m1 m2
            generalize ms[0] = x at *
            rw [Nat.add_zero] at z9
            have hkl0 : (0 : Int) < (nm : Int) := by omega
            obtain ⟨t1, h1⟩ : ∃ t1, inB x 1 15 = t1 := ⟨_, rfl⟩
            rw [show ((0 : Int) + 1) = 1 from rfl, h1] at m1 m2
            have H1 := Lib.hid h1
            have Hlast := Lib.hid hlast
            have M1 := Lib.hid m1
            have hx := fun h => (inB_iff.1 (h1.trans h))
            cases t1
            · have ht2 : t = false := by rw [← Htm.out]; unfold membersB; rw [m2 rfl]; rfl
              subst ht2
              clear h1 m1 m2 hlast hmem hz hb hbw hx hlt
              go_wp2_with fail
              refine wp_drew_tail 24 (by kernel_rfl) (by kernel_rfl) ?_
              simp only [List.take_succ_cons, List.take_zero, List.drop_succ_cons, List.drop_zero]
              repeat (go_big_quiet_step (exact rin_q x 1 15 _ _ H1.out))
              refine wpQuiet_nil ?_
              rintro w9 ⟨dq, rfl⟩
              go_wp2
              go_ret
              exact ⟨rfl, below_drewN Hbw.out dq⟩
            · obtain ⟨hx1, hx2⟩ := hx rfl
              clear h1 m1 m2 hlast hmem hz hb hbw hlt hx
              go_wp2_with fail
              refine wp_drew_tail 24 (by kernel_rfl) (by kernel_rfl) ?_
              simp only [List.take_succ_cons, List.take_zero, List.drop_succ_cons, List.drop_zero]
              repeat (go_big_quiet_step (exact rin_q x 1 15 _ _ H1.out))
              refine wpQuiet_nil ?_
              rintro w9 ⟨dq, rfl⟩
              go_wp2
              go_roundw
              case measure => have := Hlt.out; simp [intOf]; omega
              case rel => exact ⟨0 + 1, x, by go_num, Hlt.out, M1.out, Hlast.out, by omega, by omega, below_drewN Hb.out dq⟩
          · obtain ⟨j, hj⟩ : ∃ j, k = j + 1 := ⟨k - 1, by omega⟩
            have hjl : j < ms.length := by omega
            obtain ⟨g', o', e', -, z8'⟩ := row_int (Hm.out.below hbw) j hjl
            injection e' with e'
            injection e' with e1 e2
            subst e1 e2
            have hzj : ms[j] = z := by
              subst hj
              rw [← hz]
              have : (0 : Int) :: ms.take (j + 1) = ((0 : Int) :: ms.take j) ++ [ms[j]] := by rw [List.take_succ_eq_append_getElem hjl]; rfl
              simp only [this, List.getLast_append, List.getLast_singleton]
              simp
            rw [hzj] at z8'
            rw [hz] at m1 m2
            generalize ms[k] = x at *
            obtain ⟨t1, h1⟩ : ∃ t1, inB x 1 15 = t1 := ⟨_, rfl⟩
            have H1 := Lib.hid h1
            have Hlast := Lib.hid hlast
            have M1 := Lib.hid m1
            have M2 := Lib.hid m2
            have h1' := h1
            have hx := fun h => (inB_iff.1 (h1.trans h))
            have g0 : (0 : Int) < (k : Int) := by omega
            have g2 : (j : Int) < (nm : Int) := by omega
            have g3 : (k : Int) - 1 = (j : Int) := by omega
            have Hj := Lib.hid hj
            clear hj
            cases t1
            · have hf : inB x (z + 1) 15 = false := by
                cases hc : inB x (z + 1) 15 with
                | false => rfl
                | true => have := inB_iff.1 hc; rw [show inB x 1 15 = true from inB_iff.2 ⟨by omega, by omega⟩] at h1; cases h1
              have ht2 : t = false := by rw [← Htm.out]; unfold membersB; rw [M2.out hf]; rfl
              subst ht2
              clear h1 h1' m1 m2 hlast hmem hz hb hbw hx hlt hjl hzj hf
              go_wp2_with fail
              refine wp_drew_tail 24 (by kernel_rfl) (by kernel_rfl) ?_
              simp only [List.take_succ_cons, List.take_zero, List.drop_succ_cons, List.drop_zero]
              repeat (go_big_quiet_step (exact rin_q x 1 15 _ _ H1.out))
              refine wpQuiet_nil ?_
              rintro w9 ⟨dq, rfl⟩
              go_wp2
              go_ret
              exact ⟨rfl, below_drewN Hbw.out dq⟩
            · obtain ⟨hx1, hx2⟩ := hx rfl
              by_cases hxz : x ≤ z
              · have hf : inB x (z + 1) 15 = false := by
                  cases hc : inB x (z + 1) 15 with
                  | false => rfl
                  | true => have := inB_iff.1 hc; omega
                have ht2 : t = false := by rw [← Htm.out]; unfold membersB; rw [M2.out hf]; rfl
                subst ht2
                clear h1 h1' m1 m2 hlast hmem hz hb hbw hx hlt hjl hzj hf
                go_wp2_with fail
                refine wp_drew_tail 24 (by kernel_rfl) (by kernel_rfl) ?_
                simp only [List.take_succ_cons, List.take_zero, List.drop_succ_cons, List.drop_zero]
                repeat (go_big_quiet_step (exact rin_q x 1 15 _ _ H1.out))
                refine wpQuiet_nil ?_
                rintro w9 ⟨dq, rfl⟩
                go_wp2
                go_ret
                exact ⟨rfl, below_drewN Hbw.out dq⟩
              · have hf : inB x (z + 1) 15 = true := inB_iff.2 ⟨by omega, by omega⟩
                have M1 := Lib.hid (M1.out.trans hf)
                have Hxz := Lib.hid hxz
                have hd : decide (x ≤ z) = false := decide_eq_false hxz
                clear h1 h1' m1 m2 hlast hmem hz hb hbw hx hlt hjl hzj hf hxz
                go_upto_region 18 with fail
                go_cut [119] (fun v wx => v = .bool false ∧ Below w0.heap.size w0 wx)
                case first =>
                  refine wp_drew_tail 24 (by kernel_rfl) (by kernel_rfl) ?_
                  simp only [List.take_succ_cons, List.take_zero, List.drop_succ_cons, List.drop_zero]
                  repeat (go_big_quiet_step (exact rin_q x 1 15 _ _ H1.out))
                  refine wpQuiet_nil ?_
                  rintro w9 ⟨dq, rfl⟩
                  go_wp2_with fail
                  go_meet
                  case rel => exact ⟨rfl, below_drewN Hb.out dq⟩
                case rest =>
                  obtain ⟨rfl, hbx⟩ := hcut
                  have Hbx := Lib.hid hbx
                  clear hbx
                  go_wp2
                  go_roundw
                  case measure => have := Hlt.out; simp [intOf]; omega
                  case rel => exact ⟨k + 1, x, by go_num, Hlt.out, M1.out, Hlast.out, by omega, by omega, Hbx.out⟩
        · have hkk : k = ms.length := by omega
          have hkl : ¬ (k : Int) < (nm : Int) := by have := Hnm.out; omega
          have ht2 : t = true := by
            rw [← Htm.out]
            unfold membersB
            rw [hkk, List.take_length] at hmem
            rw [hmem, Bool.true_and]
            exact decide_eq_true (by have := Hnm.out; omega)
          subst ht2
          have Hbw := Lib.hid hbw
          clear hb hmem hkk hbw hz
          go_wp2
          go_ret
          exact ⟨rfl, Hbw.out⟩

end Go.Proofs.YtpfjgecdlilkcaaGreat

/-
  Layer 20: which descriptions count, and the cost of an edge: the document's way.
-/
namespace Go.Proofs.YtpfjgecdlilkcaaGreat
open Go.RowKit Go.Sort

def encO : Option Int → Int
  | none => -1
  | some c => c
def linkS (n : Int) (ys : List Lnk) : List Int := ys.filterMap fun y => if y.kind = 2 ∧ y.id = n then some y.cost else none
def rowS (r n : Int) (T : List VX) (ys : List Lnk) : List Int := T.flatMap fun z => if isNet n z = true ∧ r ∈ z.2.2 then linkS n ys else []
def refS (C : List VX) (r n : Int) (T : List VX) : List Int := T.flatMap fun x => if x.1.kind = 1 ∧ x.1.adv = r then rowS r n C x.2.1 else []
theorem linkS_more (n : Int) {ys : List Lnk} {j : Nat} (hj : j < ys.length) : linkS n (ys.take (j + 1)) = linkS n (ys.take j) ++ if ys[j].kind = 2 ∧ ys[j].id = n then [ys[j].cost] else [] := by
  unfold linkS
  rw [List.take_succ_eq_append_getElem hj, List.filterMap_append]
  congr 1
  by_cases h : ys[j].kind = 2 ∧ ys[j].id = n <;> simp [h]
theorem rowS_more (r n : Int) (ys : List Lnk) {T : List VX} {k : Nat} (hk : k < T.length) : rowS r n (T.take (k + 1)) ys = rowS r n (T.take k) ys ++ if isNet n T[k] = true ∧ r ∈ T[k].2.2 then linkS n ys else [] := by
  unfold rowS
  rw [List.take_succ_eq_append_getElem hk, List.flatMap_append, List.flatMap_singleton]
theorem refS_more (C : List VX) (r n : Int) {T : List VX} {k : Nat} (hk : k < T.length) : refS C r n (T.take (k + 1)) = refS C r n (T.take k) ++ if T[k].1.kind = 1 ∧ T[k].1.adv = r then rowS r n C T[k].2.1 else [] := by
  unfold refS
  rw [List.take_succ_eq_append_getElem hk, List.flatMap_append, List.flatMap_singleton]
theorem mem_linkS {n c : Int} {ys : List Lnk} : c ∈ linkS n ys ↔ ∃ y ∈ ys, y.kind = 2 ∧ y.id = n ∧ y.cost = c := by
  unfold linkS
  rw [List.mem_filterMap]
  constructor
  · rintro ⟨y, hy, he⟩
    split at he
    · rename_i h
      injection he with he
      exact ⟨y, hy, h.1, h.2, he⟩
    · cases he
  · rintro ⟨y, hy, h1, h2, h3⟩
    exact ⟨y, hy, by rw [if_pos ⟨h1, h2⟩, h3]⟩
theorem refS_best {C : List VX} (h : CntOk C) (r n : Int) : bestL (refS C r n C) = costC C r n := by
  refine bestL_ext fun c => ?_
  rw [mem_cand h]
  unfold refS rowS
  rw [List.mem_flatMap]
  constructor
  · rintro ⟨x, hx, hm⟩
    split at hm
    · rename_i h1
      obtain ⟨z, hz, hm⟩ := List.mem_flatMap.1 hm
      split at hm
      · rename_i h2
        obtain ⟨y, hy, g1, g2, g3⟩ := mem_linkS.1 hm
        exact ⟨x, hx, z, hz, y, hy, h1.2, g1, g2, g3, h2.1, h2.2⟩
      · cases hm
    · cases hm
  · rintro ⟨x, hx, z, hz, y, hy, g1, g2, g3, g4, g5, g6⟩
    have hk := (cnt_links (h.each x hx) hy).1
    refine ⟨x, hx, ?_⟩
    rw [if_pos ⟨hk, g1⟩, List.mem_flatMap]
    exact ⟨z, hz, by rw [if_pos ⟨g5, g6⟩]; exact mem_linkS.2 ⟨y, hy, g2, g3, g4⟩⟩
/-- the best so far, as the document holds it: costs are above none -/
structure BestAt (v : Value) (S : List Int) : Prop where
  val : v = .int .i64 (encO (bestL S))
  pos : ∀ c ∈ S, 1 ≤ c
theorem BestAt.nil : BestAt (.int .i64 (-1)) [] := ⟨rfl, by simp⟩
theorem best_cases {b : Int} {S : List Int} (h : BestAt (.int .i64 b) S) {c : Int} (hc : 1 ≤ c) : (b < 0 ∧ BestAt (.int .i64 c) (S ++ [c])) ∨ (¬ b < 0 ∧ c < b ∧ BestAt (.int .i64 c) (S ++ [c])) ∨ (¬ b < 0 ∧ ¬ c < b ∧ BestAt (.int .i64 b) (S ++ [c])) := by
  have hp : ∀ d ∈ S ++ [c], 1 ≤ d := fun d hd => by
    rcases List.mem_append.1 hd with hd | hd
    · exact h.pos d hd
    · rw [List.mem_singleton] at hd; omega
  have hv := h.val
  injection hv with _ hv
  cases hb : bestL S with
  | none =>
    rw [hb] at hv
    have hv : b = -1 := hv
    exact .inl ⟨by omega, ⟨by rw [bestL_snoc, hb]; rfl, hp⟩⟩
  | some m =>
    rw [hb] at hv
    have hv : b = m := hv
    have hm := h.pos m (bestL_some.1 hb).1
    by_cases hlt : c < b
    · exact .inr (.inl ⟨by omega, hlt, ⟨by rw [bestL_snoc, hb, minO, if_pos (by omega)]; rfl, hp⟩⟩)
    · exact .inr (.inr ⟨by omega, hlt, ⟨by rw [bestL_snoc, hb, minO, if_neg (by omega), hv]; rfl, hp⟩⟩)
theorem BestAt.shape {v : Value} {S : List Int} (h : BestAt v S) : ∃ b, v = .int .i64 b := ⟨_, h.val⟩

theorem row_lsaX {w : World} {B : Nat} {A : Option Addr} {l : List Lsa} (h : RowsAt 9 Lsa.cells w B A l) (k : Nat) (hk : k < l.length) {x : Lsa} (hx : l[k] = x) :
    ∃ b o, A = some ⟨b, o, none⟩ ∧ b < B ∧ w.cell? ⟨b, o + k * 9, none⟩ = some (.int .i64 x.head.age) ∧ w.cell? ⟨b, o + k * 9 + 1, none⟩ = some (.int .i64 x.head.kind) ∧ w.cell? ⟨b, o + k * 9 + 2, none⟩ = some (.int .i64 x.head.id) ∧ w.cell? ⟨b, o + k * 9 + 3, none⟩ = some (.int .i64 x.head.adv) ∧ w.cell? ⟨b, o + k * 9 + 4, none⟩ = some (.int .i64 x.head.seq) ∧ w.cell? ⟨b, o + k * 9 + 5, none⟩ = some (.int .i64 x.head.sum) ∧ w.cell? ⟨b, o + k * 9 + 6, none⟩ = some (.int .i64 x.head.long) ∧
      w.cell? ⟨b, o + k * 9 + 7, none⟩ = some (.slice x.ka x.links.length x.kcap) ∧ w.cell? ⟨b, o + k * 9 + 8, none⟩ = some (.slice x.ma x.members.length x.mcap) := by
  subst hx
  exact row_lsa9b h k hk

set_option maxHeartbeats 16000000 in
set_option maxRecDepth 100000 in
theorem refCost_any (A : Option Addr) (cap : Nat) (O : List Lsa) (r n : Int) (w : World) (hO : RowsAt 9 Lsa.cells w w.heap.size A O) (hr : ∀ x ∈ O, rowsX w x) (hln : ∀ x ∈ O, x.links.length ≤ 1000 ∧ x.members.length ≤ 1000) (hc : CntOk (O.map vX)) (hm : O.length ≤ 2 ^ 16) (nn : Nat) (hnn : nn = O.length) :
    Calls Tryz.prog 54 #[.slice A nn cap, .int .i64 r, .int .i64 n] w fun rr w' => rr = .returned (.int .i64 (encO (costC (O.map vX) r n))) ∧ Below w.heap.size w w' := by
  subst hnn
  have HO := Lib.hid hO
  have HR := Lib.hid hr
  have Hln := Lib.hid hln
  have Hc := Lib.hid hc
  have hm' : (O.length : Int) ≤ 9223372036854775807 := by omega
  clear hO hr hln hc
  go_enter Tryz.func54, Tryz.ntmps54
  go_wp2
  go_loopw [7, 8] (fun bv i wr => ∃ k : Nat, i = .int .i64 k ∧ k ≤ O.length ∧ BestAt bv (refS (O.map vX) r n ((O.map vX).take k)) ∧ Below w.heap.size w wr) (fun _ i _ => O.length - (intOf i).toNat)
  case atStart => exact ⟨0, rfl, Nat.zero_le _, BestAt.nil, Below.refl _ _⟩
  case round =>
    obtain ⟨k, rfl, hk, hbs, hb⟩ := hrel
    obtain ⟨bb, rfl⟩ := hbs.shape
    have HBs := Lib.hid hbs
    have Hb := Lib.hid hb
    by_cases hlt : k < O.length
    · obtain ⟨g, o, hA, -, x0, x1, x2, x3, x4, x5, x6, x7, x8⟩ := row_lsa9b (HO.out.below hb) k hlt
      have hkl : (k : Int) < (O.length : Int) := by omega
      have hmore := refS_more (O.map vX) r n (T := O.map vX) (k := k) (by simpa using hlt)
      rw [List.getElem_map] at hmore
      have hmem := List.getElem_mem hlt
      have HA := Lib.hid hA
      rw [hA]
      have Hlt := Lib.hid hlt
      generalize hx : O[k] = x at *
      have HX := Lib.hid hx
      obtain ⟨⟨y1, y2, y3, y4, y5, y6, y7⟩, ka, kc, ls, ma, mc, ms⟩ := x
      simp only at x0 x1 x2 x3 x4 x5 x6 x7 x8
      change refS (O.map vX) r n ((O.map vX).take (k + 1)) = refS (O.map vX) r n ((O.map vX).take k) ++ (if y2 = 1 ∧ y4 = r then rowS r n (O.map vX) ls else []) at hmore
      have Hmem := Lib.hid hmem
      have hcnt := Hc.out.each _ (List.mem_map_of_mem hmem)
      have Hcnt := Lib.hid hcnt
      obtain ⟨nl, hnl⟩ : ∃ nl, ls.length = nl := ⟨_, rfl⟩
      rw [hnl] at x7
      have Hnl := Lib.hid hnl
      have hnl3 : nl ≤ 1000 := by have := (Hln.out _ hmem).1; simp only at this; omega
      have hnl2 : (nl : Int) ≤ 1000 := by omega
      clear hA hx hmem hcnt hnl hbs hb hk hlt
      by_cases h1 : y2 = 1
      · by_cases h4 : y4 = r
        · rw [if_pos ⟨h1, h4⟩] at hmore
          have Hmore := Lib.hid hmore
          subst h1
          subst h4
          clear hmore
          go_wp2
          clear x0 x1 x2 x3 x4 x5 x6 x7 x8
          go_loopw [7, 9] (fun bv i wq => ∃ q : Nat, i = .int .i64 q ∧ q ≤ O.length ∧ BestAt bv (refS (O.map vX) y4 n ((O.map vX).take k) ++ rowS y4 n ((O.map vX).take q) ls) ∧ Below w.heap.size w wq) (fun _ i _ => O.length - (intOf i).toNat)
          case atStart => exact ⟨0, rfl, Nat.zero_le _, by simpa [rowS] using HBs.out, Hb.out⟩
          case round =>
            obtain ⟨q, rfl, hq, hbs, hb⟩ := hrel
            obtain ⟨bb, rfl⟩ := hbs.shape
            clear HBs Hb
            have HBs := Lib.hid hbs
            have Hb := Lib.hid hb
            by_cases hql : q < O.length
            · obtain ⟨g2, o2, hA2, -, v0, v1, v2, v3, v4, v5, v6, v7, v8⟩ := row_lsa9b (HO.out.below hb) q hql
              have hA2' := hA2.symm.trans HA.out
              injection hA2' with hA2'
              injection hA2' with e1 e2
              subst e1 e2
              have hqk : (q : Int) < (O.length : Int) := by omega
              have hmq := rowS_more y4 n ls (T := O.map vX) (k := q) (by simpa using hql)
              rw [List.getElem_map] at hmq
              have hmem2 := List.getElem_mem hql
              have Hql := Lib.hid hql
              generalize O[q] = z at *
              obtain ⟨⟨u1, u2, u3, u4, u5, u6, u7⟩, kb, kd, lt, mb, md, mt⟩ := z
              have hrm := (HR.out _ hmem2).2
              have hlm := (Hln.out _ hmem2).2
              simp only at v0 v1 v2 v3 v4 v5 v6 v7 v8 hrm hlm
              change rowS y4 n ((O.map vX).take (q + 1)) ls = rowS y4 n ((O.map vX).take q) ls ++ (if isNet n (⟨u1, u2, u3, u4, u5, u6, u7⟩, lt, mt) = true ∧ y4 ∈ mt then linkS n ls else []) at hmq
              obtain ⟨nt, hnt⟩ : ∃ nt, nt = mt.length := ⟨_, rfl⟩
              rw [← hnt] at v8
              obtain ⟨S, hS⟩ : ∃ S, refS (O.map vX) y4 n ((O.map vX).take k) ++ rowS y4 n ((O.map vX).take q) ls = S := ⟨_, rfl⟩
              have hmq2 : refS (O.map vX) y4 n ((O.map vX).take k) ++ rowS y4 n ((O.map vX).take (q + 1)) ls = S ++ (if isNet n (⟨u1, u2, u3, u4, u5, u6, u7⟩, lt, mt) = true ∧ y4 ∈ mt then linkS n ls else []) := by rw [hmq, ← hS, List.append_assoc]
              rw [hS] at hbs
              have HBs2 := Lib.hid hbs
              have HHas := Lib.hid (fun t ht => hasI20 mb md mt y4 wr wr.heap.size (rows_keep hrm Hb.out) (Nat.le_refl _) (by omega) nt hnt (t := t) ht)
              clear hA2 hmq hmem2 hrm hlm hnt hS hbs hb hq hql HBs
              have hno : ∀ (P : ¬ (isNet n (⟨u1, u2, u3, u4, u5, u6, u7⟩, lt, mt) = true ∧ y4 ∈ mt)), BestAt (.int .i64 bb) (refS (O.map vX) y4 n ((O.map vX).take k) ++ rowS y4 n ((O.map vX).take (q + 1)) ls) := fun P => by
                rw [hmq2, if_neg P, List.append_nil]; exact HBs2.out
              have Hno := Lib.hid hno
              have Hmq := Lib.hid hmq2
              clear hno hmq2
              by_cases h2 : u2 = 2
              · by_cases h3 : u3 = n
                · obtain ⟨t, ht⟩ : ∃ t, decide (y4 ∈ mt) = t := ⟨_, rfl⟩
                  have HH := Lib.hid (HHas.out t ht)
                  cases t with
                  | false =>
                    have HN := Lib.hid (Hno.out (fun P => of_decide_eq_false ht P.2))
                    clear ht
                    subst h2
                    subst h3
                    go_wp2_with (go_at_call 72; (with_reducible refine Calls.mono HH.out ?_); rintro r wx ⟨rfl, rfl⟩)
                    go_roundw
                    case measure => have := Hql.out; simp [intOf]; omega
                    case rel => exact ⟨q + 1, by go_num, Hql.out, HN.out, Hb.out⟩
                  | true =>
                    have hyes : isNet n (⟨u1, u2, u3, u4, u5, u6, u7⟩, lt, mt) = true ∧ y4 ∈ mt := ⟨by simp [isNet, h2, h3], of_decide_eq_true ht⟩
                    have hmq3 := Hmq.out
                    rw [if_pos hyes] at hmq3
                    have Hmq3 := Lib.hid hmq3
                    clear ht hyes hmq3
                    subst h2
                    subst h3
                    go_wp2_with (go_at_call 72; (with_reducible refine Calls.mono HH.out ?_); rintro r wx ⟨rfl, rfl⟩)
                    clear v0 v1 v2 v3 v4 v5 v6 v7 v8
                    go_loopw [7, 10] (fun bv i wy => ∃ j : Nat, i = .int .i64 j ∧ j ≤ nl ∧ BestAt bv (S ++ linkS u3 (ls.take j)) ∧ Below w.heap.size w wy) (fun _ i _ => nl - (intOf i).toNat)
                    case atStart => exact ⟨0, rfl, Nat.zero_le _, by simpa [linkS] using HBs2.out, Hb.out⟩
                    case round =>
                      obtain ⟨j, rfl, hj, hbs, hb⟩ := hrel
                      obtain ⟨bb, rfl⟩ := hbs.shape
                      clear Hb HBs2
                      have HBs := Lib.hid hbs
                      have Hb := Lib.hid hb
                      obtain ⟨g3, o3, hA3, -, x0, x1, x2, x3, x4, x5, x6, x7, x8⟩ := row_lsaX (HO.out.below hb) k Hlt.out HX.out
                      have hA3' := hA3.symm.trans HA.out
                      injection hA3' with hA3'
                      injection hA3' with e1 e2
                      subst e1 e2
                      simp only at x0 x1 x2 x3 x4 x5 x6 x7 x8
                      rw [Hnl.out] at x7
                      by_cases hjl : j < nl
                      · have hjl2 : j < ls.length := by have := Hnl.out; omega
                        obtain ⟨g', o', hA', -, t0, t1, t2, t3⟩ := row_lnk (rows_keep (HR.out _ Hmem.out).1 hb) j hjl2
                        simp only at hA'
                        have hjk : (j : Int) < (nl : Int) := by omega
                        have hmj := linkS_more u3 hjl2
                        have hyl := cnt_links Hcnt.out (y := ls[j]'hjl2) (List.getElem_mem hjl2)
                        rw [hA'] at x7
                        have Hjl := Lib.hid hjl
                        simp only at t0 t1 t2 t3
                        generalize ls[j]'hjl2 = y at *
                        obtain ⟨e1, e2, e3, e4⟩ := y
                        simp only at t0 t1 t2 t3 hmj hyl
                        have hmj2 : S ++ linkS u3 (ls.take (j + 1)) = S ++ linkS u3 (ls.take j) ++ (if e1 = 2 ∧ e2 = u3 then [e4] else []) := by rw [hmj, List.append_assoc]
                        have Hmj := Lib.hid hmj2
                        have hno : ¬ (e1 = 2 ∧ e2 = u3) → BestAt (.int .i64 bb) (S ++ linkS u3 (ls.take (j + 1))) := fun P => by rw [hmj2, if_neg P, List.append_nil]; exact hbs
                        have Hno2 := Lib.hid hno
                        have hbc := best_cases hbs hyl.2.2.2.1
                        have Hal := Lib.hid (fun o => hb.alloc hb.size o)
                        clear hA3 hA' hjl hjl2 hmj hmj2 hno hbs hb hj hyl
                        by_cases f1 : e1 = 2
                        · by_cases f2 : e2 = u3
                          · have hmj3 := Hmj.out
                            rw [if_pos ⟨f1, f2⟩] at hmj3
                            have Hmj3 := Lib.hid hmj3
                            clear hmj3
                            subst f1
                            subst f2
                            rcases hbc with ⟨c1, hB⟩ | ⟨c1, c2, hB⟩ | ⟨c1, c2, hB⟩
                            all_goals
                              have HB := Lib.hid hB
                              clear hB
                              go_wp2
                              go_roundw
                              case measure => have := Hjl.out; simp [intOf]; omega
                              case rel => exact ⟨j + 1, by go_num, Hjl.out, by rw [Hmj3.out]; exact HB.out, Hal.out _⟩
                          · have HN := Lib.hid (Hno2.out (fun P => f2 P.2))
                            clear hbc
                            subst f1
                            go_wp2
                            go_roundw
                            case measure => have := Hjl.out; simp [intOf]; omega
                            case rel => exact ⟨j + 1, by go_num, Hjl.out, HN.out, Hal.out _⟩
                        · have HN := Lib.hid (Hno2.out (fun P => f1 P.1))
                          clear hbc
                          go_wp2
                          go_roundw
                          case measure => have := Hjl.out; simp [intOf]; omega
                          case rel => exact ⟨j + 1, by go_num, Hjl.out, HN.out, Hal.out _⟩
                      · have hje : j = nl := by omega
                        subst hje
                        have hls2 : ls.take ls.length = ls := List.take_length
                        have hbs2 : BestAt (.int .i64 bb) (refS (O.map vX) y4 u3 ((O.map vX).take k) ++ rowS y4 u3 ((O.map vX).take (q + 1)) ls) := by
                          rw [Hmq3.out]
                          rw [← Hnl.out, hls2] at hbs
                          exact hbs
                        have HBs3 := Lib.hid hbs2
                        have hjk : ¬ (j : Int) < (j : Int) := by omega
                        clear hA3 hjl hbs hb hbs2 hls2 hj
                        go_wp2
                        go_roundw
                        case measure => have := Hql.out; simp [intOf]; omega
                        case rel => exact ⟨q + 1, by go_num, Hql.out, HBs3.out, Hb.out⟩
                · have HN := Lib.hid (Hno.out (fun P => by simp [isNet, h3] at P))
                  subst h2
                  go_wp2
                  go_roundw
                  case measure => have := Hql.out; simp [intOf]; omega
                  case rel => exact ⟨q + 1, by go_num, Hql.out, HN.out, Hb.out⟩
              · have HN := Lib.hid (Hno.out (fun P => by simp [isNet, h2] at P))
                go_wp2
                go_roundw
                case measure => have := Hql.out; simp [intOf]; omega
                case rel => exact ⟨q + 1, by go_num, Hql.out, HN.out, Hb.out⟩
            · have hqe : q = O.length := by omega
              subst hqe
              have hqk : ¬ (O.length : Int) < (O.length : Int) := by omega
              have hbs2 : BestAt (.int .i64 bb) (refS (O.map vX) y4 n ((O.map vX).take (k + 1))) := by
                rw [Hmore.out]
                rw [show (O.map vX).take O.length = O.map vX from by rw [← List.length_map (f := vX), List.take_length]] at hbs
                exact hbs
              have HBs3 := Lib.hid hbs2
              clear hql hbs hb hbs2 hq
              go_wp2
              go_roundw
              case measure => have := Hlt.out; simp [intOf]; omega
              case rel => exact ⟨k + 1, by go_num, Hlt.out, HBs3.out, Hb.out⟩
        · rw [if_neg (fun P => h4 P.2), List.append_nil] at hmore
          have Hmore := Lib.hid hmore
          subst h1
          clear hmore
          go_wp2
          go_roundw
          case measure => have := Hlt.out; simp [intOf]; omega
          case rel => exact ⟨k + 1, by go_num, Hlt.out, by rw [Hmore.out]; exact HBs.out, Hb.out⟩
      · rw [if_neg (fun P => h1 P.1), List.append_nil] at hmore
        have Hmore := Lib.hid hmore
        clear hmore
        go_wp2
        go_roundw
        case measure => have := Hlt.out; simp [intOf]; omega
        case rel => exact ⟨k + 1, by go_num, Hlt.out, by rw [Hmore.out]; exact HBs.out, Hb.out⟩
    · have hke : k = O.length := by omega
      subst hke
      have hkl : ¬ (O.length : Int) < (O.length : Int) := by omega
      have hv := hbs.val
      rw [show (O.map vX).take O.length = O.map vX from by rw [← List.length_map (f := vX), List.take_length], refS_best Hc.out] at hv
      injection hv with _ hv
      have Hv := Lib.hid hv
      clear hlt hbs hb hk hv
      go_wp2
      go_ret
      exact ⟨by rw [← Hv.out]; rfl, Hb.out⟩

end Go.Proofs.YtpfjgecdlilkcaaGreat

/-
  Layer 20: which descriptions count: the document's way.
-/
namespace Go.Proofs.YtpfjgecdlilkcaaGreat
open Go.RowKit Go.Sort

theorem eqKey20 (a b c a' b' c' : Int) (w : World) : (Op.equalIn 10000 80 (.agg #[.int .i64 a, .int .i64 b, .int .i64 c]) (.agg #[.int .i64 a', .int .i64 b', .int .i64 c'])).run Tryz.prog w = .ok (decide ((⟨a, b, c⟩ : K3) = ⟨a', b', c'⟩)) w := by
  rw [eqKey]
  congr 1
  by_cases h1 : a = a' <;> by_cases h2 : b = b' <;> by_cases h3 : c = c' <;> simp [h1, h2, h3]
theorem hasV_more {C : List VX} {i : Nat} (hi : i < C.length) (k : K3) : hasV (C.take (i + 1)) k = (hasV (C.take i) k || decide (keyV C[i] = k)) := by
  unfold hasV
  rw [List.take_succ_eq_append_getElem hi, List.any_append]
  simp
/-- what lies in memory behind so many rounds -/
structure RcSt (w wr : World) (l : List Lsa) (k : Nat) (v : Value) (O : List Lsa) : Prop where
  is : O.map vX = countsV ((l.take k).map vX)
  xs : XsAt wr 0 v O
  new : ∀ m, v.ownBlock = some m → w.heap.size ≤ m
  bel : Below w.heap.size w wr
theorem RcSt.keep {w wr wr' : World} {l : List Lsa} {k : Nat} {v : Value} {O : List Lsa} (h : RcSt w wr l k v O) (hb : Below wr.heap.size wr wr') : RcSt w wr' l k v O := ⟨h.is, h.xs.keep hb, h.new, below_trans h.bel h.bel.size hb⟩
theorem tmod16 (x : Int) (h : 0 ≤ x) : Int.tmod x 16 = x % 16 := Int.tmod_eq_emod_of_nonneg h
set_option maxHeartbeats 16000000 in
set_option maxRecDepth 100000 in
theorem refCounts_any (A : Option Addr) (cap : Nat) (l : List Lsa) (w : World) (hl : RowsAt 9 Lsa.cells w w.heap.size A l) (he : ∀ x ∈ l, RowsAt 4 Lnk.cells w w.heap.size x.ka x.links ∧ RowsAt 1 icell w w.heap.size x.ma x.members) (hlens : ∀ x ∈ l, x.links.length ≤ 1000 ∧ x.members.length ≤ 1000) (hm : l.length ≤ 2 ^ 16) (nn : Nat) (hnn : nn = l.length) :
    Calls Tryz.prog 14 #[.slice A nn cap] w fun r w' => (∃ v, r = .returned v ∧ ∃ O, XsAt w' 0 v O ∧ O.map vX = countsV (l.map vX)) ∧ Below w.heap.size w w' := by
  subst hnn
  have HL := Lib.hid hl
  have HE := Lib.hid he
  have Hlens := Lib.hid hlens
  have hm' : (l.length : Int) ≤ 9223372036854775807 := by omega
  clear hl he hlens
  go_enter Tryz.func14, Tryz.ntmps14
  go_wp2
  go_loopw [3, 4] (fun v i wr => ∃ (k : Nat) (O : List Lsa), i = .int .i64 k ∧ k ≤ l.length ∧ RcSt w wr l k v O) (fun _ i _ => l.length - (intOf i).toNat)
  case atStart => exact ⟨0, [], rfl, Nat.zero_le _, ⟨rfl, XsAt.nil _ _, (by intro m e; cases e), Below.refl _ _⟩⟩
  case round =>
    obtain ⟨k, O, rfl, hk, hst⟩ := hrel
    obtain ⟨A7, c7, hv7⟩ := hst.xs.own.shape
    subst hv7
    have HSt := Lib.hid hst
    by_cases hlt : k < l.length
    · obtain ⟨g, o, hA, -, x0, x1, x2, x3, x4, x5, x6, x7, x8⟩ := row_lsa9b (HL.out.below hst.bel) k hlt
      have hok := HE.out l[k] (List.getElem_mem hlt)
      have hln := Hlens.out l[k] (List.getElem_mem hlt)
      have hkl : (k : Int) < (l.length : Int) := by omega
      have hno := cnt_no hlt hst.is
      have hyes := fun x => cnt_yes (x := x) hlt hst.is
      have hOl : O.length ≤ 2 ^ 20 := by
        have h1 := congrArg List.length hst.is
        have h2 := countsV_len ((l.take k).map vX)
        rw [List.length_map] at h1 h2
        rw [List.length_take] at h2
        omega
      have HA := Lib.hid hA
      rw [hA]
      have Hlt := Lib.hid hlt
      generalize l[k] = x at *
      obtain ⟨⟨y1, y2, y3, y4, y5, y6, y7⟩, ka, kc, ls, ma, mc, ms⟩ := x
      have hls := hok.1
      have hms := hok.2
      simp only at x0 x1 x2 x3 x4 x5 x6 x7 x8 hln hls hms
      change cntV (⟨y1, y2, y3, y4, y5, y6, y7⟩, ls, ms) = false ∨ hasV (O.map vX) ⟨y2, y3, y4⟩ = true → _ at hno
      change ∀ x, vX x = (⟨y1, y2, y3, y4, y5, y6, y7⟩, ls, ms) → cntV (⟨y1, y2, y3, y4, y5, y6, y7⟩, ls, ms) = true → hasV (O.map vX) ⟨y2, y3, y4⟩ = false → _ at hyes
      obtain ⟨nl, hnl⟩ : ∃ nl, nl = ls.length := ⟨_, rfl⟩
      obtain ⟨nm, hnm⟩ : ∃ nm, nm = ms.length := ⟨_, rfl⟩
      rw [← hnl] at x7
      rw [← hnm] at x8
      have hcs := cnt_split ⟨y1, y2, y3, y4, y5, y6, y7⟩ ka kc ls ma mc ms
      have Hnl := Lib.hid (show nl = ls.length ∧ ls.length ≤ 1000 from ⟨hnl, hln.1⟩)
      have Hnm := Lib.hid (show nm = ms.length ∧ ms.length ≤ 1000 from ⟨hnm, hln.2⟩)
      have Hno := Lib.hid hno
      have Hyes := Lib.hid hyes
      have HOl := Lib.hid hOl
      have HL9 := Lib.hid hls
      have HM9 := Lib.hid hms
      obtain ⟨w8, hw8⟩ : ∃ w8, wr.alloc (.cells #[.int .i64 y1, .int .i64 y2, .int .i64 y3, .int .i64 y4, .int .i64 y5, .int .i64 y6, .int .i64 y7, .slice ka nl kc, .slice ma nm mc] 41) = w8 := ⟨_, rfl⟩
      obtain ⟨g8, hg8⟩ : ∃ g8, wr.heap.size = g8 := ⟨_, rfl⟩
      have hk8 := Blk.new wr 41 #[.int .i64 y1, .int .i64 y2, .int .i64 y3, .int .i64 y4, .int .i64 y5, .int .i64 y6, .int .i64 y7, .slice ka nl kc, .slice ma nm mc]
      have hb8 := below_new wr (.cells #[.int .i64 y1, .int .i64 y2, .int .i64 y3, .int .i64 y4, .int .i64 y5, .int .i64 y6, .int .i64 y7, .slice ka nl kc, .slice ma nm mc] 41)
      rw [hw8, hg8] at hk8
      rw [hw8] at hb8
      have K8 := Lib.hid hk8
      have S8 := Lib.hid (hst.keep hb8)
      obtain ⟨z0, z1, z2, z3, z4, z5, z6, z7, z8, zf⟩ := blk9 hk8
      have HR := Lib.hid (fun t ht => refRight_any y1 y2 y3 y4 y5 y6 y7 ka kc ls ma mc ms w8 w.heap.size (HL9.out.below S8.out.bel) (HM9.out.below S8.out.bel) S8.out.bel.size (by have := Hnl.out.2; unfold maxLen; omega) (by have := Hnm.out.2; unfold maxLen; omega) nl nm Hnl.out.1 Hnm.out.1 (t := t) ht)
      clear hnl hnm hA hlt hk8 hb8 hk hst hok hln hls hms hno hyes hOl
      rcases hcs with ⟨hr, hc⟩ | ⟨hr, hcs⟩
      · have HR2 := Lib.hid (HR.out false hr)
        have Hn := Lib.hid (Hno.out (.inl hc))
        clear hr hc
        go_wp2_with fail
        with_reducible refine Calls.mono HR2.out ?_
        rintro r w10 ⟨rfl, hb10⟩
        have HS := Lib.hid (S8.out.keep hb10)
        clear hb10 z0 z1 z2 z3 z4 z5 z6 z7 z8 zf x0 x1 x2 x3 x4 x5 x6 x7 x8
        go_wp2
        go_roundw
        case measure => have := Hlt.out; simp [intOf]; omega
        case rel => exact ⟨k + 1, O, by go_num, Hlt.out, ⟨Hn.out, HS.out.xs, HS.out.new, HS.out.bel⟩⟩
      · have HR2 := Lib.hid (HR.out true hr)
        have Hr2 := Lib.hid hr
        clear hr
        go_wp2_with fail
        with_reducible refine Calls.mono HR2.out ?_
        rintro r wc ⟨rfl, hb10⟩
        have Kc := Lib.hid (K8.out.below hb10 K8.out.lt)
        have Sc := Lib.hid (S8.out.keep hb10)
        have HSk := Lib.hid (fun (h : cntV (⟨y1, y2, y3, y4, y5, y6, y7⟩, ls, ms) = false) => (show RcSt w wc l (k + 1) _ O from ⟨Hno.out (.inl h), Sc.out.xs, Sc.out.new, Sc.out.bel⟩))
        clear hb10 z0 z1 z2 z3 z4 z5 z6 z7 z8 zf x0 x1 x2 x3 x4 x5 x6 x7 x8
        obtain ⟨z0, z1, z2, z3, z4, z5, z6, z7, z8, zf⟩ := blk9 Kc.out
        have hor : (y1 = 60 ∧ cntV (⟨y1, y2, y3, y4, y5, y6, y7⟩, ls, ms) = false) ∨ (y1 ≠ 60 ∧ ((y2 = 2 ∧ ¬ y3 % 16 = y4 ∧ cntV (⟨y1, y2, y3, y4, y5, y6, y7⟩, ls, ms) = false) ∨ (¬ y2 = 2 ∧ cntV (⟨y1, y2, y3, y4, y5, y6, y7⟩, ls, ms) = true) ∨ (y2 = 2 ∧ y3 % 16 = y4 ∧ cntV (⟨y1, y2, y3, y4, y5, y6, y7⟩, ls, ms) = true))) := hcs
        clear hcs
        rcases hor with ⟨h60, hc⟩ | ⟨h60, ⟨h2, h3, hc⟩ | hor⟩
        · have HS := Lib.hid (HSk.out hc)
          subst h60
          clear hc
          go_wp2
          go_roundw
          case measure => have := Hlt.out; simp [intOf]; omega
          case rel => exact ⟨k + 1, O, by go_num, Hlt.out, HS.out⟩
        · have HS := Lib.hid (HSk.out hc)
          have hb3 : (Int.tmod y3 16 != y4) = true := by
            have hid := right_id Hr2.out h2
            rw [tmod16 y3 hid.1]
            simpa using h3
          subst h2
          clear hc
          go_wp2
          go_roundw
          case measure => have := Hlt.out; simp [intOf]; omega
          case rel => exact ⟨k + 1, O, by go_num, Hlt.out, HS.out⟩
        · have hc : cntV (⟨y1, y2, y3, y4, y5, y6, y7⟩, ls, ms) = true := hor.elim (fun h => h.2) (fun h => h.2.2)
          have Hc := Lib.hid hc
          have hmod : y2 = 2 → Int.tmod y3 16 = y4 := fun h2 => by
            have hid := right_id Hr2.out h2
            rw [tmod16 y3 hid.1]
            exact hor.elim (fun h => absurd h2 h.1) (fun h => h.2.1)
          clear hor hc
          have hOl2 : (O.length : Int) ≤ 1048576 := by have := HOl.out; omega
          by_cases h2 : y2 = 2
          · subst h2
            have hmod2 := hmod rfl
            clear hmod
            go_wp2
            go_loopw [6, 7] (fun d i wx => ∃ (q : Nat), i = .int .i64 q ∧ d = .bool (hasV ((O.map vX).take q) ⟨2, y3, y4⟩) ∧ q ≤ O.length ∧ RcSt w wx l k (.slice A7 O.length c7) O ∧ Blk wx g8 41 #[.int .i64 y1, .int .i64 2, .int .i64 y3, .int .i64 y4, .int .i64 y5, .int .i64 y6, .int .i64 y7, .slice ka nl kc, .slice ma nm mc]) (fun _ i _ => O.length - (intOf i).toNat)
            case atStart => exact ⟨0, rfl, rfl, Nat.zero_le _, Sc.out, Kc.out⟩
            case round =>
              obtain ⟨q, rfl, rfl, hq, hsi, hki⟩ := hrel
              have Hsi := Lib.hid hsi
              have Hki := Lib.hid hki
              clear z0 z1 z2 z3 z4 z5 z6 z7 z8 zf
              by_cases hql : q < O.length
              · have hqk : (q : Int) < (O.length : Int) := by omega
                obtain ⟨g7, c9, hv9, e0, e1, e2, e3, e4, e5, e6, -, -⟩ := row_at hsi.xs.own q hql
                injection hv9 with hA9 hn9 hc9
                subst hA9 hc9
                have hmv := hasV_more (C := O.map vX) (i := q) (by simpa using hql) ⟨2, y3, y4⟩
                rw [List.getElem_map, keyV_vX] at hmv
                have Hql := Lib.hid hql
                generalize O[q] = x at *
                obtain ⟨⟨x1, x2, x3, x4, x5, x6, x7⟩, kb, kd, lt, mb, md, mt⟩ := x
                simp only at e0 e1 e2 e3 e4 e5 e6
                obtain ⟨E, hE⟩ : ∃ E, decide ((⟨x2, x3, x4⟩ : K3) = ⟨2, y3, y4⟩) = E := ⟨_, rfl⟩
                have hmv2 : hasV ((O.map vX).take (q + 1)) ⟨2, y3, y4⟩ = (hasV ((O.map vX).take q) ⟨2, y3, y4⟩ || E) := by rw [hmv, ← hE]; rfl
                have he := eqKey20 x2 x3 x4 2 y3 y4
                rw [hE] at he
                have Hmv := Lib.hid hmv2
                have CK := Lib.hid (fun a b c d e f g dd os => Calls.regrown_of (w := wr) (d := dd) (os := os) (key_any a b c d e f g _))
                obtain ⟨z0, z1, z2, z3, z4, z5, z6, z7, z8, zf⟩ := blk9 hki
                obtain ⟨B0, hB0⟩ : ∃ B0, hasV ((O.map vX).take q) ⟨2, y3, y4⟩ = B0 := ⟨_, rfl⟩
                have HB0 := Lib.hid hB0
                rw [hB0]
                clear hsi hki hn9 hmv hmv2 hE hB0 hql hq z7 z8 zf
                have z0 := cell_regrown z0
                have z1 := cell_regrown z1
                have z2 := cell_regrown z2
                have z3 := cell_regrown z3
                have z4 := cell_regrown z4
                have z5 := cell_regrown z5
                have z6 := cell_regrown z6
                have e0 := cell_regrown e0
                have e1 := cell_regrown e1
                have e2 := cell_regrown e2
                have e3 := cell_regrown e3
                have e4 := cell_regrown e4
                have e5 := cell_regrown e5
                have e6 := cell_regrown e6
                go_wp2_with fail
                refine wp_region_quiet_below (by kernel_rfl) (by kernel_rfl) ?_
                repeat (go_big_quiet_step (exact CK.out _ _ _ _ _ _ _ _ _))
                refine wpQuiet_nil ?_
                rintro w15 ⟨⟨dq2, osq2⟩, rfl⟩
                have hb15 := below_regrown wr dq2 osq2
                generalize grow (redrawn wr dq2) osq2 = w15 at *
                have S15 := Lib.hid (Hsi.out.keep hb15)
                have K15 := Lib.hid (Hki.out.below hb15 Hki.out.lt)
                clear hb15 z0 z1 z2 z3 z4 z5 z6 e0 e1 e2 e3 e4 e5 e6 CK
                cases E with
                | true =>
                  go_wp2
                  go_roundw
                  case measure => have := Hql.out; simp [intOf]; omega
                  case rel => exact ⟨q + 1, by go_num, by rw [Hmv.out]; simp, Hql.out, S15.out, K15.out⟩
                | false =>
                  go_wp2
                  go_roundw
                  case measure => have := Hql.out; simp [intOf]; omega
                  case rel => exact ⟨q + 1, by go_num, by rw [Hmv.out, HB0.out]; simp, Hql.out, S15.out, K15.out⟩
              · have hqe : q = O.length := by omega
                subst hqe
                have hqk : ¬ (O.length : Int) < (O.length : Int) := by omega
                have htl : (O.map vX).take O.length = O.map vX := by rw [← List.length_map (f := vX), List.take_length]
                rw [htl]
                obtain ⟨z0, z1, z2, z3, z4, z5, z6, z7, z8, zf⟩ := blk9 hki
                clear hsi hki htl hql hq
                cases hhas : hasV (O.map vX) ⟨2, y3, y4⟩ with
                | true =>
                  have HS := Lib.hid (show RcSt w wr l (k + 1) (.slice A7 O.length c7) O from ⟨Hno.out (.inr hhas), Hsi.out.xs, Hsi.out.new, Hsi.out.bel⟩)
                  clear hhas
                  go_wp2
                  go_roundw
                  case measure => have := Hlt.out; simp [intOf]; omega
                  case rel => exact ⟨k + 1, O, by go_num, Hlt.out, HS.out⟩
                | false =>
                  have Hy := Lib.hid (Hyes.out ⟨⟨y1, 2, y3, y4, y5, y6, y7⟩, ka, kc, ls, ma, mc, ms⟩ rfl Hc.out hhas)
                  have HBN := Lib.hid (fun o => below_new wr o)
                  have HKN := Lib.hid (show Blk (wr.alloc (.cells #[.int .i64 y1, .int .i64 2, .int .i64 y3, .int .i64 y4, .int .i64 y5, .int .i64 y6, .int .i64 y7, .slice ka nl kc, .slice ma nm mc] 41)) wr.heap.size 41 (Lsa.cells ⟨⟨y1, 2, y3, y4, y5, y6, y7⟩, ka, kc, ls, ma, mc, ms⟩).toArray by unfold Lsa.cells; simp only; rw [← Hnl.out.1, ← Hnm.out.1]; exact Blk.new _ _ _)
                  clear hhas
                  go_wp2_with (at_builtin; (refine app_row (e := 41) Lsa.cells (fun _ => rfl) (by decide) (bytes := 104) (by decide) infoX rfl Tryz.underlying22 onesX (by rfl) _ _ (by rfl) 0 _ O (by rfl) (Hsi.out.xs.own.below (HBN.out _)) wr.heap.size ⟨⟨y1, 2, y3, y4, y5, y6, y7⟩, ka, kc, ls, ma, mc, ms⟩ (by rfl) HKN.out (by have := HOl.out; omega) (Nat.zero_le _) ?_); intro v6 w6 hown6 hg6 hor6; have Hx6 := Lib.hid ((Hsi.out.xs.keep (HBN.out _)).app hown6 hg6 hor6 ⟨(HL9.out.below (below_trans Hsi.out.bel Hsi.out.bel.size (HBN.out _))).more (Nat.le_trans Hsi.out.bel.size (HBN.out _).size), (HM9.out.below (below_trans Hsi.out.bel Hsi.out.bel.size (HBN.out _))).more (Nat.le_trans Hsi.out.bel.size (HBN.out _).size)⟩ ⟨fun a e h0 e2 => by have h1 := Hsi.out.new _ e2; have h2 := row_lt2 HL9.out e h0; omega, fun a e h0 e2 => by have h1 := Hsi.out.new _ e2; have h2 := row_lt2 HM9.out e h0; omega⟩ ⟨fun _ _ _ => Nat.zero_le _, fun _ _ _ => Nat.zero_le _⟩ ⟨Hnl.out.2, Hnm.out.2⟩); have Hn6 := Lib.hid (own_new Hsi.out.new hor6 (Nat.le_trans Hsi.out.bel.size (HBN.out _).size)); have Hb6 := Lib.hid ((below_trans Hsi.out.bel Hsi.out.bel.size (HBN.out _)).grown hg6 (Nat.le_trans Hsi.out.bel.size (HBN.out _).size) (fun m hm => Hsi.out.new m hm)); clear hown6 hg6 hor6)
                  go_roundw
                  case measure => have := Hlt.out; simp [intOf]; omega
                  case rel => exact ⟨k + 1, _, by go_num, Hlt.out, Hy.out, Hx6.out, Hn6.out, Hb6.out⟩
          · clear hmod
            go_wp2
            go_loopw [6, 7] (fun d i wx => ∃ (q : Nat), i = .int .i64 q ∧ d = .bool (hasV ((O.map vX).take q) ⟨y2, y3, y4⟩) ∧ q ≤ O.length ∧ RcSt w wx l k (.slice A7 O.length c7) O ∧ Blk wx g8 41 #[.int .i64 y1, .int .i64 y2, .int .i64 y3, .int .i64 y4, .int .i64 y5, .int .i64 y6, .int .i64 y7, .slice ka nl kc, .slice ma nm mc]) (fun _ i _ => O.length - (intOf i).toNat)
            case atStart => exact ⟨0, rfl, rfl, Nat.zero_le _, Sc.out, Kc.out⟩
            case round =>
              obtain ⟨q, rfl, rfl, hq, hsi, hki⟩ := hrel
              have Hsi := Lib.hid hsi
              have Hki := Lib.hid hki
              clear z0 z1 z2 z3 z4 z5 z6 z7 z8 zf
              by_cases hql : q < O.length
              · have hqk : (q : Int) < (O.length : Int) := by omega
                obtain ⟨g7, c9, hv9, e0, e1, e2, e3, e4, e5, e6, -, -⟩ := row_at hsi.xs.own q hql
                injection hv9 with hA9 hn9 hc9
                subst hA9 hc9
                have hmv := hasV_more (C := O.map vX) (i := q) (by simpa using hql) ⟨y2, y3, y4⟩
                rw [List.getElem_map, keyV_vX] at hmv
                have Hql := Lib.hid hql
                generalize O[q] = x at *
                obtain ⟨⟨x1, x2, x3, x4, x5, x6, x7⟩, kb, kd, lt, mb, md, mt⟩ := x
                simp only at e0 e1 e2 e3 e4 e5 e6
                obtain ⟨E, hE⟩ : ∃ E, decide ((⟨x2, x3, x4⟩ : K3) = ⟨y2, y3, y4⟩) = E := ⟨_, rfl⟩
                have hmv2 : hasV ((O.map vX).take (q + 1)) ⟨y2, y3, y4⟩ = (hasV ((O.map vX).take q) ⟨y2, y3, y4⟩ || E) := by rw [hmv, ← hE]; rfl
                have he := eqKey20 x2 x3 x4 y2 y3 y4
                rw [hE] at he
                have Hmv := Lib.hid hmv2
                have CK := Lib.hid (fun a b c d e f g dd os => Calls.regrown_of (w := wr) (d := dd) (os := os) (key_any a b c d e f g _))
                obtain ⟨z0, z1, z2, z3, z4, z5, z6, z7, z8, zf⟩ := blk9 hki
                obtain ⟨B0, hB0⟩ : ∃ B0, hasV ((O.map vX).take q) ⟨y2, y3, y4⟩ = B0 := ⟨_, rfl⟩
                have HB0 := Lib.hid hB0
                rw [hB0]
                clear hsi hki hn9 hmv hmv2 hE hB0 hql hq z7 z8 zf
                have z0 := cell_regrown z0
                have z1 := cell_regrown z1
                have z2 := cell_regrown z2
                have z3 := cell_regrown z3
                have z4 := cell_regrown z4
                have z5 := cell_regrown z5
                have z6 := cell_regrown z6
                have e0 := cell_regrown e0
                have e1 := cell_regrown e1
                have e2 := cell_regrown e2
                have e3 := cell_regrown e3
                have e4 := cell_regrown e4
                have e5 := cell_regrown e5
                have e6 := cell_regrown e6
                go_wp2_with fail
                refine wp_region_quiet_below (by kernel_rfl) (by kernel_rfl) ?_
                repeat (go_big_quiet_step (exact CK.out _ _ _ _ _ _ _ _ _))
                refine wpQuiet_nil ?_
                rintro w15 ⟨⟨dq2, osq2⟩, rfl⟩
                have hb15 := below_regrown wr dq2 osq2
                generalize grow (redrawn wr dq2) osq2 = w15 at *
                have S15 := Lib.hid (Hsi.out.keep hb15)
                have K15 := Lib.hid (Hki.out.below hb15 Hki.out.lt)
                clear hb15 z0 z1 z2 z3 z4 z5 z6 e0 e1 e2 e3 e4 e5 e6 CK
                cases E with
                | true =>
                  go_wp2
                  go_roundw
                  case measure => have := Hql.out; simp [intOf]; omega
                  case rel => exact ⟨q + 1, by go_num, by rw [Hmv.out]; simp, Hql.out, S15.out, K15.out⟩
                | false =>
                  go_wp2
                  go_roundw
                  case measure => have := Hql.out; simp [intOf]; omega
                  case rel => exact ⟨q + 1, by go_num, by rw [Hmv.out, HB0.out]; simp, Hql.out, S15.out, K15.out⟩
              · have hqe : q = O.length := by omega
                subst hqe
                have hqk : ¬ (O.length : Int) < (O.length : Int) := by omega
                have htl : (O.map vX).take O.length = O.map vX := by rw [← List.length_map (f := vX), List.take_length]
                rw [htl]
                obtain ⟨z0, z1, z2, z3, z4, z5, z6, z7, z8, zf⟩ := blk9 hki
                clear hsi hki htl hql hq
                cases hhas : hasV (O.map vX) ⟨y2, y3, y4⟩ with
                | true =>
                  have HS := Lib.hid (show RcSt w wr l (k + 1) (.slice A7 O.length c7) O from ⟨Hno.out (.inr hhas), Hsi.out.xs, Hsi.out.new, Hsi.out.bel⟩)
                  clear hhas
                  go_wp2
                  go_roundw
                  case measure => have := Hlt.out; simp [intOf]; omega
                  case rel => exact ⟨k + 1, O, by go_num, Hlt.out, HS.out⟩
                | false =>
                  have Hy := Lib.hid (Hyes.out ⟨⟨y1, y2, y3, y4, y5, y6, y7⟩, ka, kc, ls, ma, mc, ms⟩ rfl Hc.out hhas)
                  have HBN := Lib.hid (fun o => below_new wr o)
                  have HKN := Lib.hid (show Blk (wr.alloc (.cells #[.int .i64 y1, .int .i64 y2, .int .i64 y3, .int .i64 y4, .int .i64 y5, .int .i64 y6, .int .i64 y7, .slice ka nl kc, .slice ma nm mc] 41)) wr.heap.size 41 (Lsa.cells ⟨⟨y1, y2, y3, y4, y5, y6, y7⟩, ka, kc, ls, ma, mc, ms⟩).toArray by unfold Lsa.cells; simp only; rw [← Hnl.out.1, ← Hnm.out.1]; exact Blk.new _ _ _)
                  clear hhas
                  go_wp2_with (at_builtin; (refine app_row (e := 41) Lsa.cells (fun _ => rfl) (by decide) (bytes := 104) (by decide) infoX rfl Tryz.underlying22 onesX (by rfl) _ _ (by rfl) 0 _ O (by rfl) (Hsi.out.xs.own.below (HBN.out _)) wr.heap.size ⟨⟨y1, y2, y3, y4, y5, y6, y7⟩, ka, kc, ls, ma, mc, ms⟩ (by rfl) HKN.out (by have := HOl.out; omega) (Nat.zero_le _) ?_); intro v6 w6 hown6 hg6 hor6; have Hx6 := Lib.hid ((Hsi.out.xs.keep (HBN.out _)).app hown6 hg6 hor6 ⟨(HL9.out.below (below_trans Hsi.out.bel Hsi.out.bel.size (HBN.out _))).more (Nat.le_trans Hsi.out.bel.size (HBN.out _).size), (HM9.out.below (below_trans Hsi.out.bel Hsi.out.bel.size (HBN.out _))).more (Nat.le_trans Hsi.out.bel.size (HBN.out _).size)⟩ ⟨fun a e h0 e2 => by have h1 := Hsi.out.new _ e2; have h2 := row_lt2 HL9.out e h0; omega, fun a e h0 e2 => by have h1 := Hsi.out.new _ e2; have h2 := row_lt2 HM9.out e h0; omega⟩ ⟨fun _ _ _ => Nat.zero_le _, fun _ _ _ => Nat.zero_le _⟩ ⟨Hnl.out.2, Hnm.out.2⟩); have Hn6 := Lib.hid (own_new Hsi.out.new hor6 (Nat.le_trans Hsi.out.bel.size (HBN.out _).size)); have Hb6 := Lib.hid ((below_trans Hsi.out.bel Hsi.out.bel.size (HBN.out _)).grown hg6 (Nat.le_trans Hsi.out.bel.size (HBN.out _).size) (fun m hm => Hsi.out.new m hm)); clear hown6 hg6 hor6)
                  go_roundw
                  case measure => have := Hlt.out; simp [intOf]; omega
                  case rel => exact ⟨k + 1, _, by go_num, Hlt.out, Hy.out, Hx6.out, Hn6.out, Hb6.out⟩
    · have hkk : k = l.length := by omega
      subst hkk
      have hkl : ¬ (l.length : Int) < (l.length : Int) := by omega
      have hi := hst.is
      rw [List.take_length] at hi
      have Hi := Lib.hid hi
      clear hlt hst hi hk
      go_wp2
      go_ret
      exact ⟨⟨_, rfl, O, HSt.out.xs, Hi.out⟩, HSt.out.bel⟩

end Go.Proofs.YtpfjgecdlilkcaaGreat
