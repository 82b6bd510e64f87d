/-
  The document's word for a description that may be: the program's way.
-/
import Derived.Deep.CutRange
import Derived.Deep.DeepCutAuto
import Derived.Test.YtpfjgecdlilkcaaLsRight
import Derived.Test.YtpfjgecdlilkcaaRegionP
import Derived.Test.YtpfjgecdlilkcaaCmpTail
namespace Go.Proofs.Ytpfjgecdlilkcaa
open Go.RowKit

set_option maxHeartbeats 1000000 in
theorem rin_v (n a b : Int) (w : World) {t : Bool} (ht : inB n a b = t) : Calls Try.prog 34 #[.int .i64 n, .int .i64 a, .int .i64 b] w fun r w' => r = .returned (.bool t) ∧ w = w' := by
  rcases in_cases n a b with ⟨h1, h2⟩ | ⟨h1, h2⟩
  · rw [h2] at ht
    subst ht
    clear h2
    go_enter Try.func34, Try.ntmps34
    go_wp2
    go_ret
    exact ⟨rfl, rfl⟩
  · rw [ht] at h2
    clear ht
    go_enter Try.func34, Try.ntmps34
    go_wp2
    go_ret
    exact ⟨rfl, rfl⟩

set_option maxHeartbeats 2000000 in
set_option maxRecDepth 100000 in
theorem refHead_any (a1 a2 a3 a4 a5 a6 a7 : Int) (w : World) {t : Bool} (ht : headB ⟨a1, a2, a3, a4, a5, a6, a7⟩ = t) : Calls Try.prog 33 #[.agg #[.int .i64 a1, .int .i64 a2, .int .i64 a3, .int .i64 a4, .int .i64 a5, .int .i64 a6, .int .i64 a7]] w fun r w' => r = .returned (.bool t) ∧ Below w.heap.size w w' := by
  unfold headB at ht
  simp only at ht
  obtain ⟨t1, h1⟩ : ∃ t1, inB a1 0 60 = t1 := ⟨_, rfl⟩
  obtain ⟨t2, h2⟩ : ∃ t2, inB a2 1 2 = t2 := ⟨_, rfl⟩
  obtain ⟨t3, h3⟩ : ∃ t3, inB a4 1 15 = t3 := ⟨_, rfl⟩
  obtain ⟨t4, h4⟩ : ∃ t4, inB a5 (-2147483647) 2147483647 = t4 := ⟨_, rfl⟩
  rw [h1, h2, h3, h4] at ht
  have H1 := Lib.hid h1
  have H2 := Lib.hid h2
  have H3 := Lib.hid h3
  have H4 := Lib.hid h4
  clear h1 h2 h3 h4
  have Hb := Lib.hid ((Below.refl w.heap.size w).alloc (Nat.le_refl _) (.cells #[.int .i64 a1, .int .i64 a2, .int .i64 a3, .int .i64 a4, .int .i64 a5, .int .i64 a6, .int .i64 a7] 26))
  rcases bool4 t1 t2 t3 t4 with rfl | ⟨rfl, rfl⟩ | ⟨rfl, rfl, rfl⟩ | ⟨rfl, rfl, rfl, rfl⟩ | ⟨rfl, rfl, rfl, rfl⟩
  all_goals
    simp only [Bool.false_and, Bool.and_false, Bool.and_true] at ht
    subst ht
    go_enter Try.func33, Try.ntmps33
    go_wp2_with (first
      | (go_at_call 34; (with_reducible refine Calls.mono (rin_v a1 0 60 _ H1.out) ?_); rintro r w2 ⟨rfl, rfl⟩)
      | (go_at_call 34; (with_reducible refine Calls.mono (rin_v a2 1 2 _ H2.out) ?_); rintro r w2 ⟨rfl, rfl⟩)
      | (go_at_call 34; (with_reducible refine Calls.mono (rin_v a4 1 15 _ H3.out) ?_); rintro r w2 ⟨rfl, rfl⟩)
      | (go_at_call 34; (with_reducible refine Calls.mono (rin_v a5 (-2147483647) 2147483647 _ H4.out) ?_); rintro r w2 ⟨rfl, rfl⟩))
    go_ret
    exact ⟨rfl, Hb.out⟩

theorem rin_q (n a b : Int) (w : World) (q : Nat) {t : Bool} (ht : inB n a b = t) : Calls Try.prog 34 #[.int .i64 n, .int .i64 a, .int .i64 b] (w.drewN q) fun r w' => r = .returned (.bool t) ∧ ∃ q', w' = w.drewN q' :=
  (rin_v n a b _ ht).mono fun _r _w' ⟨h1, h2⟩ => ⟨h1, q, h2.symm⟩
theorem inB23 {x : Int} {t : Bool} (h : inB x 2 3 = t) : (t = true ∧ (x = 2 ∨ x = 3)) ∨ (t = false ∧ ¬ x = 2 ∧ ¬ x = 3) := by
  subst h
  unfold inB
  by_cases h1 : x = 2
  · subst h1; left; simp
  · by_cases h2 : x = 3
    · subst h2; left; simp
    · right; refine ⟨?_, h1, h2⟩; simp; omega
theorem in23t {x : Int} (h : (true = true ∧ (x = 2 ∨ x = 3)) ∨ (true = false ∧ ¬ x = 2 ∧ ¬ x = 3)) : x = 2 ∨ x = 3 := by
  rcases h with ⟨-, h⟩ | ⟨h, -⟩
  · exact h
  · cases h
set_option maxHeartbeats 8000000 in
set_option maxRecDepth 100000 in
theorem refRight_any (a1 a2 a3 a4 a5 a6 a7 : Int) (ka : Option Addr) (kc : Nat) (ls : List Lnk) (ma : Option Addr) (mc : Nat) (ms : List Int) (w : World) (B : Nat) (hl : RowsAt 4 Lnk.cells w B ka ls) (hm : RowsAt 1 icell w B ma ms) (hB : B ≤ w.heap.size) (hlm : ls.length ≤ maxLen) (hmm : ms.length ≤ maxLen) (nl nm : Nat) (hnl : nl = ls.length) (hnm : nm = ms.length) {t : Bool} (ht : rightB ⟨⟨a1, a2, a3, a4, a5, a6, a7⟩, ka, kc, ls, ma, mc, ms⟩ = t) :
    Calls Try.prog 14 #[.agg #[.int .i64 a1, .int .i64 a2, .int .i64 a3, .int .i64 a4, .int .i64 a5, .int .i64 a6, .int .i64 a7, .slice ka nl kc, .slice ma nm mc]] w fun r w' => r = .returned (.bool t) ∧ Below w.heap.size w w' := by
  have hcs := right_cases ⟨⟨a1, a2, a3, a4, a5, a6, a7⟩, ka, kc, ls, ma, mc, ms⟩
  simp only at hcs
  rw [← hnl, ← hnm] at hcs
  obtain ⟨w0, hW0⟩ : ∃ w0, w.alloc (.cells #[.int .i64 a1, .int .i64 a2, .int .i64 a3, .int .i64 a4, .int .i64 a5, .int .i64 a6, .int .i64 a7, .slice ka nl kc, .slice ma nm mc] 30) = w0 := ⟨_, rfl⟩
  have hk0 := Blk.new w 30 #[.int .i64 a1, .int .i64 a2, .int .i64 a3, .int .i64 a4, .int .i64 a5, .int .i64 a6, .int .i64 a7, .slice ka nl kc, .slice ma nm mc]
  have hb0 := (Below.refl w.heap.size w).alloc (Nat.le_refl _) (.cells #[.int .i64 a1, .int .i64 a2, .int .i64 a3, .int .i64 a4, .int .i64 a5, .int .i64 a6, .int .i64 a7, .slice ka nl kc, .slice ma nm mc] 30)
  rw [hW0] at hk0 hb0
  have Hk0 := Lib.hid hk0
  have Hb0 := Lib.hid hb0
  have Hl := Lib.hid (hl.more hB)
  have Hm := Lib.hid (hm.more hB)
  obtain ⟨z0, z1, z2, z3, z4, z5, z6, z7, z8, -⟩ := blk9 hk0
  clear hl hm hB hk0 hb0
  obtain ⟨th, hth⟩ : ∃ th, headB ⟨a1, a2, a3, a4, a5, a6, a7⟩ = th := ⟨_, rfl⟩
  obtain ⟨tl, htl⟩ : ∃ tl, linksB ls = tl := ⟨_, rfl⟩
  obtain ⟨tm, htm⟩ : ∃ tm, membersB ms = tm := ⟨_, rfl⟩
  obtain ⟨ti, hti⟩ : ∃ ti, inB a3 0 63 = ti := ⟨_, rfl⟩
  rw [hth, htl, htm, hti, ht] at hcs
  have Hth := Lib.hid hth
  have Htl := Lib.hid htl
  have Htm := Lib.hid htm
  have Hti := Lib.hid hti
  clear ht hth htl htm hti
  have HC := Lib.hid (fun W (hW : Below w.heap.size w W) => refHead_any a1 a2 a3 a4 a5 a6 a7 W Hth.out)
  have Hnl := Lib.hid hnl
  have Hnm := Lib.hid hnm
  have Hlm := Lib.hid hlm
  have Hmm := Lib.hid hmm
  have hm1 : (nl : Int) ≤ 9223372036854775807 := by unfold maxLen at hlm; omega
  have hm2 : (nm : Int) ≤ 9223372036854775807 := by unfold maxLen at hmm; omega
  have FW := Lib.hid (fun W (hW : Below w0.heap.size w0 W) => blk9 (Hk0.out.below hW Hk0.out.lt))
  clear hnl hnm hlm hmm
  rcases hcs with ⟨h1, rfl⟩ | ⟨h1, h2, h3, rfl⟩ | ⟨h1, h2, h3, h4, rfl⟩ | ⟨h1, h2, h3, rfl, rfl⟩ | ⟨h1, h2, h3, rfl⟩ | ⟨h1, h2, h3, h4, rfl⟩ | ⟨h1, h2, h3, rfl, rfl⟩
  all_goals
    subst h1
    go_enter Try.func14, Try.ntmps14
    go_wp2_with fail
    with_reducible refine Calls.mono (HC.out _ Hb0.out) ?_
    rintro r w2 ⟨rfl, hb2⟩
    obtain ⟨y0, y1, y2, y3, y4, y5, y6, y7, y8, -⟩ := blk9 (Hk0.out.below hb2 Hk0.out.lt)
    have Hb2 := Lib.hid (Hb0.out.trans (hb2.mono Hb0.out.size))
    have Hb02 := Lib.hid (hb2.mono (show w0.heap.size ≤ w0.heap.size from Nat.le_refl _))
    clear z0 z1 z2 z3 z4 z5 z6 z7 z8 hb2
  · go_wp2
    go_ret
    exact ⟨rfl, Hb2.out⟩
  · have g1 := of_decide_eq_false h3
    go_wp2
    go_ret
    exact ⟨rfl, Hb2.out⟩
  · have g1 := of_decide_eq_true h3
    have g2 : (0 : Int) < (nm : Int) := by omega
    subst g1
    go_wp2
    go_ret
    exact ⟨rfl, Hb2.out⟩
  · have g1 := of_decide_eq_true h3
    subst g1
    by_cases h4 : nl ≤ 4
    · have g4 : ¬ (4 : Int) < (nl : Int) := by omega
      have hk1 : a2 = 1 := by simpa using h2
      subst hk1
      go_wp2
      go_loopw [3] (fun i wr => ∃ k : Nat, i = .int .i64 k ∧ k ≤ ls.length ∧ (ls.take k).all linkB = true ∧ Below w0.heap.size w0 wr) (fun i _ => ls.length - (intOf i).toNat)
      case atStart => exact ⟨0, rfl, Nat.zero_le _, by simp, Hb02.out⟩
      case round =>
        obtain ⟨k, rfl, hk, hall, hb⟩ := hrel
        have Hb := Lib.hid hb
        have hbw := Hb0.out.trans (hb.mono Hb0.out.size)
        by_cases hlt : k < ls.length
        · obtain ⟨g, o, rfl, -, z0, z1, z2, z3⟩ := row_lnk (Hl.out.below hbw) k hlt
          obtain ⟨y0, y1, y2, y3, y4, y5, y6, y7, y8, -⟩ := FW.out _ hb
          have hkl : (k : Int) < (nl : Int) := by have := Hnl.out; omega
          have hno : linkB ls[k] = false → linksB ls = false := fun h => by
            unfold linksB
            have : ls.all linkB = false := by
              rw [List.all_eq_false]
              exact ⟨ls[k], List.getElem_mem hlt, by simp [h]⟩
            rw [this]; rfl
          have hyes : linkB ls[k] = true → (ls.take (k + 1)).all linkB = true := fun h => by
            rw [List.take_succ_eq_append_getElem hlt, List.all_append, hall]
            simp [h]
          have Hno := Lib.hid hno
          have Hyes := Lib.hid hyes
          have Hal := Lib.hid (fun o => hbw.alloc hbw.size o)
          have Hal0 := Lib.hid (fun o => hb.alloc hb.size o)
          clear hb hbw hno hyes hall
          generalize ls[k] = x at *
          obtain ⟨x1, x2, x3, x4⟩ := x
          simp only at z0 z1 z2 z3
          unfold linkB at Hno Hyes
          simp only at Hno Hyes
          obtain ⟨t1, h1⟩ : ∃ t1, inB x1 2 3 = t1 := ⟨_, rfl⟩
          obtain ⟨t2, h2⟩ : ∃ t2, inB x2 0 63 = t2 := ⟨_, rfl⟩
          obtain ⟨t3, h3⟩ : ∃ t3, inB x3 0 63 = t3 := ⟨_, rfl⟩
          obtain ⟨t4, h4⟩ : ∃ t4, inB x4 1 100 = t4 := ⟨_, rfl⟩
          rw [h1, h2, h3, h4] at Hno Hyes
          have h23 := inB23 h1
          have H2 := Lib.hid h2
          have H3 := Lib.hid h3
          have H4 := Lib.hid h4
          clear h1 h2 h3 h4
          rcases bool4n t1 t2 t3 t4 with ⟨hv, hd⟩ | ⟨hv, rfl, rfl, rfl, rfl⟩
          · have ht2 : t = false := by rw [← Htl.out]; exact Hno.out hv
            subst ht2
            clear Hyes Hno hv
            rcases hd with rfl | ⟨rfl, rfl⟩ | ⟨rfl, rfl, rfl⟩ | ⟨rfl, rfl, rfl, rfl⟩
            · rcases h23 with ⟨h0, -⟩ | ⟨-, n2, n3⟩
              · cases h0
              · go_wp2_with (first
                | (go_at_call 34; (with_reducible refine Calls.mono (rin_v x4 1 100 _ H4.out) ?_); rintro r w9 ⟨rfl, rfl⟩)
                | (go_at_call 34; (with_reducible refine Calls.mono (rin_v x2 0 63 _ H2.out) ?_); rintro r w9 ⟨rfl, rfl⟩)
                | (go_at_call 34; (with_reducible refine Calls.mono (rin_v x3 0 63 _ H3.out) ?_); rintro r w9 ⟨rfl, rfl⟩))
                go_ret
                exact ⟨rfl, Hal.out _⟩
            all_goals
              rcases in23t h23 with rfl | rfl
              all_goals
                go_wp2_with (first
                | (go_at_call 34; (with_reducible refine Calls.mono (rin_v x4 1 100 _ H4.out) ?_); rintro r w9 ⟨rfl, rfl⟩)
                | (go_at_call 34; (with_reducible refine Calls.mono (rin_v x2 0 63 _ H2.out) ?_); rintro r w9 ⟨rfl, rfl⟩)
                | (go_at_call 34; (with_reducible refine Calls.mono (rin_v x3 0 63 _ H3.out) ?_); rintro r w9 ⟨rfl, rfl⟩))
                go_ret
                exact ⟨rfl, Hal.out _⟩
          · have Hy := Lib.hid (Hyes.out hv)
            clear Hno Hyes hv
            rcases in23t h23 with rfl | rfl
            all_goals
              go_wp2_with (first
                | (go_at_call 34; (with_reducible refine Calls.mono (rin_v x4 1 100 _ H4.out) ?_); rintro r w9 ⟨rfl, rfl⟩)
                | (go_at_call 34; (with_reducible refine Calls.mono (rin_v x2 0 63 _ H2.out) ?_); rintro r w9 ⟨rfl, rfl⟩)
                | (go_at_call 34; (with_reducible refine Calls.mono (rin_v x3 0 63 _ H3.out) ?_); rintro r w9 ⟨rfl, rfl⟩))
              go_roundw
              case measure => simp [intOf]; omega
              case rel => exact ⟨k + 1, by go_num, hlt, Hy.out, Hal0.out _⟩
        · have hkk : k = ls.length := by omega
          obtain ⟨y0, y1, y2, y3, y4, y5, y6, y7, y8, -⟩ := FW.out _ hb
          have hkl : ¬ (k : Int) < (nl : Int) := by have := Hnl.out; omega
          have ht2 : t = true := by
            rw [← Htl.out]
            unfold linksB
            rw [hkk, List.take_length] at hall
            rw [hall, Bool.true_and]
            exact decide_eq_true (by have := Hnl.out; omega)
          subst ht2
          have Hbw := Lib.hid hbw
          clear hb hall hkk hbw
          go_wp2
          go_ret
          exact ⟨rfl, Hbw.out⟩
    · have g4 : (4 : Int) < (nl : Int) := by omega
      have ht2 : t = false := by
        rw [← Htl.out]
        unfold linksB
        rw [decide_eq_false (by have := Hnl.out; omega), Bool.and_false]
      subst ht2
      go_wp2
      go_ret
      exact ⟨rfl, Hb2.out⟩
  · go_wp2_with (go_at_call 34; (with_reducible refine Calls.mono (rin_v a3 0 63 _ Hti.out) ?_); rintro r w3 ⟨rfl, rfl⟩)
    go_ret
    exact ⟨rfl, Hb2.out⟩
  · subst h3
    have g2 : (0 : Int) < (nl : Int) := by omega
    go_wp2_with (go_at_call 34; (with_reducible refine Calls.mono (rin_v a3 0 63 _ Hti.out) ?_); rintro r w3 ⟨rfl, rfl⟩)
    go_ret
    exact ⟨rfl, Hb2.out⟩
  · by_cases h5 : nm = 0
    · subst h5
      have ht2 : t = false := by
        rw [← Htm.out]
        unfold membersB
        rw [decide_eq_false (by have := Hnm.out; omega), Bool.and_false]
      subst ht2
      subst h3
      go_wp2_with (go_at_call 34; (with_reducible refine Calls.mono (rin_v a3 0 63 _ Hti.out) ?_); rintro r w3 ⟨rfl, rfl⟩)
      go_ret
      exact ⟨rfl, Hb2.out⟩
    · subst h3
      have g5 : ¬ (nm : Int) = 0 := by omega
      have g6 : ((nm : Int) == 0) = false := by simpa using h5
      go_wp2_with (go_at_call 34; (with_reducible refine Calls.mono (rin_v a3 0 63 _ Hti.out) ?_); rintro r w3 ⟨rfl, rfl⟩)
      go_loopw [5] (fun i wr => ∃ (k : Nat) (z : Int), i = .int .i64 k ∧ k ≤ ms.length ∧ memC 0 (ms.take k) = true ∧ (((0 : Int) :: ms.take k).getLast (by simp)) = z ∧ 0 ≤ z ∧ z ≤ 15 ∧ Below w0.heap.size w0 wr) (fun i _ => ms.length - (intOf i).toNat)
      case atStart => exact ⟨0, 0, rfl, Nat.zero_le _, rfl, rfl, by omega, by omega, Hb02.out⟩
      case round =>
        obtain ⟨k, z, rfl, hk, hmem, hz, hz0, hz15, hb⟩ := hrel
        have hbw := Hb0.out.trans (hb.mono Hb0.out.size)
        obtain ⟨y0, y1, y2, y3, y4, y5, y6, y7, y8, -⟩ := FW.out _ hb
        by_cases hlt : k < ms.length
        · obtain ⟨g, o, rfl, -, z9⟩ := row_int (Hm.out.below hbw) k hlt
          have hkl : (k : Int) < (nm : Int) := by have := Hnm.out; omega
          obtain ⟨m1, m2⟩ := memC_take hlt hmem
          have hlast : (((0 : Int) :: ms.take (k + 1)).getLast (by simp)) = ms[k] := by
            have : (0 : Int) :: ms.take (k + 1) = ((0 : Int) :: ms.take k) ++ [ms[k]] := by rw [List.take_succ_eq_append_getElem hlt]; rfl
            simp only [this, List.getLast_append, List.getLast_singleton]
            simp
          have Hb := Lib.hid hb
          have Hbw := Lib.hid hbw
          have Hlt := Lib.hid hlt
          rcases Nat.eq_zero_or_pos k with hk0 | hk0
          · subst hk0
            have hz' : z = 0 := by rw [← hz]; rfl
            subst hz'
            rw [hz] at m1 m2
            generalize ms[0] = x at *
            rw [Nat.add_zero] at z9
            have hkl0 : (0 : Int) < (nm : Int) := by omega
            obtain ⟨t1, h1⟩ : ∃ t1, inB x 1 15 = t1 := ⟨_, rfl⟩
            rw [show ((0 : Int) + 1) = 1 from rfl, h1] at m1 m2
            have H1 := Lib.hid h1
            have Hlast := Lib.hid hlast
            have M1 := Lib.hid m1
            have hx := fun h => (inB_iff.1 (h1.trans h))
            cases t1
            · have ht2 : t = false := by rw [← Htm.out]; unfold membersB; rw [m2 rfl]; rfl
              subst ht2
              clear h1 m1 m2 hlast hmem hz hb hbw hx hlt
              go_wp2_with fail
              refine wp_drew_tail 24 (by kernel_rfl) (by kernel_rfl) ?_
              simp only [List.take_succ_cons, List.take_zero, List.drop_succ_cons, List.drop_zero]
              repeat (go_big_quiet_step (exact rin_q x 1 15 _ _ H1.out))
              refine wpQuiet_nil ?_
              rintro w9 ⟨dq, rfl⟩
              go_wp2
              go_ret
              exact ⟨rfl, below_drewN Hbw.out dq⟩
            · obtain ⟨hx1, hx2⟩ := hx rfl
              clear h1 m1 m2 hlast hmem hz hb hbw hlt hx
              go_wp2_with fail
              refine wp_drew_tail 24 (by kernel_rfl) (by kernel_rfl) ?_
              simp only [List.take_succ_cons, List.take_zero, List.drop_succ_cons, List.drop_zero]
              repeat (go_big_quiet_step (exact rin_q x 1 15 _ _ H1.out))
              refine wpQuiet_nil ?_
              rintro w9 ⟨dq, rfl⟩
              go_wp2
              go_roundw
              case measure => have := Hlt.out; simp [intOf]; omega
              case rel => exact ⟨0 + 1, x, by go_num, Hlt.out, M1.out, Hlast.out, by omega, by omega, below_drewN Hb.out dq⟩
          · obtain ⟨j, hj⟩ : ∃ j, k = j + 1 := ⟨k - 1, by omega⟩
            have hjl : j < ms.length := by omega
            obtain ⟨g', o', e', -, z8'⟩ := row_int (Hm.out.below hbw) j hjl
            injection e' with e'
            injection e' with e1 e2
            subst e1 e2
            have hzj : ms[j] = z := by
              subst hj
              rw [← hz]
              have : (0 : Int) :: ms.take (j + 1) = ((0 : Int) :: ms.take j) ++ [ms[j]] := by rw [List.take_succ_eq_append_getElem hjl]; rfl
              simp only [this, List.getLast_append, List.getLast_singleton]
              simp
            rw [hzj] at z8'
            rw [hz] at m1 m2
            generalize ms[k] = x at *
            obtain ⟨t1, h1⟩ : ∃ t1, inB x 1 15 = t1 := ⟨_, rfl⟩
            have H1 := Lib.hid h1
            have Hlast := Lib.hid hlast
            have M1 := Lib.hid m1
            have M2 := Lib.hid m2
            have h1' := h1
            have hx := fun h => (inB_iff.1 (h1.trans h))
            have g0 : (0 : Int) < (k : Int) := by omega
            have g2 : (j : Int) < (nm : Int) := by omega
            have g3 : (k : Int) - 1 = (j : Int) := by omega
            have Hj := Lib.hid hj
            clear hj
            cases t1
            · have hf : inB x (z + 1) 15 = false := by
                cases hc : inB x (z + 1) 15 with
                | false => rfl
                | true => have := inB_iff.1 hc; rw [show inB x 1 15 = true from inB_iff.2 ⟨by omega, by omega⟩] at h1; cases h1
              have ht2 : t = false := by rw [← Htm.out]; unfold membersB; rw [M2.out hf]; rfl
              subst ht2
              clear h1 h1' m1 m2 hlast hmem hz hb hbw hx hlt hjl hzj hf
              go_wp2_with fail
              refine wp_drew_tail 24 (by kernel_rfl) (by kernel_rfl) ?_
              simp only [List.take_succ_cons, List.take_zero, List.drop_succ_cons, List.drop_zero]
              repeat (go_big_quiet_step (exact rin_q x 1 15 _ _ H1.out))
              refine wpQuiet_nil ?_
              rintro w9 ⟨dq, rfl⟩
              go_wp2
              go_ret
              exact ⟨rfl, below_drewN Hbw.out dq⟩
            · obtain ⟨hx1, hx2⟩ := hx rfl
              by_cases hxz : x ≤ z
              · have hf : inB x (z + 1) 15 = false := by
                  cases hc : inB x (z + 1) 15 with
                  | false => rfl
                  | true => have := inB_iff.1 hc; omega
                have ht2 : t = false := by rw [← Htm.out]; unfold membersB; rw [M2.out hf]; rfl
                subst ht2
                clear h1 h1' m1 m2 hlast hmem hz hb hbw hx hlt hjl hzj hf
                go_wp2_with fail
                refine wp_drew_tail 24 (by kernel_rfl) (by kernel_rfl) ?_
                simp only [List.take_succ_cons, List.take_zero, List.drop_succ_cons, List.drop_zero]
                repeat (go_big_quiet_step (exact rin_q x 1 15 _ _ H1.out))
                refine wpQuiet_nil ?_
                rintro w9 ⟨dq, rfl⟩
                go_wp2
                go_ret
                exact ⟨rfl, below_drewN Hbw.out dq⟩
              · have hf : inB x (z + 1) 15 = true := inB_iff.2 ⟨by omega, by omega⟩
                have M1 := Lib.hid (M1.out.trans hf)
                have Hxz := Lib.hid hxz
                have hd : decide (x ≤ z) = false := decide_eq_false hxz
                clear h1 h1' m1 m2 hlast hmem hz hb hbw hx hlt hjl hzj hf hxz
                go_upto_region 18 with fail
                go_cut [119] (fun v wx => v = .bool false ∧ Below w0.heap.size w0 wx)
                case first =>
                  refine wp_drew_tail 24 (by kernel_rfl) (by kernel_rfl) ?_
                  simp only [List.take_succ_cons, List.take_zero, List.drop_succ_cons, List.drop_zero]
                  repeat (go_big_quiet_step (exact rin_q x 1 15 _ _ H1.out))
                  refine wpQuiet_nil ?_
                  rintro w9 ⟨dq, rfl⟩
                  go_wp2_with fail
                  go_meet
                  case rel => exact ⟨rfl, below_drewN Hb.out dq⟩
                case rest =>
                  obtain ⟨rfl, hbx⟩ := hcut
                  have Hbx := Lib.hid hbx
                  clear hbx
                  go_wp2
                  go_roundw
                  case measure => have := Hlt.out; simp [intOf]; omega
                  case rel => exact ⟨k + 1, x, by go_num, Hlt.out, M1.out, Hlast.out, by omega, by omega, Hbx.out⟩
        · have hkk : k = ms.length := by omega
          have hkl : ¬ (k : Int) < (nm : Int) := by have := Hnm.out; omega
          have ht2 : t = true := by
            rw [← Htm.out]
            unfold membersB
            rw [hkk, List.take_length] at hmem
            rw [hmem, Bool.true_and]
            exact decide_eq_true (by have := Hnm.out; omega)
          subst ht2
          have Hbw := Lib.hid hbw
          clear hb hmem hkk hbw hz
          go_wp2
          go_ret
          exact ⟨rfl, Hbw.out⟩

end Go.Proofs.Ytpfjgecdlilkcaa
