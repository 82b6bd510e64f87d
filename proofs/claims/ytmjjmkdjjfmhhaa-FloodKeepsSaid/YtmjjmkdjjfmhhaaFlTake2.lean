/-
  Layer 18: what a database makes of any description: the program's way.
-/
import Derived.Test.YtmjjmkdjjfmhhaaFlTake
import Derived.Test.YtmjjmkdjjfmhhaaDbPut2
namespace Go.Proofs.Ytmjjmkdjjfmhhaa
open Go.RowKit

theorem busy_cases {busy : Bool} {y : Int} (h : busy = true ∨ y ≠ 60) : (busy = true ∧ y = 60) ∨ (busy = true ∧ y ≠ 60) ∨ (busy = false ∧ y ≠ 60) := by
  cases busy
  · rcases h with h | h
    · cases h
    · exact .inr (.inr ⟨rfl, h⟩)
  · by_cases h2 : y = 60
    · exact .inl ⟨rfl, h2⟩
    · exact .inr (.inl ⟨rfl, h2⟩)
set_option maxHeartbeats 8000000 in
set_option maxRecDepth 100000 in
theorem Take_bad (p : Nat) (y1 y2 y3 y4 y5 y6 y7 : Int) (ka : Option Addr) (kc : Nat) (ls : List Lnk) (ma : Option Addr) (mc : Nat) (ms : List Int) (w : World) (hl : RowsAt 4 Lnk.cells w w.heap.size ka ls) (hm : RowsAt 1 icell w w.heap.size ma ms) (hlm : ls.length ≤ maxLen) (hmm : ms.length ≤ maxLen) (nl nm : Nat) (hnl : nl = ls.length) (hnm : nm = ms.length)
    (ht : rightB ⟨⟨y1, y2, y3, y4, y5, y6, y7⟩, ka, kc, ls, ma, mc, ms⟩ = false) (busy : Bool) :
    Calls Try.prog 17 #[.pointer (some ⟨p, 0, none⟩), .agg #[.int .i64 y1, .int .i64 y2, .int .i64 y3, .int .i64 y4, .int .i64 y5, .int .i64 y6, .int .i64 y7, .slice ka nl kc, .slice ma nm mc], .bool busy] w fun r w' => r = .returned (.int .i64 0) ∧ Below w.heap.size w w' := by
  obtain ⟨w1, hW1⟩ : ∃ w1, w.alloc (.cells #[.int .i64 y1, .int .i64 y2, .int .i64 y3, .int .i64 y4, .int .i64 y5, .int .i64 y6, .int .i64 y7, .slice ka nl kc, .slice ma nm mc] 27) = w1 := ⟨_, rfl⟩
  have hk1 := Blk.new w 27 #[.int .i64 y1, .int .i64 y2, .int .i64 y3, .int .i64 y4, .int .i64 y5, .int .i64 y6, .int .i64 y7, .slice ka nl kc, .slice ma nm mc]
  have hb1 := below_new w (.cells #[.int .i64 y1, .int .i64 y2, .int .i64 y3, .int .i64 y4, .int .i64 y5, .int .i64 y6, .int .i64 y7, .slice ka nl kc, .slice ma nm mc] 27)
  rw [hW1] at hk1 hb1
  have HR := Lib.hid (lsaRight_any y1 y2 y3 y4 y5 y6 y7 ka kc ls ma mc ms w1 w1.heap.size (rows_keep hl hb1) (rows_keep hm hb1) (Nat.le_refl _) hlm hmm nl nm hnl hnm ht)
  have Hb1 := Lib.hid hb1
  have Hk1 := Lib.hid hk1
  obtain ⟨z0, z1, z2, z3, z4, z5, z6, z7, z8, zf⟩ := blk9 hk1
  clear hk1 hb1 hl hm hlm hmm hnl hnm ht
  all_goals
    go_enter Try.func17, Try.ntmps17
    go_wp2_with (first
      | (go_at_call 63; (with_reducible refine Calls.mono HR.out ?_); rintro r w2 ⟨rfl, hb2⟩; obtain ⟨x0, x1, x2, x3, x4, x5, x6, x7, x8, xf⟩ := blk9 (Hk1.out.below hb2 Hk1.out.lt); have Hb2 := Lib.hid (below_trans Hb1.out Hb1.out.size hb2); have Hk2 := Lib.hid (Hk1.out.below hb2 Hk1.out.lt); clear hb2)
      | fail)
    go_ret
    exact ⟨rfl, Hb2.out⟩


set_option maxHeartbeats 8000000 in
set_option maxRecDepth 100000 in
theorem Take_gone (p b : Nat) (room : Int) (M : List Lsa) (y2 y3 y4 y5 y6 y7 : Int) (ka : Option Addr) (kc : Nat) (ls : List Lnk) (ma : Option Addr) (mc : Nat) (ms : List Int) (w : World) (h : DbAt w p b room M) (hl : RowsAt 4 Lnk.cells w w.heap.size ka ls) (hm : RowsAt 1 icell w w.heap.size ma ms) (hlm : ls.length ≤ 1000) (hmm : ms.length ≤ 1000) (nl nm : Nat) (hnl : nl = ls.length) (hnm : nm = ms.length)
    (ht : rightB ⟨⟨60, y2, y3, y4, y5, y6, y7⟩, ka, kc, ls, ma, mc, ms⟩ = true) (hg : getX ⟨y2, y3, y4⟩ M = none) :
    Calls Try.prog 17 #[.pointer (some ⟨p, 0, none⟩), .agg #[.int .i64 60, .int .i64 y2, .int .i64 y3, .int .i64 y4, .int .i64 y5, .int .i64 y6, .int .i64 y7, .slice ka nl kc, .slice ma nm mc], .bool false] w fun r w' => r = .returned (.int .i64 1) ∧ Below w.heap.size w w' := by
  obtain ⟨w1, hW1⟩ : ∃ w1, w.alloc (.cells #[.int .i64 60, .int .i64 y2, .int .i64 y3, .int .i64 y4, .int .i64 y5, .int .i64 y6, .int .i64 y7, .slice ka nl kc, .slice ma nm mc] 27) = w1 := ⟨_, rfl⟩
  have hk1 := Blk.new w 27 #[.int .i64 60, .int .i64 y2, .int .i64 y3, .int .i64 y4, .int .i64 y5, .int .i64 y6, .int .i64 y7, .slice ka nl kc, .slice ma nm mc]
  have hb1 := below_new w (.cells #[.int .i64 60, .int .i64 y2, .int .i64 y3, .int .i64 y4, .int .i64 y5, .int .i64 y6, .int .i64 y7, .slice ka nl kc, .slice ma nm mc] 27)
  rw [hW1] at hk1 hb1
  have HR := Lib.hid (lsaRight_any 60 y2 y3 y4 y5 y6 y7 ka kc ls ma mc ms w1 w1.heap.size (rows_keep hl hb1) (rows_keep hm hb1) (Nat.le_refl _) (by unfold maxLen; omega) (by unfold maxLen; omega) nl nm hnl hnm ht)
  have HG := Lib.hid (fun W (hW : Below w.heap.size w W) => DbGet p b room M y2 y3 y4 W (h.keep hW) (h1 := 0) (h2 := 0) (h3 := 0) (h4 := 0) (h5 := 0) (h6 := 0) (h7 := 0) (ka := none) (kc := 0) (ls := []) (ma := none) (mc := 0) (ms := []) (is := false) (by rw [hg]; rfl) (by rw [hg]; rfl) 0 0 rfl rfl)
  have Hb1 := Lib.hid hb1
  have Hk1 := Lib.hid hk1
  obtain ⟨z0, z1, z2, z3, z4, z5, z6, z7, z8, zf⟩ := blk9 hk1
  clear hk1 hb1 hl hm hlm hmm hnl hnm ht hg h
  all_goals
    go_enter Try.func17, Try.ntmps17
    go_wp2_with (first
      | (go_at_call 63; (with_reducible refine Calls.mono HR.out ?_); rintro r w2 ⟨rfl, hb2⟩; obtain ⟨x0, x1, x2, x3, x4, x5, x6, x7, x8, xf⟩ := blk9 (Hk1.out.below hb2 Hk1.out.lt); have Hb2 := Lib.hid (below_trans Hb1.out Hb1.out.size hb2); have Hk2 := Lib.hid (Hk1.out.below hb2 Hk1.out.lt); clear hb2)
      | (go_at_call 20; (with_reducible refine Calls.mono (keyOf_any _ _ _ _ _ _ _ _) ?_); rintro r w3 ⟨rfl, hb3⟩; have Hb3 := Lib.hid (below_trans Hb2.out Hb2.out.size hb3); have Hk3 := Lib.hid (Hk2.out.below hb3 Hk2.out.lt); clear hb3)
      | (go_at_call 21; (with_reducible refine Calls.mono (HG.out _ Hb3.out) ?_); rintro r w4 ⟨Aa, ca, Ab, cb, rfl, -, -, hb4⟩; obtain ⟨w5, hw5⟩ : ∃ w5, w4.alloc (.cells #[.int .i64 0, .int .i64 0, .int .i64 0, .int .i64 0, .int .i64 0, .int .i64 0, .int .i64 0, .slice Aa 0 ca, .slice Ab 0 cb] 27) = w5 := ⟨_, rfl⟩;
          have hb5 := below_new w4 (.cells #[.int .i64 0, .int .i64 0, .int .i64 0, .int .i64 0, .int .i64 0, .int .i64 0, .int .i64 0, .slice Aa 0 ca, .slice Ab 0 cb] 27); rw [hw5] at hb5;
          have Hb5 := Lib.hid (below_trans (below_trans Hb3.out Hb3.out.size hb4) (below_trans Hb3.out Hb3.out.size hb4).size hb5);
          obtain ⟨q0, q1, q2, q3, q4, q5, q6, q7, q8, qf⟩ := blk9 ((Hk3.out.below hb4 Hk3.out.lt).below hb5 (Hk3.out.below hb4 Hk3.out.lt).lt); obtain ⟨c0, c1, c2, c3, c4, c5, c6, c7, c8, cf⟩ := blk9 (Hk3.out.below hb4 Hk3.out.lt); clear hb4 hb5)
      | fail)
    go_ret
    exact ⟨rfl, Hb5.out⟩


set_option maxHeartbeats 8000000 in
set_option maxRecDepth 100000 in
theorem Take_full (p b : Nat) (room : Int) (M : List Lsa) (y1 y2 y3 y4 y5 y6 y7 : Int) (ka : Option Addr) (kc : Nat) (ls : List Lnk) (ma : Option Addr) (mc : Nat) (ms : List Int) (w : World) (h : DbAt w p b room M) (hl : RowsAt 4 Lnk.cells w w.heap.size ka ls) (hm : RowsAt 1 icell w w.heap.size ma ms) (hlm : ls.length ≤ 1000) (hmm : ms.length ≤ 1000) (nl nm : Nat) (hnl : nl = ls.length) (hnm : nm = ms.length)
    (ht : rightB ⟨⟨y1, y2, y3, y4, y5, y6, y7⟩, ka, kc, ls, ma, mc, ms⟩ = true) (hg : getX ⟨y2, y3, y4⟩ M = none) (hroom : (M.length : Int) = room) (busy : Bool) (hby : busy = true ∨ y1 ≠ 60) :
    Calls Try.prog 17 #[.pointer (some ⟨p, 0, none⟩), .agg #[.int .i64 y1, .int .i64 y2, .int .i64 y3, .int .i64 y4, .int .i64 y5, .int .i64 y6, .int .i64 y7, .slice ka nl kc, .slice ma nm mc], .bool busy] w fun r w' => r = .returned (.int .i64 0) ∧ Below w.heap.size w w' := by
  obtain ⟨w1, hW1⟩ : ∃ w1, w.alloc (.cells #[.int .i64 y1, .int .i64 y2, .int .i64 y3, .int .i64 y4, .int .i64 y5, .int .i64 y6, .int .i64 y7, .slice ka nl kc, .slice ma nm mc] 27) = w1 := ⟨_, rfl⟩
  have hk1 := Blk.new w 27 #[.int .i64 y1, .int .i64 y2, .int .i64 y3, .int .i64 y4, .int .i64 y5, .int .i64 y6, .int .i64 y7, .slice ka nl kc, .slice ma nm mc]
  have hb1 := below_new w (.cells #[.int .i64 y1, .int .i64 y2, .int .i64 y3, .int .i64 y4, .int .i64 y5, .int .i64 y6, .int .i64 y7, .slice ka nl kc, .slice ma nm mc] 27)
  rw [hW1] at hk1 hb1
  have HR := Lib.hid (lsaRight_any y1 y2 y3 y4 y5 y6 y7 ka kc ls ma mc ms w1 w1.heap.size (rows_keep hl hb1) (rows_keep hm hb1) (Nat.le_refl _) (by unfold maxLen; omega) (by unfold maxLen; omega) nl nm hnl hnm ht)
  have HP := Lib.hid (fun W (hW : Below w.heap.size w W) => DbPut_full p b room M y1 y2 y3 y4 y5 y6 y7 ka kc ls ma mc ms W (h.keep hW) (rows_keep hl hW) (rows_keep hm hW) hlm hmm nl nm hnl hnm ht (by rw [hg]; rfl) hroom)
  have HG := Lib.hid (fun W (hW : Below w.heap.size w W) => DbGet p b room M y2 y3 y4 W (h.keep hW) (h1 := 0) (h2 := 0) (h3 := 0) (h4 := 0) (h5 := 0) (h6 := 0) (h7 := 0) (ka := none) (kc := 0) (ls := []) (ma := none) (mc := 0) (ms := []) (is := false) (by rw [hg]; rfl) (by rw [hg]; rfl) 0 0 rfl rfl)
  have Hb1 := Lib.hid hb1
  have Hk1 := Lib.hid hk1
  obtain ⟨z0, z1, z2, z3, z4, z5, z6, z7, z8, zf⟩ := blk9 hk1
  clear hk1 hb1 hl hm hlm hmm hnl hnm ht hg hroom h
  have hbc := busy_cases hby
  clear hby
  rcases hbc with ⟨rfl, rfl⟩ | ⟨rfl, hy60⟩ | ⟨rfl, hy60⟩
  all_goals
    go_enter Try.func17, Try.ntmps17
    go_wp2_with (first
      | (go_at_call 63; (with_reducible refine Calls.mono HR.out ?_); rintro r w2 ⟨rfl, hb2⟩; obtain ⟨x0, x1, x2, x3, x4, x5, x6, x7, x8, xf⟩ := blk9 (Hk1.out.below hb2 Hk1.out.lt); have Hb2 := Lib.hid (below_trans Hb1.out Hb1.out.size hb2); have Hk2 := Lib.hid (Hk1.out.below hb2 Hk1.out.lt); clear hb2)
      | (go_at_call 20; (with_reducible refine Calls.mono (keyOf_any _ _ _ _ _ _ _ _) ?_); rintro r w3 ⟨rfl, hb3⟩; have Hb3 := Lib.hid (below_trans Hb2.out Hb2.out.size hb3); have Hk3 := Lib.hid (Hk2.out.below hb3 Hk2.out.lt); clear hb3)
      | (go_at_call 21; (with_reducible refine Calls.mono (HG.out _ Hb3.out) ?_); rintro r w4 ⟨Aa, ca, Ab, cb, rfl, -, -, hb4⟩; obtain ⟨w5, hw5⟩ : ∃ w5, w4.alloc (.cells #[.int .i64 0, .int .i64 0, .int .i64 0, .int .i64 0, .int .i64 0, .int .i64 0, .int .i64 0, .slice Aa 0 ca, .slice Ab 0 cb] 27) = w5 := ⟨_, rfl⟩;
          have hb5 := below_new w4 (.cells #[.int .i64 0, .int .i64 0, .int .i64 0, .int .i64 0, .int .i64 0, .int .i64 0, .int .i64 0, .slice Aa 0 ca, .slice Ab 0 cb] 27); rw [hw5] at hb5;
          have Hb5 := Lib.hid (below_trans (below_trans Hb3.out Hb3.out.size hb4) (below_trans Hb3.out Hb3.out.size hb4).size hb5);
          obtain ⟨q0, q1, q2, q3, q4, q5, q6, q7, q8, qf⟩ := blk9 ((Hk3.out.below hb4 Hk3.out.lt).below hb5 (Hk3.out.below hb4 Hk3.out.lt).lt); obtain ⟨c0, c1, c2, c3, c4, c5, c6, c7, c8, cf⟩ := blk9 (Hk3.out.below hb4 Hk3.out.lt); clear hb4 hb5)
      | (go_at_call 34; (with_reducible refine Calls.mono (HP.out _ Hb5.out) ?_); rintro r w6 ⟨rfl, hb6⟩; have Hb6 := Lib.hid (below_trans Hb5.out Hb5.out.size hb6); clear hb6)
      | fail)
    go_ret
    exact ⟨rfl, Hb6.out⟩


set_option maxHeartbeats 8000000 in
set_option maxRecDepth 100000 in
theorem Take_put (p b : Nat) (room : Int) (M : List Lsa) (y1 y2 y3 y4 y5 y6 y7 : Int) (ka : Option Addr) (kc : Nat) (ls : List Lnk) (ma : Option Addr) (mc : Nat) (ms : List Int) (w : World) (h : DbAt w p b room M) (hl : RowsAt 4 Lnk.cells w w.heap.size ka ls) (hm : RowsAt 1 icell w w.heap.size ma ms) (hlm : ls.length ≤ 1000) (hmm : ms.length ≤ 1000) (nl nm : Nat) (hnl : nl = ls.length) (hnm : nm = ms.length)
    (ht : rightB ⟨⟨y1, y2, y3, y4, y5, y6, y7⟩, ka, kc, ls, ma, mc, ms⟩ = true) (hg : getX ⟨y2, y3, y4⟩ M = none) (hroom : (M.length : Int) ≠ room) (busy : Bool) (hby : busy = true ∨ y1 ≠ 60) :
    Calls Try.prog 17 #[.pointer (some ⟨p, 0, none⟩), .agg #[.int .i64 y1, .int .i64 y2, .int .i64 y3, .int .i64 y4, .int .i64 y5, .int .i64 y6, .int .i64 y7, .slice ka nl kc, .slice ma nm mc], .bool busy] w fun r w' => r = .returned (.int .i64 2) ∧ PutTo w.heap.size w' p b room ⟨y1, y2, y3, y4, y5, y6, y7⟩ ls ms M ∧ w.grownBy w' (some b) := by
  obtain ⟨w1, hW1⟩ : ∃ w1, w.alloc (.cells #[.int .i64 y1, .int .i64 y2, .int .i64 y3, .int .i64 y4, .int .i64 y5, .int .i64 y6, .int .i64 y7, .slice ka nl kc, .slice ma nm mc] 27) = w1 := ⟨_, rfl⟩
  have hk1 := Blk.new w 27 #[.int .i64 y1, .int .i64 y2, .int .i64 y3, .int .i64 y4, .int .i64 y5, .int .i64 y6, .int .i64 y7, .slice ka nl kc, .slice ma nm mc]
  have hb1 := below_new w (.cells #[.int .i64 y1, .int .i64 y2, .int .i64 y3, .int .i64 y4, .int .i64 y5, .int .i64 y6, .int .i64 y7, .slice ka nl kc, .slice ma nm mc] 27)
  rw [hW1] at hk1 hb1
  have HR := Lib.hid (lsaRight_any y1 y2 y3 y4 y5 y6 y7 ka kc ls ma mc ms w1 w1.heap.size (rows_keep hl hb1) (rows_keep hm hb1) (Nat.le_refl _) (by unfold maxLen; omega) (by unfold maxLen; omega) nl nm hnl hnm ht)
  have HP := Lib.hid (fun W (hW : Below w.heap.size w W) => DbPut_ok p b room M y1 y2 y3 y4 y5 y6 y7 ka kc ls ma mc ms W (h.keep hW) (rows_keep hl hW) (rows_keep hm hW) hlm hmm nl nm hnl hnm ht (is := false) (by rw [hg]; rfl) (.inr hroom))
  have HG := Lib.hid (fun W (hW : Below w.heap.size w W) => DbGet p b room M y2 y3 y4 W (h.keep hW) (h1 := 0) (h2 := 0) (h3 := 0) (h4 := 0) (h5 := 0) (h6 := 0) (h7 := 0) (ka := none) (kc := 0) (ls := []) (ma := none) (mc := 0) (ms := []) (is := false) (by rw [hg]; rfl) (by rw [hg]; rfl) 0 0 rfl rfl)
  have Hb1 := Lib.hid hb1
  have Hk1 := Lib.hid hk1
  obtain ⟨z0, z1, z2, z3, z4, z5, z6, z7, z8, zf⟩ := blk9 hk1
  clear hk1 hb1 hl hm hlm hmm hnl hnm ht hg hroom h
  have hbc := busy_cases hby
  clear hby
  rcases hbc with ⟨rfl, rfl⟩ | ⟨rfl, hy60⟩ | ⟨rfl, hy60⟩
  all_goals
    go_enter Try.func17, Try.ntmps17
    go_wp2_with (first
      | (go_at_call 63; (with_reducible refine Calls.mono HR.out ?_); rintro r w2 ⟨rfl, hb2⟩; obtain ⟨x0, x1, x2, x3, x4, x5, x6, x7, x8, xf⟩ := blk9 (Hk1.out.below hb2 Hk1.out.lt); have Hb2 := Lib.hid (below_trans Hb1.out Hb1.out.size hb2); have Hk2 := Lib.hid (Hk1.out.below hb2 Hk1.out.lt); clear hb2)
      | (go_at_call 20; (with_reducible refine Calls.mono (keyOf_any _ _ _ _ _ _ _ _) ?_); rintro r w3 ⟨rfl, hb3⟩; have Hb3 := Lib.hid (below_trans Hb2.out Hb2.out.size hb3); have Hk3 := Lib.hid (Hk2.out.below hb3 Hk2.out.lt); clear hb3)
      | (go_at_call 21; (with_reducible refine Calls.mono (HG.out _ Hb3.out) ?_); rintro r w4 ⟨Aa, ca, Ab, cb, rfl, -, -, hb4⟩; obtain ⟨w5, hw5⟩ : ∃ w5, w4.alloc (.cells #[.int .i64 0, .int .i64 0, .int .i64 0, .int .i64 0, .int .i64 0, .int .i64 0, .int .i64 0, .slice Aa 0 ca, .slice Ab 0 cb] 27) = w5 := ⟨_, rfl⟩;
          have hb5 := below_new w4 (.cells #[.int .i64 0, .int .i64 0, .int .i64 0, .int .i64 0, .int .i64 0, .int .i64 0, .int .i64 0, .slice Aa 0 ca, .slice Ab 0 cb] 27); rw [hw5] at hb5;
          have Hb5 := Lib.hid (below_trans (below_trans Hb3.out Hb3.out.size hb4) (below_trans Hb3.out Hb3.out.size hb4).size hb5);
          obtain ⟨q0, q1, q2, q3, q4, q5, q6, q7, q8, qf⟩ := blk9 ((Hk3.out.below hb4 Hk3.out.lt).below hb5 (Hk3.out.below hb4 Hk3.out.lt).lt); obtain ⟨c0, c1, c2, c3, c4, c5, c6, c7, c8, cf⟩ := blk9 (Hk3.out.below hb4 Hk3.out.lt); clear hb4 hb5)
      | (go_at_call 34; (with_reducible refine Calls.mono (HP.out _ Hb5.out) ?_); rintro r w6 ⟨rfl, hd6, hg6⟩; have Hd6 := Lib.hid hd6; have Hg6 := Lib.hid (grown_trans (grown_below (World.grownBy.refl w (some b)) Hb5.out) hg6); clear hd6 hg6)
      | fail)
    go_ret
    exact ⟨rfl, Hd6.out.mono Hb5.out.size, Hg6.out⟩


/-- what is made of a description -/
def takeN (room : Int) (M : List Lsa) (x : Lsa) (busy : Bool) : Int :=
  if rightB x = true then
    match getX (keyH x.head) M with
    | none => if x.head.age = 60 ∧ busy = false then 1 else if (M.length : Int) = room then 0 else 2
    | some y => if newerI (sealedH x.head x.links x.members) y.head = 0 then 3 else if newerI (sealedH x.head x.links x.members) y.head < 0 then 4 else 2
  else 0
/-- .. and what is had behind it -/
def TookTo (B : Nat) (M : List Lsa) (x : Lsa) (n : Int) (M' : List Lsa) : Prop :=
  (n = 2 ∧ ∃ Aa ca Ab cb, (∀ a, Aa = some a → B ≤ a.block) ∧ (∀ a, Ab = some a → B ≤ a.block) ∧ M' = setX ⟨sealedH x.head x.links x.members, Aa, ca, x.links, Ab, cb, x.members⟩ M) ∨ (n ≠ 2 ∧ M' = M)
def agesX (M : List Lsa) : Prop := ∀ y ∈ M, 0 ≤ y.head.age ∧ y.head.age ≤ 60
theorem right_age {h : Hd} {ka : Option Addr} {kc : Nat} {ls : List Lnk} {ma : Option Addr} {mc : Nat} {ms : List Int} (hr : rightB ⟨h, ka, kc, ls, ma, mc, ms⟩ = true) : 0 ≤ h.age ∧ h.age ≤ 60 := by
  unfold rightB at hr
  rw [Bool.and_eq_true] at hr
  have h1 := hr.1
  unfold headB at h1
  simp only [Bool.and_eq_true, inB_iff] at h1
  exact h1.1.1.1
theorem below_grow {w w' : World} {b : Nat} (h : Below w.heap.size w w') : w.grownBy w' (some b) := grown_below (World.grownBy.refl w (some b)) h
theorem Take_any (p b : Nat) (room : Int) (M : List Lsa) (y1 y2 y3 y4 y5 y6 y7 : Int) (ka : Option Addr) (kc : Nat) (ls : List Lnk) (ma : Option Addr) (mc : Nat) (ms : List Int) (w : World) (h : DbAt w p b room M) (hl : RowsAt 4 Lnk.cells w w.heap.size ka ls) (hm : RowsAt 1 icell w w.heap.size ma ms) (hlm : ls.length ≤ 1000) (hmm : ms.length ≤ 1000) (nl nm : Nat) (hnl : nl = ls.length) (hnm : nm = ms.length) (hages : agesX M) (busy : Bool) {n : Int} (hn : takeN room M ⟨⟨y1, y2, y3, y4, y5, y6, y7⟩, ka, kc, ls, ma, mc, ms⟩ busy = n) :
    Calls Try.prog 17 #[.pointer (some ⟨p, 0, none⟩), .agg #[.int .i64 y1, .int .i64 y2, .int .i64 y3, .int .i64 y4, .int .i64 y5, .int .i64 y6, .int .i64 y7, .slice ka nl kc, .slice ma nm mc], .bool busy] w fun r w' => r = .returned (.int .i64 n) ∧ (∃ M', TookTo w.heap.size M ⟨⟨y1, y2, y3, y4, y5, y6, y7⟩, ka, kc, ls, ma, mc, ms⟩ n M' ∧ DbAt w' p b room M') ∧ w.grownBy w' (some b) := by
  unfold takeN at hn
  by_cases ht : rightB ⟨⟨y1, y2, y3, y4, y5, y6, y7⟩, ka, kc, ls, ma, mc, ms⟩ = true
  · rw [if_pos ht] at hn
    have hag := right_age ht
    simp only at hag
    cases hg : getX ⟨y2, y3, y4⟩ M with
    | none =>
      rw [show getX (keyH (⟨⟨y1, y2, y3, y4, y5, y6, y7⟩, ka, kc, ls, ma, mc, ms⟩ : Lsa).head) M = none from hg] at hn
      simp only at hn
      by_cases h1 : y1 = 60 ∧ busy = false
      · rw [if_pos h1] at hn
        obtain ⟨rfl, rfl⟩ := h1
        subst hn
        refine (Take_gone p b room M y2 y3 y4 y5 y6 y7 ka kc ls ma mc ms w h hl hm hlm hmm nl nm hnl hnm ht hg).mono ?_
        rintro r w' ⟨rfl, hb⟩
        exact ⟨rfl, ⟨M, .inr ⟨by decide, rfl⟩, h.keep hb⟩, below_grow hb⟩
      · rw [if_neg h1] at hn
        have hby : busy = true ∨ y1 ≠ 60 := by
          cases busy
          · exact .inr (fun e => h1 ⟨e, rfl⟩)
          · exact .inl rfl
        by_cases h2 : (M.length : Int) = room
        · rw [if_pos h2] at hn
          subst hn
          refine (Take_full p b room M y1 y2 y3 y4 y5 y6 y7 ka kc ls ma mc ms w h hl hm hlm hmm nl nm hnl hnm ht hg h2 busy hby).mono ?_
          rintro r w' ⟨rfl, hb⟩
          exact ⟨rfl, ⟨M, .inr ⟨by decide, rfl⟩, h.keep hb⟩, below_grow hb⟩
        · rw [if_neg h2] at hn
          subst hn
          refine (Take_put p b room M y1 y2 y3 y4 y5 y6 y7 ka kc ls ma mc ms w h hl hm hlm hmm nl nm hnl hnm ht hg h2 busy hby).mono ?_
          rintro r w' ⟨rfl, ⟨Aa, ca, Ab, cb, hfa, hfb, hd⟩, hgr⟩
          exact ⟨rfl, ⟨_, .inl ⟨rfl, Aa, ca, Ab, cb, hfa, hfb, rfl⟩, hd⟩, hgr⟩
    | some y =>
      rw [show getX (keyH (⟨⟨y1, y2, y3, y4, y5, y6, y7⟩, ka, kc, ls, ma, mc, ms⟩ : Lsa).head) M = some y from hg] at hn
      simp only at hn
      have hya := hages y (getX_mem hg).1
      obtain ⟨⟨h1, h2, h3, h4, h5, h6, h7⟩, xa, xc, xs, va, vc, vs⟩ := y
      simp only at hya hn
      obtain ⟨m, hm'⟩ : ∃ m, newerI (sealedH ⟨y1, y2, y3, y4, y5, y6, y7⟩ ls ms) ⟨h1, h2, h3, h4, h5, h6, h7⟩ = m := ⟨_, rfl⟩
      rw [hm'] at hn
      by_cases c1 : m = 0
      · rw [if_pos c1] at hn
        subst hn
        refine (Take_same p b room M y1 y2 y3 y4 y5 y6 y7 ka kc ls ma mc ms w h hl hm hlm hmm nl nm hnl hnm ht hg hag.1 hag.2 hya.1 hya.2 hm' c1 busy).mono ?_
        rintro r w' ⟨rfl, hb⟩
        exact ⟨rfl, ⟨M, .inr ⟨by decide, rfl⟩, h.keep hb⟩, below_grow hb⟩
      · rw [if_neg c1] at hn
        by_cases c2 : m < 0
        · rw [if_pos c2] at hn
          subst hn
          refine (Take_old p b room M y1 y2 y3 y4 y5 y6 y7 ka kc ls ma mc ms w h hl hm hlm hmm nl nm hnl hnm ht hg hag.1 hag.2 hya.1 hya.2 hm' c2 busy).mono ?_
          rintro r w' ⟨rfl, hb⟩
          exact ⟨rfl, ⟨M, .inr ⟨by decide, rfl⟩, h.keep hb⟩, below_grow hb⟩
        · rw [if_neg c2] at hn
          subst hn
          refine (Take_new p b room M y1 y2 y3 y4 y5 y6 y7 ka kc ls ma mc ms w h hl hm hlm hmm nl nm hnl hnm ht hg hag.1 hag.2 hya.1 hya.2 hm' (by omega) busy).mono ?_
          rintro r w' ⟨rfl, ⟨Aa, ca, Ab, cb, hfa, hfb, hd⟩, hgr⟩
          exact ⟨rfl, ⟨_, .inl ⟨rfl, Aa, ca, Ab, cb, hfa, hfb, rfl⟩, hd⟩, hgr⟩
  · rw [if_neg ht] at hn
    subst hn
    refine (Take_bad p y1 y2 y3 y4 y5 y6 y7 ka kc ls ma mc ms w hl hm (by unfold maxLen; omega) (by unfold maxLen; omega) nl nm hnl hnm (by simpa using ht) busy).mono ?_
    rintro r w' ⟨rfl, hb⟩
    exact ⟨rfl, ⟨M, .inr ⟨by decide, rfl⟩, h.keep hb⟩, below_grow hb⟩

end Go.Proofs.Ytmjjmkdjjfmhhaa
