/-
  order: which description is newer.
-/
import Derived.Test.YtbffhdlfplgccaaHdDec
import Derived.Test.YtbffhdlfplgccaaMem
import Derived.Test.YtbffhdlfplgccaaAppInt
import Derived.Test.YtbffhdlfplgccaaQuietTail
import Derived.Test.YtbffhdlfplgccaaFlSix
namespace Go.Proofs.Ytbffhdlfplgccaa
open Go.RowKit Go.Sort

def cmpI (a b : Int) : Int := if a < b then -1 else if b < a then 1 else 0
theorem cmpI_cases (a b : Int) : (a < b ∧ cmpI a b = -1) ∨ (¬a < b ∧ b < a ∧ cmpI a b = 1) ∨ (¬a < b ∧ ¬b < a ∧ cmpI a b = 0) := by
  unfold cmpI
  by_cases h1 : a < b
  · exact .inl ⟨h1, by simp [h1]⟩
  · by_cases h2 : b < a
    · exact .inr (.inl ⟨h1, h2, by simp [h1, h2]⟩)
    · exact .inr (.inr ⟨h1, h2, by simp [h1, h2]⟩)
set_option maxHeartbeats 400000 in
theorem isNaN_any (a : Int) (w : World) : Calls Try.prog 119 #[.int .i64 a] w fun r w' => r = .returned (.bool false) ∧ Below w.heap.size w w' := by
  go_enter Try.func119, Try.ntmps119
  go_wp2
  go_ret
  exact ⟨by simp, Below.refl _ _⟩
set_option maxHeartbeats 1000000 in
theorem cmp_any (a b : Int) (w : World) : Calls Try.prog 93 #[.int .i64 a, .int .i64 b] w fun r w' => r = .returned (.int .i64 (cmpI a b)) ∧ Below w.heap.size w w' := by
  rcases cmpI_cases a b with ⟨h1, e⟩ | ⟨h1, h2, e⟩ | ⟨h1, h2, e⟩
  all_goals
    rw [e]
    clear e
    go_enter Try.func93, Try.ntmps93
    go_wp2_with (first
      | (have _ := Hb1.out; go_at_call 119; (with_reducible refine Calls.mono (isNaN_any _ _) ?_); rintro r w2 ⟨rfl, hb2⟩; have Hb2 := Lib.hid (Hb1.out.trans (hb2.mono Hb1.out.size)); clear hb2)
      | (go_at_call 119; (with_reducible refine Calls.mono (isNaN_any _ _) ?_); rintro r w1 ⟨rfl, hb1⟩; have Hb1 := Lib.hid hb1; clear hb1))
    go_ret
    exact ⟨rfl, Hb2.out⟩
def goneI (age : Int) : Int := if age = 60 then 1 else 0
set_option maxHeartbeats 400000 in
theorem gone_any (a b c d e f g : Int) (w : World) : Calls Try.prog 105 #[.agg #[.int .i64 a, .int .i64 b, .int .i64 c, .int .i64 d, .int .i64 e, .int .i64 f, .int .i64 g]] w fun r w' => r = .returned (.int .i64 (goneI a)) ∧ Below w.heap.size w w' := by
  have Hb0 := Lib.hid (fun o => (Below.refl w.heap.size w).alloc (Nat.le_refl _) o)
  by_cases h : a = 60
  · subst h
    go_enter Try.func105, Try.ntmps105
    go_wp2
    go_ret
    exact ⟨by simp [goneI], Hb0.out _⟩
  · go_enter Try.func105, Try.ntmps105
    go_wp2
    go_ret
    exact ⟨by simp [goneI, h], Hb0.out _⟩
def youngI (a b : Int) : Int := if b + 6 < a ∨ a + 6 < b then cmpI b a else 0

set_option maxHeartbeats 1000000 in
theorem young_any (a1 a2 a3 a4 a5 a6 a7 b1 b2 b3 b4 b5 b6 b7 : Int) (w : World) (ha : 0 ≤ a1) (ha' : a1 ≤ 60) (hb : 0 ≤ b1) (hb' : b1 ≤ 60) : Calls Try.prog 106 #[.agg #[.int .i64 a1, .int .i64 a2, .int .i64 a3, .int .i64 a4, .int .i64 a5, .int .i64 a6, .int .i64 a7], .agg #[.int .i64 b1, .int .i64 b2, .int .i64 b3, .int .i64 b4, .int .i64 b5, .int .i64 b6, .int .i64 b7]] w fun r w' => r = .returned (.int .i64 (youngI a1 b1)) ∧ Below w.heap.size w w' := by
  obtain ⟨r, hr, h1, h2⟩ := six ha ha' hb hb'
  have hsub : ∀ w, (binOp BinOp.sub 187 (.float .f64 (floatOfInt .f64 a1)) (.float .f64 (floatOfInt .f64 b1))).run Try.prog w = .ok (.float .f64 r) w := fun w => run_float_arith w _ _ _ _ _ _ hr
  have Hb0 := Lib.hid (fun o q => ((Below.refl w.heap.size w).alloc (Nat.le_refl _) o).alloc (by simp) q)
  clear hr ha ha' hb hb'
  by_cases g1 : b1 + 6 < a1
  · have e : youngI a1 b1 = cmpI b1 a1 := by simp [youngI, g1]
    rw [e]
    rw [decide_eq_true g1] at h1
    clear e g1
    go_enter Try.func106, Try.ntmps106
    go_wp2_with (go_at_call 93; (with_reducible refine Calls.mono (cmp_any _ _ _) ?_); rintro r w2 ⟨rfl, hb2⟩; have Hb2 := Lib.hid ((Hb0.out _ _).trans (hb2.mono (Hb0.out _ _).size)); clear hb2)
    go_ret
    exact ⟨rfl, Hb2.out⟩
  · by_cases g2 : a1 + 6 < b1
    · have e : youngI a1 b1 = cmpI b1 a1 := by simp [youngI, g2]
      rw [e]
      rw [decide_eq_false g1] at h1
      rw [decide_eq_true g2] at h2
      clear e g1 g2
      go_enter Try.func106, Try.ntmps106
      go_wp2_with (go_at_call 93; (with_reducible refine Calls.mono (cmp_any _ _ _) ?_); rintro r w2 ⟨rfl, hb2⟩; have Hb2 := Lib.hid ((Hb0.out _ _).trans (hb2.mono (Hb0.out _ _).size)); clear hb2)
      go_ret
      exact ⟨rfl, Hb2.out⟩
    · have e : youngI a1 b1 = 0 := by simp [youngI, g1, g2]
      rw [e]
      rw [decide_eq_false g1] at h1
      rw [decide_eq_false g2] at h2
      clear e g1 g2
      go_enter Try.func106, Try.ntmps106
      go_wp2_with fail
      go_ret
      exact ⟨rfl, Hb0.out _ _⟩

def orL : List Int → Int
  | [] => 0
  | x :: l => if x = 0 then orL l else x
theorem orL_at : ∀ (l : List Int) (k : Nat) (hk : k < l.length), (∀ j, (hj : j < k) → l[j] = 0) → l[k] ≠ 0 → orL l = l[k]
  | x :: l, 0, _, _, h => by
    simp only [List.getElem_cons_zero] at h ⊢
    simp only [orL, if_neg h]
  | x :: l, k + 1, hk, h0, h => by
    have hx : x = 0 := h0 0 (by omega)
    simp only [orL, hx, if_true]
    exact orL_at l k (by simpa using hk) (fun j hj => h0 (j + 1) (by omega)) h
theorem orL_zero : ∀ (l : List Int), (∀ j, (hj : j < l.length) → l[j] = 0) → orL l = 0
  | [], _ => rfl
  | x :: l, h => by
    have hx : x = 0 := h 0 (by simp)
    simp only [orL, hx, if_true]
    exact orL_zero l (fun j hj => h (j + 1) (by simpa using hj))
set_option maxHeartbeats 1000000 in
theorem or_any (l : List Int) (hlen : l.length ≤ 1000) (g cap : Nat) (w : World) (hl : ∀ k, (hk : k < l.length) → w.cell? ⟨g, k, none⟩ = some (.int .i64 l[k])) (hg : g < w.heap.size) (n : Nat) (hn : n = l.length) {x : Int} (hx : orL l = x) :
    Calls Try.prog 88 #[.slice (some ⟨g, 0, none⟩) n cap] w fun r w' => r = .returned (.int .i64 x) ∧ Below w.heap.size w w' := by
  subst hn
  have Hl := Lib.hid hl
  have Hx := Lib.hid hx
  clear hl hx
  go_enter Try.func88, Try.ntmps88
  go_wp2
  go_loopw [8] (fun i wr => ∃ k : Nat, k ≤ l.length ∧ i = .int .i64 k ∧ (∀ j, (hj : j < k) → (hjl : j < l.length) → l[j] = 0) ∧ Below w.heap.size w wr) (fun i _ => l.length - (intOf i).toNat)
  case atStart => exact ⟨0, Nat.zero_le _, rfl, fun j hj => absurd hj (by omega), Below.refl _ _⟩
  case round =>
    obtain ⟨k, hk, rfl, h0, hb⟩ := hrel
    have H0 := Lib.hid h0
    have Hb := Lib.hid hb
    by_cases hlt : k < l.length
    · have e0 : wr.cell? ⟨g, k, none⟩ = some (.int .i64 l[k]) := (hb.cell hg).trans (Hl.out k hlt)
      have hat := fun h => orL_at l k hlt (fun j hj => h0 j hj (by omega)) h
      clear h0 hb
      by_cases hz : l[k] = 0
      · have Hz := Lib.hid hz
        rw [hz] at e0
        clear hz hat
        go_wp2
        go_roundw
        case measure => simp [intOf]; omega
        case rel =>
          refine ⟨k + 1, hlt, by go_num, fun j hj hjl => ?_, Hb.out⟩
          by_cases hjk : j = k
          · subst hjk; exact Hz.out
          · exact H0.out j (by omega) hjl
      · have hat := hat hz
        rw [Hx.out] at hat
        rw [← hat] at e0 hz
        have hz' : (x != 0) = true := by simpa using hz
        clear hat hz
        go_wp2
        go_ret
        exact ⟨rfl, Hb.out⟩
    · have : k = l.length := by omega
      subst this
      have hz : x = 0 := by rw [← Hx.out]; exact orL_zero l (fun j hj => h0 j hj hj)
      subst hz
      clear h0 hb
      go_wp2
      go_ret
      exact ⟨rfl, Hb.out⟩

end Go.Proofs.Ytbffhdlfplgccaa

/-
  order.Newer.
-/
namespace Go.Proofs.Ytbffhdlfplgccaa
open Go.RowKit Go.Sort

def newerI (a b : Hd) : Int := orL [cmpI a.seq b.seq, cmpI a.sum b.sum, cmpI (goneI a.age) (goneI b.age), youngI a.age b.age]
def Hd.val (h : Hd) : Value := .agg #[.int .i64 h.age, .int .i64 h.kind, .int .i64 h.id, .int .i64 h.adv, .int .i64 h.seq, .int .i64 h.sum, .int .i64 h.long]

theorem lit4 (w : World) (x0 x1 x2 x3 : Int) (t : TypeId) : ∀ k, (hk : k < [x0, x1, x2, x3].length) → (w.alloc (.cells #[.int .i64 x0, .int .i64 x1, .int .i64 x2, .int .i64 x3] t)).cell? ⟨w.heap.size, k, none⟩ = some (.int .i64 [x0, x1, x2, x3][k]) := by
  intro k hk
  rw [(Blk.new w t _).cell k]
  match k, hk with
  | 0, _ => rfl
  | 1, _ => rfl
  | 2, _ => rfl
  | 3, _ => rfl

set_option maxHeartbeats 4000000 in
set_option maxRecDepth 100000 in
theorem newer_any (a1 a2 a3 a4 a5 a6 a7 b1 b2 b3 b4 b5 b6 b7 : Int) (w : World) (ha : 0 ≤ a1) (ha' : a1 ≤ 60) (hb : 0 ≤ b1) (hb' : b1 ≤ 60) {x : Int} (hx : newerI ⟨a1, a2, a3, a4, a5, a6, a7⟩ ⟨b1, b2, b3, b4, b5, b6, b7⟩ = x) :
    Calls Try.prog 66 #[.agg #[.int .i64 a1, .int .i64 a2, .int .i64 a3, .int .i64 a4, .int .i64 a5, .int .i64 a6, .int .i64 a7], .agg #[.int .i64 b1, .int .i64 b2, .int .i64 b3, .int .i64 b4, .int .i64 b5, .int .i64 b6, .int .i64 b7]] w
      fun r w' => r = .returned (.int .i64 x) ∧ Below w.heap.size w w' := by
  obtain ⟨w0, hW0⟩ : ∃ w0, (w.alloc (.cells #[.int .i64 a1, .int .i64 a2, .int .i64 a3, .int .i64 a4, .int .i64 a5, .int .i64 a6, .int .i64 a7] 28)).alloc (.cells #[.int .i64 b1, .int .i64 b2, .int .i64 b3, .int .i64 b4, .int .i64 b5, .int .i64 b6, .int .i64 b7] 28) = w0 := ⟨_, rfl⟩
  have hA : Blk w0 w.heap.size 28 #[.int .i64 a1, .int .i64 a2, .int .i64 a3, .int .i64 a4, .int .i64 a5, .int .i64 a6, .int .i64 a7] := by rw [← hW0]; exact (Blk.new w _ _).alloc _
  have hB : Blk w0 (w.heap.size + 1) 28 #[.int .i64 b1, .int .i64 b2, .int .i64 b3, .int .i64 b4, .int .i64 b5, .int .i64 b6, .int .i64 b7] := by rw [← hW0]; exact Blk.size (by simp)
  have Hb0 : Hid (Below w.heap.size w w0) := Lib.hid (by rw [← hW0]; exact ((Below.refl w.heap.size w).alloc (Nat.le_refl _) _).alloc (by simp) _)
  have hOr : ∀ W : World, Calls Try.prog 88 #[.slice (some ⟨W.heap.size, 0, none⟩) 4 4] (W.alloc (.cells #[.int .i64 (cmpI a5 b5), .int .i64 (cmpI a6 b6), .int .i64 (cmpI (goneI a1) (goneI b1)), .int .i64 (youngI a1 b1)] 3)) fun r w' => r = .returned (.int .i64 x) ∧ Below (W.alloc (.cells #[.int .i64 (cmpI a5 b5), .int .i64 (cmpI a6 b6), .int .i64 (cmpI (goneI a1) (goneI b1)), .int .i64 (youngI a1 b1)] 3)).heap.size (W.alloc (.cells #[.int .i64 (cmpI a5 b5), .int .i64 (cmpI a6 b6), .int .i64 (cmpI (goneI a1) (goneI b1)), .int .i64 (youngI a1 b1)] 3)) w' :=
    fun W => or_any [cmpI a5 b5, cmpI a6 b6, cmpI (goneI a1) (goneI b1), youngI a1 b1] (by simp) W.heap.size 4 _ (lit4 _ _ _ _ _ _) (by simp) 4 (by simp) hx
  have HOr := Lib.hid hOr
  clear hOr
  obtain ⟨a_0, a_1, a_2, a_3, a_4, a_5, a_6⟩ : _ ∧ _ ∧ _ ∧ _ ∧ _ ∧ _ ∧ _ := ⟨cell_regrown (hA.cell 0), cell_regrown (hA.cell 1), cell_regrown (hA.cell 2), cell_regrown (hA.cell 3), cell_regrown (hA.cell 4), cell_regrown (hA.cell 5), cell_regrown (hA.cell 6)⟩
  obtain ⟨b_0, b_1, b_2, b_3, b_4, b_5, b_6⟩ : _ ∧ _ ∧ _ ∧ _ ∧ _ ∧ _ ∧ _ := ⟨cell_regrown (hB.cell 0), cell_regrown (hB.cell 1), cell_regrown (hB.cell 2), cell_regrown (hB.cell 3), cell_regrown (hB.cell 4), cell_regrown (hB.cell 5), cell_regrown (hB.cell 6)⟩
  have cC : ∀ p q dd os, Calls Try.prog 93 #[.int .i64 p, .int .i64 q] (grow (redrawn w0 dd) os) fun r w'' => r = .returned (.int .i64 (cmpI p q)) ∧ ∃ p : Regrown, w'' = grow (redrawn w0 p.d) p.os := fun p q dd os => Calls.regrown_of (cmp_any p q _)
  have cG : ∀ a b c d e f g dd os, Calls Try.prog 105 #[.agg #[.int .i64 a, .int .i64 b, .int .i64 c, .int .i64 d, .int .i64 e, .int .i64 f, .int .i64 g]] (grow (redrawn w0 dd) os) fun r w'' => r = .returned (.int .i64 (goneI a)) ∧ ∃ p : Regrown, w'' = grow (redrawn w0 p.d) p.os := fun a b c d e f g dd os => Calls.regrown_of (gone_any a b c d e f g _)
  have cY : ∀ dd os, Calls Try.prog 106 #[.agg #[.int .i64 a1, .int .i64 a2, .int .i64 a3, .int .i64 a4, .int .i64 a5, .int .i64 a6, .int .i64 a7], .agg #[.int .i64 b1, .int .i64 b2, .int .i64 b3, .int .i64 b4, .int .i64 b5, .int .i64 b6, .int .i64 b7]] (grow (redrawn w0 dd) os) fun r w'' => r = .returned (.int .i64 (youngI a1 b1)) ∧ ∃ p : Regrown, w'' = grow (redrawn w0 p.d) p.os := fun dd os => Calls.regrown_of (young_any _ _ _ _ _ _ _ _ _ _ _ _ _ _ _ ha ha' hb hb')
  have CC := Lib.hid cC
  have CG := Lib.hid cG
  have CY := Lib.hid cY
  clear cC cG cY hA hB hx ha ha' hb hb'
  go_enter Try.func66, Try.ntmps66
  go_wp2_with fail
  refine wp_below_tail 18 (by kernel_rfl) (by kernel_rfl) ?_
  simp only [List.take_succ_cons, List.take_zero, List.drop_succ_cons, List.drop_zero]
  repeat (go_big_quiet_step (first | exact CC.out _ _ _ _ | exact CG.out _ _ _ _ _ _ _ _ _ | exact CY.out _ _))
  refine wpQuiet_nil ?_
  rintro w3 ⟨⟨dq, osq⟩, rfl⟩
  have hb3 := below_regrown w0 dq osq
  have Hb3 := Lib.hid (Hb0.out.trans (hb3.mono Hb0.out.size))
  generalize grow (redrawn w0 dq) osq = w3 at *
  clear hb3
  go_wp2_with (go_at_call 88; (with_reducible refine Calls.mono (HOr.out _) ?_); rintro r w4 ⟨rfl, hb4⟩; have Hb4 := Lib.hid ((Hb3.out.alloc Hb3.out.size _).trans (hb4.mono (Hb3.out.alloc Hb3.out.size _).size)); clear hb4)
  go_ret
  exact ⟨rfl, Hb4.out⟩

end Go.Proofs.Ytbffhdlfplgccaa
