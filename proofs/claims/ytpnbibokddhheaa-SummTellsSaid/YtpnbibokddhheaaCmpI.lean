/-
  cmp.Compare and cmp.Or at ints, in plain words and walked.
-/
import Derived.Test.YtpnbibokddhheaaHdDec
import Derived.Test.YtpnbibokddhheaaMem
import Derived.Test.YtpnbibokddhheaaAppInt
import Derived.Test.YtpnbibokddhheaaQuietTail
namespace Go.Proofs.Ytpnbibokddhheaa
open Go.RowKit Go.Sort

def cmpI (a b : Int) : Int := if a < b then -1 else if b < a then 1 else 0
theorem cmpI_cases (a b : Int) : (a < b ∧ cmpI a b = -1) ∨ (¬a < b ∧ b < a ∧ cmpI a b = 1) ∨ (¬a < b ∧ ¬b < a ∧ cmpI a b = 0) := by
  unfold cmpI
  by_cases h1 : a < b
  · exact .inl ⟨h1, by simp [h1]⟩
  · by_cases h2 : b < a
    · exact .inr (.inl ⟨h1, h2, by simp [h1, h2]⟩)
    · exact .inr (.inr ⟨h1, h2, by simp [h1, h2]⟩)
set_option maxHeartbeats 400000 in
theorem isNaN_any (a : Int) (w : World) : Calls Try.prog 95 #[.int .i64 a] w fun r w' => r = .returned (.bool false) ∧ Below w.heap.size w w' := by
  go_enter Try.func95, Try.ntmps95
  go_wp2
  go_ret
  exact ⟨by simp, Below.refl _ _⟩
set_option maxHeartbeats 1000000 in
theorem cmp_any (a b : Int) (w : World) : Calls Try.prog 74 #[.int .i64 a, .int .i64 b] w fun r w' => r = .returned (.int .i64 (cmpI a b)) ∧ Below w.heap.size w w' := by
  rcases cmpI_cases a b with ⟨h1, e⟩ | ⟨h1, h2, e⟩ | ⟨h1, h2, e⟩
  all_goals
    rw [e]
    clear e
    go_enter Try.func74, Try.ntmps74
    go_wp2_with (first
      | (have _ := Hb1.out; go_at_call 95; (with_reducible refine Calls.mono (isNaN_any _ _) ?_); rintro r w2 ⟨rfl, hb2⟩; have Hb2 := Lib.hid (Hb1.out.trans (hb2.mono Hb1.out.size)); clear hb2)
      | (go_at_call 95; (with_reducible refine Calls.mono (isNaN_any _ _) ?_); rintro r w1 ⟨rfl, hb1⟩; have Hb1 := Lib.hid hb1; clear hb1))
    go_ret
    exact ⟨rfl, Hb2.out⟩
def orL : List Int → Int
  | [] => 0
  | x :: l => if x = 0 then orL l else x
theorem orL_at : ∀ (l : List Int) (k : Nat) (hk : k < l.length), (∀ j, (hj : j < k) → l[j] = 0) → l[k] ≠ 0 → orL l = l[k]
  | x :: l, 0, _, _, h => by
    simp only [List.getElem_cons_zero] at h ⊢
    simp only [orL, if_neg h]
  | x :: l, k + 1, hk, h0, h => by
    have hx : x = 0 := h0 0 (by omega)
    simp only [orL, hx, if_true]
    exact orL_at l k (by simpa using hk) (fun j hj => h0 (j + 1) (by omega)) h
theorem orL_zero : ∀ (l : List Int), (∀ j, (hj : j < l.length) → l[j] = 0) → orL l = 0
  | [], _ => rfl
  | x :: l, h => by
    have hx : x = 0 := h 0 (by simp)
    simp only [orL, hx, if_true]
    exact orL_zero l (fun j hj => h (j + 1) (by simpa using hj))
set_option maxHeartbeats 1000000 in
theorem or_any (l : List Int) (hlen : l.length ≤ 1000) (g cap : Nat) (w : World) (hl : ∀ k, (hk : k < l.length) → w.cell? ⟨g, k, none⟩ = some (.int .i64 l[k])) (hg : g < w.heap.size) (n : Nat) (hn : n = l.length) {x : Int} (hx : orL l = x) :
    Calls Try.prog 73 #[.slice (some ⟨g, 0, none⟩) n cap] w fun r w' => r = .returned (.int .i64 x) ∧ Below w.heap.size w w' := by
  subst hn
  have Hl := Lib.hid hl
  have Hx := Lib.hid hx
  clear hl hx
  go_enter Try.func73, Try.ntmps73
  go_wp2
  go_loopw [8] (fun i wr => ∃ k : Nat, k ≤ l.length ∧ i = .int .i64 k ∧ (∀ j, (hj : j < k) → (hjl : j < l.length) → l[j] = 0) ∧ Below w.heap.size w wr) (fun i _ => l.length - (intOf i).toNat)
  case atStart => exact ⟨0, Nat.zero_le _, rfl, fun j hj => absurd hj (by omega), Below.refl _ _⟩
  case round =>
    obtain ⟨k, hk, rfl, h0, hb⟩ := hrel
    have H0 := Lib.hid h0
    have Hb := Lib.hid hb
    by_cases hlt : k < l.length
    · have e0 : wr.cell? ⟨g, k, none⟩ = some (.int .i64 l[k]) := (hb.cell hg).trans (Hl.out k hlt)
      have hat := fun h => orL_at l k hlt (fun j hj => h0 j hj (by omega)) h
      clear h0 hb
      by_cases hz : l[k] = 0
      · have Hz := Lib.hid hz
        rw [hz] at e0
        clear hz hat
        go_wp2
        go_roundw
        case measure => simp [intOf]; omega
        case rel =>
          refine ⟨k + 1, hlt, by go_num, fun j hj hjl => ?_, Hb.out⟩
          by_cases hjk : j = k
          · subst hjk; exact Hz.out
          · exact H0.out j (by omega) hjl
      · have hat := hat hz
        rw [Hx.out] at hat
        rw [← hat] at e0 hz
        have hz' : (x != 0) = true := by simpa using hz
        clear hat hz
        go_wp2
        go_ret
        exact ⟨rfl, Hb.out⟩
    · have : k = l.length := by omega
      subst this
      have hz : x = 0 := by rw [← Hx.out]; exact orL_zero l (fun j hj => h0 j hj hj)
      subst hz
      clear h0 hb
      go_wp2
      go_ret
      exact ⟨rfl, Hb.out⟩

end Go.Proofs.Ytpnbibokddhheaa
