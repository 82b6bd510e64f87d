/-
  The insertion sort is stable (plain).
-/
import Derived.Sort.Defs
import Derived.Test.YtpnbibokddhheaaStbPlain
namespace Go.Proofs.Ytpnbibokddhheaa
open Go.Sort
section
variable {α : Type} [Inhabited α] {lt : α → α → Bool}
theorem arr_mid {d : Array α} {A B : List α} {x : α} (h : d.toList = A ++ x :: B) : d[A.length]! = x := by
  rw [← Array.getElem!_toList, h]
  simp
theorem arr_swp {d : Array α} {A B C : List α} {x y : α} (h : d.toList = A ++ x :: (B ++ y :: C)) (i j : Nat) (hi : i = A.length) (hj : j = A.length + (B.length + 1)) : (swp d j i).toList = A ++ y :: (B ++ x :: C) := by
  subst hi hj
  have e1 : d[A.length]! = x := arr_mid h
  have e2 : d[A.length + (B.length + 1)]! = y := by
    have := arr_mid (d := d) (A := A ++ x :: B) (x := y) (B := C) (by rw [h]; simp)
    simpa using this
  unfold swp
  rw [e1, e2, Array.toList_setIfInBounds, Array.toList_setIfInBounds, h, List.set_comm _ _ (by omega), swap_two]
theorem arr_swp' {d : Array α} {A B C : List α} {x y : α} (h : d.toList = A ++ x :: (B ++ y :: C)) (i j : Nat) (hi : i = A.length) (hj : j = A.length + (B.length + 1)) : (swp d i j).toList = A ++ y :: (B ++ x :: C) := by
  subst hi hj
  have e1 : d[A.length]! = x := arr_mid h
  have e2 : d[A.length + (B.length + 1)]! = y := by
    have := arr_mid (d := d) (A := A ++ x :: B) (x := y) (B := C) (by rw [h]; simp)
    simpa using this
  unfold swp
  rw [e1, e2, Array.toList_setIfInBounds, Array.toList_setIfInBounds, h, swap_two]
theorem insInner_cut (P S : List α) (x : α) (a : Nat) (ha : a = P.length) : ∀ (j : Nat) (Z1 Z2 : List α) (d : Array α), d.toList = P ++ (Z1 ++ x :: (Z2 ++ S)) → j = P.length + Z1.length → (∀ z ∈ Z2, lt x z = true) →
    ∃ W1 W2, W1 ++ W2 = Z1 ++ Z2 ∧ (insInner lt a j d).toList = P ++ (W1 ++ x :: (W2 ++ S)) ∧ (∀ z ∈ W2, lt x z = true) ∧ (W1 = [] ∨ ∃ Z z, W1 = Z ++ [z] ∧ lt x z = false)
  | 0, Z1, Z2, d, h, hj, h2 => ⟨Z1, Z2, rfl, by rw [insInner]; exact h, h2, .inl (List.length_eq_zero_iff.1 (by omega))⟩
  | j + 1, Z1, Z2, d, h, hj, h2 => by
    rcases List.eq_nil_or_concat Z1 with rfl | ⟨Y, y, rfl⟩
    · refine ⟨[], Z2, rfl, ?_, h2, .inl rfl⟩
      rw [insInner, if_neg (by simp at hj; simp; omega)]
      exact h
    · rw [List.concat_eq_append] at h hj
      have hl : j = P.length + Y.length := by simp at hj; omega
      have e1 : d[j + 1]! = x := by
        have := arr_mid (d := d) (A := P ++ (Y ++ [y])) (x := x) (B := Z2 ++ S) (by rw [h]; simp)
        rw [hj]; simpa using this
      have e2 : d[j]! = y := by
        have := arr_mid (d := d) (A := P ++ Y) (x := y) (B := x :: (Z2 ++ S)) (by rw [h]; simp)
        rw [hl]; simpa using this
      rw [insInner, e1, e2]
      cases hc : lt x y with
      | false =>
        rw [if_neg (by simp)]
        exact ⟨Y ++ [y], Z2, by simp, h, h2, .inr ⟨Y, y, rfl, hc⟩⟩
      | true =>
        rw [if_pos (by simp; omega)]
        obtain ⟨W1, W2, g1, g2, g3, g4⟩ := insInner_cut P S x a ha j Y (y :: Z2) (swp d (j + 1) j) (by
          have := arr_swp (d := d) (A := P ++ Y) (B := []) (x := y) (y := x) (C := Z2 ++ S) (by rw [h]; simp) j (j + 1) (by simp [hl]) (by simp [hl])
          rw [this]; simp) hl (fun z hz => by
            rcases List.mem_cons.1 hz with rfl | hz
            · exact hc
            · exact h2 z hz)
        exact ⟨W1, W2, by rw [g1]; simp, g2, g3, g4⟩
theorem insOuter_stb (hw : SWO lt) (P S : List α) (a b : Nat) (ha : a = P.length) : ∀ (n : Nat) (X Z Y : List α) (d : Array α), Y.length = n → Stb lt X Z → d.toList = P ++ (Z ++ (Y ++ S)) → b = P.length + (Z.length + Y.length) →
    ∃ M, (insOuter lt a b (P.length + Z.length) d).toList = P ++ (M ++ S) ∧ Stb lt (X ++ Y) M
  | 0, X, Z, Y, d, hn, h, hd, hb => by
    obtain rfl := List.length_eq_zero_iff.1 hn
    refine ⟨Z, ?_, by simpa using h⟩
    rw [insOuter, if_neg (by simp at hb; omega), hd]; simp
  | n + 1, X, Z, [], d, hn, h, hd, hb => by simp at hn
  | n + 1, X, Z, y :: Y, d, hn, h, hd, hb => by
    obtain ⟨W1, W2, g1, g2, g3, g4⟩ := insInner_cut (lt := lt) P (Y ++ S) y a ha (P.length + Z.length) Z [] d (by rw [hd]; simp) rfl (by simp)
    have hz : W1 ++ W2 = Z := by rw [g1]; simp
    have hl : (W1 ++ [y] ++ W2).length = Z.length + 1 := by rw [← hz]; simp; omega
    obtain ⟨M, m1, m2⟩ := insOuter_stb hw P S a b ha n (X ++ [y]) (W1 ++ [y] ++ W2) Y (insInner lt a (P.length + Z.length) d) (by simpa using hn) (stb_ins hw (hz ▸ h) g3 g4) (by rw [g2]; simp) (by rw [hl, hb]; simp; omega)
    refine ⟨M, ?_, by simpa using m2⟩
    rw [insOuter, if_pos (by rw [hb]; simp)]
    rw [hl] at m1
    exact m1
/-- the part from a to b is sorted stably, the others stay -/
theorem insertionSort_stb (hw : SWO lt) {P X S : List α} {a b : Nat} {d : Array α} (hd : d.toList = P ++ (X ++ S)) (ha : a = P.length) (hb : b = P.length + X.length) :
    ∃ M, (insertionSort lt d a b).toList = P ++ (M ++ S) ∧ Stb lt X M := by
  cases X with
  | nil =>
    refine ⟨[], ?_, Stb.refl srt_nil⟩
    unfold insertionSort
    rw [insOuter, if_neg (by simp at hb; omega)]
    exact hd
  | cons x X =>
    obtain ⟨M, h1, h2⟩ := insOuter_stb hw P S a b ha X.length [x] [x] X d rfl (Stb.refl srt_one) (by rw [hd]; simp) (by rw [hb]; simp; omega)
    refine ⟨M, ?_, h2⟩
    unfold insertionSort
    rw [ha]
    rw [ha] at h1
    exact h1
end
end Go.Proofs.Ytpnbibokddhheaa
