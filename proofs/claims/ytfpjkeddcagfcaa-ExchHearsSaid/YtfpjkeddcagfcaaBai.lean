/-
  Stable sorting in plain words: neighbors that change places, blocks that are merged.
-/
import Derived.Sort.Statements
import Derived.Sort.Defs
import Derived.Test.YtfpjkeddcagfcaaBaa
import Derived.Test.YtfpjkeddcagfcaaBab
import Derived.Test.YtfpjkeddcagfcaaBac
namespace Go.Proofs.Ytfpjkeddcagfcaa
open Go.Sort

section
variable {α : Type} {lt : α → α → Bool}
/-- neither is less -/
def eqvB (lt : α → α → Bool) (x y : α) : Bool := !lt x y && !lt y x
def SrtL (lt : α → α → Bool) (L : List α) : Prop := L.Pairwise fun x y => lt y x = false
/-- of each class the same, in the same order -/
def SameC (lt : α → α → Bool) (L M : List α) : Prop := ∀ x, L.filter (eqvB lt x) = M.filter (eqvB lt x)
/-- the second row is the first one, sorted stably -/
structure Stb (lt : α → α → Bool) (L M : List α) : Prop where
  srt : SrtL lt M
  cls : SameC lt L M
  prm : L.Perm M
theorem SameC.rfl' {L : List α} : SameC lt L L := fun _ => rfl
theorem SameC.trans {L M N : List α} (h : SameC lt L M) (g : SameC lt M N) : SameC lt L N := fun x => (h x).trans (g x)
theorem SameC.app {L M L' M' : List α} (h : SameC lt L M) (g : SameC lt L' M') : SameC lt (L ++ L') (M ++ M') := fun x => by rw [List.filter_append, List.filter_append, h x, g x]
theorem SameC.swap (hw : SWO lt) {U V : List α} (h : ∀ x ∈ U, ∀ y ∈ V, lt y x = true) : SameC lt (U ++ V) (V ++ U) := fun c => by
  rw [List.filter_append, List.filter_append]
  by_cases hu : U.filter (eqvB lt c) = []
  · rw [hu]; simp
  · have hv : V.filter (eqvB lt c) = [] := by
      rw [List.filter_eq_nil_iff]
      intro y hy hc
      obtain ⟨x, hx⟩ := List.exists_mem_of_ne_nil _ hu
      rw [List.mem_filter] at hx
      unfold eqvB at hx hc
      simp only [Bool.and_eq_true, Bool.not_eq_true'] at hx hc
      have := hw.ntrans _ _ _ hc.2 hx.2.1
      rw [h x hx.1 y hy] at this
      cases this
    rw [hv]; simp
theorem eqvB_self (hw : SWO lt) (x : α) : eqvB lt x x = true := by unfold eqvB; rw [hw.irrefl]; rfl
theorem SameC.mem (hw : SWO lt) {L M : List α} (h : SameC lt L M) {x : α} (hx : x ∈ L) : x ∈ M := by
  have : x ∈ L.filter (eqvB lt x) := List.mem_filter.2 ⟨hx, eqvB_self hw x⟩
  rw [h x] at this
  exact (List.mem_filter.1 this).1
theorem srt_unique (hw : SWO lt) : ∀ {M N : List α}, SrtL lt M → SrtL lt N → SameC lt M N → M = N
  | [], [], _, _, _ => rfl
  | [], y :: N, _, _, h => by have := SameC.mem hw (fun x => (h x).symm) (List.mem_cons_self (a := y) (l := N)); cases this
  | x :: M, [], _, _, h => by have := SameC.mem hw h (List.mem_cons_self (a := x) (l := M)); cases this
  | x :: M, y :: N, h1, h2, h => by
    obtain ⟨a1, a2⟩ := List.pairwise_cons.1 h1
    obtain ⟨b1, b2⟩ := List.pairwise_cons.1 h2
    have g1 : lt x y = false := by
      rcases List.mem_cons.1 (SameC.mem hw h (List.mem_cons_self (a := x) (l := M))) with e | e
      · rw [e]; exact hw.irrefl _
      · exact b1 _ e
    have g2 : lt y x = false := by
      rcases List.mem_cons.1 (SameC.mem hw (fun x => (h x).symm) (List.mem_cons_self (a := y) (l := N))) with e | e
      · rw [e]; exact hw.irrefl _
      · exact a1 _ e
    have hxy : eqvB lt x y = true := by unfold eqvB; rw [g1, g2]; rfl
    have e := h x
    rw [List.filter_cons_of_pos (eqvB_self hw x), List.filter_cons_of_pos hxy] at e
    injection e with e1 e2
    subst e1
    have ht : SameC lt M N := fun c => by
      have e := h c
      cases hc : eqvB lt c x with
      | true => rw [List.filter_cons_of_pos hc, List.filter_cons_of_pos hc] at e; injection e
      | false => rw [List.filter_cons_of_neg (by rw [hc]; decide), List.filter_cons_of_neg (by rw [hc]; decide)] at e; exact e
    rw [srt_unique hw a2 b2 ht]
theorem Stb.unique (hw : SWO lt) {L M N : List α} (h : Stb lt L M) (g : Stb lt L N) : M = N := srt_unique hw h.srt g.srt fun x => (h.cls x).symm.trans (g.cls x)
theorem Stb.refl {L : List α} (h : SrtL lt L) : Stb lt L L := ⟨h, SameC.rfl', List.Perm.refl _⟩
theorem Stb.from_ {L M N : List α} (h : Stb lt M N) (hc : SameC lt L M) (hp : L.Perm M) : Stb lt L N := ⟨h.srt, hc.trans h.cls, hp.trans h.prm⟩
theorem srt_app {L M : List α} (h1 : SrtL lt L) (h2 : SrtL lt M) (h : ∀ x ∈ L, ∀ y ∈ M, lt y x = false) : SrtL lt (L ++ M) := List.pairwise_append.2 ⟨h1, h2, h⟩
theorem SrtL.left {L M : List α} (h : SrtL lt (L ++ M)) : SrtL lt L := (List.pairwise_append.1 h).1
theorem SrtL.right {L M : List α} (h : SrtL lt (L ++ M)) : SrtL lt M := (List.pairwise_append.1 h).2.1
theorem SrtL.cross {L M : List α} (h : SrtL lt (L ++ M)) : ∀ x ∈ L, ∀ y ∈ M, lt y x = false := (List.pairwise_append.1 h).2.2
theorem srt_nil : SrtL lt [] := List.Pairwise.nil
theorem srt_one {x : α} : SrtL lt [x] := List.pairwise_singleton _ _
/-- two sorted rows, cut in two each, merged part by part -/
theorem merge_cut (hw : SWO lt) {X1 X2 Y1 Y2 Z1 Z2 : List α} (hx : SrtL lt (X1 ++ X2)) (hy : SrtL lt (Y1 ++ Y2)) (h1 : ∀ x ∈ X2, ∀ y ∈ Y1, lt y x = true) (h2 : ∀ x ∈ X1, ∀ y ∈ Y2, lt y x = false)
    (g1 : Stb lt (X1 ++ Y1) Z1) (g2 : Stb lt (X2 ++ Y2) Z2) : Stb lt ((X1 ++ X2) ++ (Y1 ++ Y2)) (Z1 ++ Z2) where
  srt := by
    refine srt_app g1.srt g2.srt fun x hx' y hy' => ?_
    rw [← g1.prm.mem_iff, List.mem_append] at hx'
    rw [← g2.prm.mem_iff, List.mem_append] at hy'
    rcases hx' with hx' | hx' <;> rcases hy' with hy' | hy'
    · exact hx.cross x hx' y hy'
    · exact h2 x hx' y hy'
    · have := h1 y hy' x hx'
      cases e : lt y x with
      | false => rfl
      | true => have g := hw.trans _ _ _ this e; rw [hw.irrefl] at g; cases g
    · exact hy.cross x hx' y hy'
  cls := by
    have h : SameC lt ((X1 ++ X2) ++ (Y1 ++ Y2)) ((X1 ++ Y1) ++ (X2 ++ Y2)) := by
      have e := SameC.app (SameC.rfl' (lt := lt) (L := X1)) (SameC.app (SameC.swap hw h1) (SameC.rfl' (L := Y2)))
      simpa only [List.append_assoc] using e
    exact h.trans (g1.cls.app g2.cls)
  prm := by
    have h : ((X1 ++ X2) ++ (Y1 ++ Y2)).Perm ((X1 ++ Y1) ++ (X2 ++ Y2)) := by
      have e := ((List.perm_append_comm (l₁ := X2) (l₂ := Y1)).append_right Y2).append_left X1
      simpa only [List.append_assoc] using e
    exact h.trans (g1.prm.append g2.prm)
/-- one more behind what is sorted, brought to its place -/
theorem stb_ins (hw : SWO lt) {X Z1 Z2 : List α} {x : α} (h : Stb lt X (Z1 ++ Z2)) (h1 : ∀ z ∈ Z2, lt x z = true) (h2 : Z1 = [] ∨ ∃ Z z, Z1 = Z ++ [z] ∧ lt x z = false) : Stb lt (X ++ [x]) (Z1 ++ [x] ++ Z2) where
  srt := by
    have hz : ∀ z ∈ Z1, lt x z = false := by
      rcases h2 with rfl | ⟨Z, z, rfl, hz⟩
      · simp
      · intro u hu
        rw [List.mem_append, List.mem_singleton] at hu
        rcases hu with hu | rfl
        · exact hw.ntrans _ _ _ hz (h.srt.left.cross u hu z (by simp))
        · exact hz
    refine srt_app (srt_app h.srt.left srt_one fun u hu y hy => by rw [List.mem_singleton] at hy; subst hy; exact hz u hu) h.srt.right fun u hu y hy => ?_
    rw [List.mem_append, List.mem_singleton] at hu
    rcases hu with hu | rfl
    · exact h.srt.cross u hu y hy
    · have := h1 y hy
      cases e : lt y u with
      | false => rfl
      | true => have g := hw.trans _ _ _ this e; rw [hw.irrefl] at g; cases g
  cls := by
    have e := (h.cls.app (SameC.rfl' (L := [x])))
    refine e.trans ?_
    have e2 := SameC.app (SameC.rfl' (lt := lt) (L := Z1)) (SameC.swap hw (U := Z2) (V := [x]) (fun z hz y hy => by rw [List.mem_singleton] at hy; subst hy; exact h1 z hz))
    simpa only [List.append_assoc] using e2
  prm := by
    refine (h.prm.append_right [x]).trans ?_
    have e := (List.perm_append_comm (l₁ := Z2) (l₂ := [x])).append_left Z1
    simpa only [List.append_assoc] using e
theorem cut_at (L : List α) (k : Nat) (hk : k ≤ L.length) : ∃ A B, L = A ++ B ∧ A.length = k := ⟨L.take k, L.drop k, (List.take_append_drop k L).symm, by rw [List.length_take]; omega⟩
/-- what a search finds: where both rows are cut -/
theorem search_cut (hw : SWO lt) {P X Y S : List α} {st en : Nat} (hx : SrtL lt X) (hy : SrtL lt Y) (h1 : P.length ≤ st) (h2 : st ≤ P.length + X.length) (h3 : P.length + X.length ≤ en) (h4 : en ≤ P.length + X.length + Y.length)
    (lo : st = P.length ∨ en = P.length + X.length + Y.length ∨ ∃ x y, (P ++ X ++ Y ++ S)[st - 1]? = some x ∧ (P ++ X ++ Y ++ S)[en]? = some y ∧ lt y x = false)
    (hi : st = P.length + X.length ∨ en = P.length + X.length ∨ ∃ x y, (P ++ X ++ Y ++ S)[st]? = some x ∧ (P ++ X ++ Y ++ S)[en - 1]? = some y ∧ lt y x = true) :
    ∃ X1 X2 Y1 Y2, X = X1 ++ X2 ∧ Y = Y1 ++ Y2 ∧ X1.length = st - P.length ∧ Y1.length = en - (P.length + X.length) ∧ (∀ x ∈ X2, ∀ y ∈ Y1, lt y x = true) ∧ (∀ x ∈ X1, ∀ y ∈ Y2, lt y x = false) := by
  obtain ⟨X1, X2, rfl, hX1⟩ := cut_at X (st - P.length) (by omega)
  obtain ⟨Y1, Y2, rfl, hY1⟩ := cut_at Y (en - (P.length + (X1 ++ X2).length)) (by omega)
  rw [List.length_append] at h2 h3 h4 hY1 lo hi
  refine ⟨X1, X2, Y1, Y2, rfl, rfl, hX1, by rw [List.length_append]; exact hY1, ?_, ?_⟩
  · intro u hu v hv
    rcases hi with e | e | ⟨x, y, ex, ey, hl⟩
    · have : X2 = [] := List.eq_nil_of_length_eq_zero (by omega)
      rw [this] at hu; cases hu
    · have : Y1 = [] := List.eq_nil_of_length_eq_zero (by omega)
      rw [this] at hv; cases hv
    · obtain ⟨x', X2', rfl⟩ := List.exists_cons_of_ne_nil (List.ne_nil_of_mem hu)
      obtain ⟨Y1', y', rfl⟩ : ∃ Y y, Y1 = Y ++ [y] := ⟨Y1.dropLast, Y1.getLast (List.ne_nil_of_mem hv), (List.dropLast_concat_getLast _).symm⟩
      have e1 : (P ++ (X1 ++ x' :: X2') ++ (Y1' ++ [y'] ++ Y2) ++ S)[st]? = some x' := by
        have : P ++ (X1 ++ x' :: X2') ++ (Y1' ++ [y'] ++ Y2) ++ S = (P ++ X1) ++ x' :: (X2' ++ (Y1' ++ [y'] ++ Y2) ++ S) := by simp
        rw [this, List.getElem?_append_right (by rw [List.length_append]; omega), List.length_append, show st - (P.length + X1.length) = 0 by omega]
        rfl
      have e2 : (P ++ (X1 ++ x' :: X2') ++ (Y1' ++ [y'] ++ Y2) ++ S)[en - 1]? = some y' := by
        have : P ++ (X1 ++ x' :: X2') ++ (Y1' ++ [y'] ++ Y2) ++ S = (P ++ (X1 ++ x' :: X2') ++ Y1') ++ y' :: (Y2 ++ S) := by simp
        rw [List.length_append, List.length_singleton] at hY1
        rw [this, List.getElem?_append_right (by rw [List.length_append, List.length_append, List.length_append]; omega)]
        simp only [List.length_append] at hY1 h3 ⊢
        rw [show en - 1 - (P.length + (X1.length + (x' :: X2').length) + Y1'.length) = 0 by omega]
        rfl
      rw [e1] at ex; rw [e2] at ey
      cases ex; cases ey
      have g1 : lt u x = false := by
        rcases List.mem_cons.1 hu with rfl | hu
        · exact hw.irrefl _
        · exact (List.pairwise_cons.1 hx.right).1 u hu
      have g2 : lt y v = false := by
        rw [List.mem_append, List.mem_singleton] at hv
        rcases hv with hv | rfl
        · exact hy.left.cross v hv y (by simp)
        · exact hw.irrefl _
      cases e : lt v u with
      | true => rfl
      | false =>
        have := hw.ntrans _ _ _ (hw.ntrans _ _ _ g2 e) g1
        rw [hl] at this
        cases this
  · intro u hu v hv
    rcases lo with e | e | ⟨x, y, ex, ey, hl⟩
    · have : X1 = [] := List.eq_nil_of_length_eq_zero (by omega)
      rw [this] at hu; cases hu
    · have : Y2 = [] := List.eq_nil_of_length_eq_zero (by rw [List.length_append] at e; omega)
      rw [this] at hv; cases hv
    · obtain ⟨X1', x', rfl⟩ : ∃ Y y, X1 = Y ++ [y] := ⟨X1.dropLast, X1.getLast (List.ne_nil_of_mem hu), (List.dropLast_concat_getLast _).symm⟩
      obtain ⟨y', Y2', rfl⟩ := List.exists_cons_of_ne_nil (List.ne_nil_of_mem hv)
      have e1 : (P ++ (X1' ++ [x'] ++ X2) ++ (Y1 ++ y' :: Y2') ++ S)[st - 1]? = some x' := by
        have : P ++ (X1' ++ [x'] ++ X2) ++ (Y1 ++ y' :: Y2') ++ S = (P ++ X1') ++ x' :: (X2 ++ (Y1 ++ y' :: Y2') ++ S) := by simp
        rw [List.length_append, List.length_singleton] at hX1
        rw [this, List.getElem?_append_right (by rw [List.length_append]; omega), List.length_append, show st - 1 - (P.length + X1'.length) = 0 by omega]
        rfl
      have e2 : (P ++ (X1' ++ [x'] ++ X2) ++ (Y1 ++ y' :: Y2') ++ S)[en]? = some y' := by
        have : P ++ (X1' ++ [x'] ++ X2) ++ (Y1 ++ y' :: Y2') ++ S = (P ++ (X1' ++ [x'] ++ X2) ++ Y1) ++ y' :: (Y2' ++ S) := by simp
        rw [this, List.getElem?_append_right (by simp only [List.length_append] at hY1 h3 ⊢; omega)]
        simp only [List.length_append] at hY1 h3 ⊢
        rw [show en - (P.length + (X1'.length + [x'].length + X2.length) + Y1.length) = 0 by omega]
        rfl
      rw [e1] at ex; rw [e2] at ey
      cases ex; cases ey
      have g1 : lt x u = false := by
        rw [List.mem_append, List.mem_singleton] at hu
        rcases hu with hu | rfl
        · exact hx.left.cross u hu x (by simp)
        · exact hw.irrefl _
      have g2 : lt v y = false := by
        rcases List.mem_cons.1 hv with rfl | hv
        · exact hw.irrefl _
        · exact (List.pairwise_cons.1 hy.right).1 v hv
      exact hw.ntrans _ _ _ (hw.ntrans _ _ _ g2 hl) g1
/-- the first of what changes places goes -/
theorem set_mid (A : List α) (x y : α) (B : List α) : (A ++ x :: B).set A.length y = A ++ y :: B := by simp
theorem get_mid (A : List α) (x : α) (B : List α) : (A ++ x :: B)[A.length]? = some x := by simp
/-- neighbors change places -/
theorem swap_two (A B C : List α) (x y : α) : ((A ++ x :: (B ++ y :: C)).set A.length y).set (A.length + (B.length + 1)) x = A ++ y :: (B ++ x :: C) := by
  rw [set_mid]
  simp
end

end Go.Proofs.Ytfpjkeddcagfcaa

/-
  The insertion sort is stable (plain).
-/
namespace Go.Proofs.Ytfpjkeddcagfcaa
open Go.Sort
section
variable {α : Type} [Inhabited α] {lt : α → α → Bool}
theorem arr_mid {d : Array α} {A B : List α} {x : α} (h : d.toList = A ++ x :: B) : d[A.length]! = x := by
  rw [← Array.getElem!_toList, h]
  simp
theorem arr_swp {d : Array α} {A B C : List α} {x y : α} (h : d.toList = A ++ x :: (B ++ y :: C)) (i j : Nat) (hi : i = A.length) (hj : j = A.length + (B.length + 1)) : (swp d j i).toList = A ++ y :: (B ++ x :: C) := by
  subst hi hj
  have e1 : d[A.length]! = x := arr_mid h
  have e2 : d[A.length + (B.length + 1)]! = y := by
    have := arr_mid (d := d) (A := A ++ x :: B) (x := y) (B := C) (by rw [h]; simp)
    simpa using this
  unfold swp
  rw [e1, e2, Array.toList_setIfInBounds, Array.toList_setIfInBounds, h, List.set_comm _ _ (by omega), swap_two]
theorem arr_swp' {d : Array α} {A B C : List α} {x y : α} (h : d.toList = A ++ x :: (B ++ y :: C)) (i j : Nat) (hi : i = A.length) (hj : j = A.length + (B.length + 1)) : (swp d i j).toList = A ++ y :: (B ++ x :: C) := by
  subst hi hj
  have e1 : d[A.length]! = x := arr_mid h
  have e2 : d[A.length + (B.length + 1)]! = y := by
    have := arr_mid (d := d) (A := A ++ x :: B) (x := y) (B := C) (by rw [h]; simp)
    simpa using this
  unfold swp
  rw [e1, e2, Array.toList_setIfInBounds, Array.toList_setIfInBounds, h, swap_two]
theorem insInner_cut (P S : List α) (x : α) (a : Nat) (ha : a = P.length) : ∀ (j : Nat) (Z1 Z2 : List α) (d : Array α), d.toList = P ++ (Z1 ++ x :: (Z2 ++ S)) → j = P.length + Z1.length → (∀ z ∈ Z2, lt x z = true) →
    ∃ W1 W2, W1 ++ W2 = Z1 ++ Z2 ∧ (insInner lt a j d).toList = P ++ (W1 ++ x :: (W2 ++ S)) ∧ (∀ z ∈ W2, lt x z = true) ∧ (W1 = [] ∨ ∃ Z z, W1 = Z ++ [z] ∧ lt x z = false)
  | 0, Z1, Z2, d, h, hj, h2 => ⟨Z1, Z2, rfl, by rw [insInner]; exact h, h2, .inl (List.length_eq_zero_iff.1 (by omega))⟩
  | j + 1, Z1, Z2, d, h, hj, h2 => by
    rcases List.eq_nil_or_concat Z1 with rfl | ⟨Y, y, rfl⟩
    · refine ⟨[], Z2, rfl, ?_, h2, .inl rfl⟩
      rw [insInner, if_neg (by simp at hj; simp; omega)]
      exact h
    · rw [List.concat_eq_append] at h hj
      have hl : j = P.length + Y.length := by simp at hj; omega
      have e1 : d[j + 1]! = x := by
        have := arr_mid (d := d) (A := P ++ (Y ++ [y])) (x := x) (B := Z2 ++ S) (by rw [h]; simp)
        rw [hj]; simpa using this
      have e2 : d[j]! = y := by
        have := arr_mid (d := d) (A := P ++ Y) (x := y) (B := x :: (Z2 ++ S)) (by rw [h]; simp)
        rw [hl]; simpa using this
      rw [insInner, e1, e2]
      cases hc : lt x y with
      | false =>
        rw [if_neg (by simp)]
        exact ⟨Y ++ [y], Z2, by simp, h, h2, .inr ⟨Y, y, rfl, hc⟩⟩
      | true =>
        rw [if_pos (by simp; omega)]
        obtain ⟨W1, W2, g1, g2, g3, g4⟩ := insInner_cut P S x a ha j Y (y :: Z2) (swp d (j + 1) j) (by
          have := arr_swp (d := d) (A := P ++ Y) (B := []) (x := y) (y := x) (C := Z2 ++ S) (by rw [h]; simp) j (j + 1) (by simp [hl]) (by simp [hl])
          rw [this]; simp) hl (fun z hz => by
            rcases List.mem_cons.1 hz with rfl | hz
            · exact hc
            · exact h2 z hz)
        exact ⟨W1, W2, by rw [g1]; simp, g2, g3, g4⟩
theorem insOuter_stb (hw : SWO lt) (P S : List α) (a b : Nat) (ha : a = P.length) : ∀ (n : Nat) (X Z Y : List α) (d : Array α), Y.length = n → Stb lt X Z → d.toList = P ++ (Z ++ (Y ++ S)) → b = P.length + (Z.length + Y.length) →
    ∃ M, (insOuter lt a b (P.length + Z.length) d).toList = P ++ (M ++ S) ∧ Stb lt (X ++ Y) M
  | 0, X, Z, Y, d, hn, h, hd, hb => by
    obtain rfl := List.length_eq_zero_iff.1 hn
    refine ⟨Z, ?_, by simpa using h⟩
    rw [insOuter, if_neg (by simp at hb; omega), hd]; simp
  | n + 1, X, Z, [], d, hn, h, hd, hb => by simp at hn
  | n + 1, X, Z, y :: Y, d, hn, h, hd, hb => by
    obtain ⟨W1, W2, g1, g2, g3, g4⟩ := insInner_cut (lt := lt) P (Y ++ S) y a ha (P.length + Z.length) Z [] d (by rw [hd]; simp) rfl (by simp)
    have hz : W1 ++ W2 = Z := by rw [g1]; simp
    have hl : (W1 ++ [y] ++ W2).length = Z.length + 1 := by rw [← hz]; simp; omega
    obtain ⟨M, m1, m2⟩ := insOuter_stb hw P S a b ha n (X ++ [y]) (W1 ++ [y] ++ W2) Y (insInner lt a (P.length + Z.length) d) (by simpa using hn) (stb_ins hw (hz ▸ h) g3 g4) (by rw [g2]; simp) (by rw [hl, hb]; simp; omega)
    refine ⟨M, ?_, by simpa using m2⟩
    rw [insOuter, if_pos (by rw [hb]; simp)]
    rw [hl] at m1
    exact m1
/-- the part from a to b is sorted stably, the others stay -/
theorem insertionSort_stb (hw : SWO lt) {P X S : List α} {a b : Nat} {d : Array α} (hd : d.toList = P ++ (X ++ S)) (ha : a = P.length) (hb : b = P.length + X.length) :
    ∃ M, (insertionSort lt d a b).toList = P ++ (M ++ S) ∧ Stb lt X M := by
  cases X with
  | nil =>
    refine ⟨[], ?_, Stb.refl srt_nil⟩
    unfold insertionSort
    rw [insOuter, if_neg (by simp at hb; omega)]
    exact hd
  | cons x X =>
    obtain ⟨M, h1, h2⟩ := insOuter_stb hw P S a b ha X.length [x] [x] X d rfl (Stb.refl srt_one) (by rw [hd]; simp) (by rw [hb]; simp; omega)
    refine ⟨M, ?_, h2⟩
    unfold insertionSort
    rw [ha]
    rw [ha] at h1
    exact h1
end
end Go.Proofs.Ytfpjkeddcagfcaa

/-
  Blocks that are sorted, each by itself, and how they are merged: plain words.
-/
namespace Go.Proofs.Ytfpjkeddcagfcaa
open Go.Sort
section
variable {α : Type} {lt : α → α → Bool}
theorem Stb.len {L M : List α} (h : Stb lt L M) : L.length = M.length := h.prm.length_eq
/-- blocks of a size, each sorted stably; the last one may be shorter -/
inductive BlkStb (lt : α → α → Bool) (bs : Nat) : List α → List α → Prop
  | last {X Z : List α} (h : X.length ≤ bs) (s : Stb lt X Z) : BlkStb lt bs X Z
  | cons {X Z L M : List α} (h : X.length = bs) (s : Stb lt X Z) (t : BlkStb lt bs L M) : BlkStb lt bs (X ++ L) (Z ++ M)
/-- whole blocks of a size, each sorted stably -/
inductive FullB (lt : α → α → Bool) (bs : Nat) : List α → List α → Prop
  | nil : FullB lt bs [] []
  | snoc {A M X Z : List α} (t : FullB lt bs A M) (h : X.length = bs) (s : Stb lt X Z) : FullB lt bs (A ++ X) (M ++ Z)
variable {bs : Nat} {A B L M : List α}
theorem BlkStb.len (h : BlkStb lt bs L M) : L.length = M.length := by
  induction h with
  | last _ s => exact s.len
  | cons _ s _ ih => rw [List.length_append, List.length_append, s.len, ih]
theorem FullB.len (h : FullB lt bs L M) : L.length = M.length := by
  induction h with
  | nil => rfl
  | snoc _ _ s ih => rw [List.length_append, List.length_append, s.len, ih]
theorem BlkStb.head (h : BlkStb lt bs L M) (hl : bs ≤ L.length) : ∃ X Z L' M', L = X ++ L' ∧ M = Z ++ M' ∧ X.length = bs ∧ Stb lt X Z ∧ BlkStb lt bs L' M' := by
  cases h with
  | last h s => exact ⟨L, M, [], [], by simp, by simp, by omega, s, .last (Nat.zero_le _) (Stb.refl srt_nil)⟩
  | cons h s t => exact ⟨_, _, _, _, rfl, rfl, h, s, t⟩
theorem BlkStb.one (h : BlkStb lt bs L M) (hl : L.length ≤ bs) : Stb lt L M := by
  cases h with
  | last h s => exact s
  | @cons X Z L M h s t =>
    rw [List.length_append] at hl
    have hL : L = [] := List.eq_nil_of_length_eq_zero (by omega)
    have hM : M = [] := List.eq_nil_of_length_eq_zero (by have := t.len; omega)
    subst hL hM
    simpa using s
theorem FullB.app (h : FullB lt bs L M) : ∀ {B C : List α}, BlkStb lt bs B C → BlkStb lt bs (L ++ B) (M ++ C) := by
  induction h with
  | nil => intro B C hB; exact hB
  | snoc t h s ih =>
    intro B C hB
    rw [List.append_assoc, List.append_assoc]
    exact ih (.cons h s hB)
theorem Stb.two {X1 X2 Z1 Z2 Z : List α} (h1 : Stb lt X1 Z1) (h2 : Stb lt X2 Z2) (h : Stb lt (Z1 ++ Z2) Z) : Stb lt (X1 ++ X2) Z :=
  h.from_ (h1.cls.app h2.cls) (h1.prm.append h2.prm)
/-- the first one goes behind those that are less -/
theorem stb_first (hw : SWO lt) {Y1 Y2 : List α} {x : α} (h : SrtL lt (Y1 ++ Y2)) (h1 : ∀ y ∈ Y1, lt y x = true) (h2 : ∀ y ∈ Y2, lt y x = false) : Stb lt ([x] ++ (Y1 ++ Y2)) (Y1 ++ ([x] ++ Y2)) where
  srt := by
    refine srt_app h.left (srt_app srt_one h.right fun u hu y hy => ?_) fun u hu y hy => ?_
    · rw [List.mem_singleton] at hu
      subst hu
      exact h2 y hy
    · rw [List.mem_append, List.mem_singleton] at hy
      rcases hy with rfl | hy
      · have := h1 u hu
        cases e : lt y u with
        | false => rfl
        | true => have g := hw.trans _ _ _ this e; rw [hw.irrefl] at g; cases g
      · exact h.cross u hu y hy
  cls := by
    have e := SameC.app (SameC.swap hw (U := [x]) (V := Y1) (fun z hz y hy => by rw [List.mem_singleton] at hz; subst hz; exact h1 y hy)) (SameC.rfl' (lt := lt) (L := Y2))
    simpa only [List.append_assoc] using e
  prm := by
    have e := (List.perm_append_comm (l₁ := [x]) (l₂ := Y1)).append_right Y2
    simpa only [List.append_assoc] using e
/-- the last one goes ahead of those that it is less than -/
theorem stb_last (hw : SWO lt) {X1 X2 : List α} {y : α} (h : SrtL lt (X1 ++ X2)) (h1 : ∀ z ∈ X1, lt y z = false) (h2 : ∀ z ∈ X2, lt y z = true) : Stb lt ((X1 ++ X2) ++ [y]) (X1 ++ ([y] ++ X2)) where
  srt := by
    refine srt_app h.left (srt_app srt_one h.right fun u hu z hz => ?_) fun u hu z hz => ?_
    · rw [List.mem_singleton] at hu
      subst hu
      have := h2 z hz
      cases e : lt z u with
      | false => rfl
      | true => have g := hw.trans _ _ _ this e; rw [hw.irrefl] at g; cases g
    · rw [List.mem_append, List.mem_singleton] at hz
      rcases hz with rfl | hz
      · exact h1 u hu
      · exact h.cross u hu z hz
  cls := by
    have e := SameC.app (SameC.rfl' (lt := lt) (L := X1)) (SameC.swap hw (U := X2) (V := [y]) (fun z hz u hu => by rw [List.mem_singleton] at hu; subst hu; exact h2 z hz))
    simpa only [List.append_assoc] using e
  prm := by
    have e := (List.perm_append_comm (l₁ := X2) (l₂ := [y])).append_left X1
    simpa only [List.append_assoc] using e
/-- where a row is cut by a search: those ahead are less than x, those behind aren't -/
theorem cut_less (hw : SWO lt) {P Y S : List α} {x : α} {i : Nat} (hy : SrtL lt Y) (h1 : P.length ≤ i) (h2 : i ≤ P.length + Y.length)
    (lo : i = P.length ∨ ∃ y, (P ++ (Y ++ S))[i - 1]? = some y ∧ lt y x = true) (hi : i = P.length + Y.length ∨ ∃ y, (P ++ (Y ++ S))[i]? = some y ∧ lt y x = false) :
    ∃ Y1 Y2, Y = Y1 ++ Y2 ∧ Y1.length = i - P.length ∧ (∀ y ∈ Y1, lt y x = true) ∧ (∀ y ∈ Y2, lt y x = false) := by
  obtain ⟨Y1, Y2, rfl, hY1⟩ := cut_at Y (i - P.length) (by omega)
  rw [List.length_append] at h2 hi
  refine ⟨Y1, Y2, rfl, hY1, fun u hu => ?_, fun u hu => ?_⟩
  · rcases lo with e | ⟨y, ey, hl⟩
    · have : Y1 = [] := List.eq_nil_of_length_eq_zero (by omega)
      rw [this] at hu; cases hu
    · obtain ⟨Y1', y', rfl⟩ : ∃ Y y, Y1 = Y ++ [y] := ⟨Y1.dropLast, Y1.getLast (List.ne_nil_of_mem hu), (List.dropLast_concat_getLast _).symm⟩
      rw [List.length_append, List.length_singleton] at hY1
      have e1 : (P ++ (Y1' ++ [y'] ++ Y2 ++ S))[i - 1]? = some y' := by
        have : P ++ (Y1' ++ [y'] ++ Y2 ++ S) = (P ++ Y1') ++ y' :: (Y2 ++ S) := by simp
        rw [this, List.getElem?_append_right (by rw [List.length_append]; omega), List.length_append, show i - 1 - (P.length + Y1'.length) = 0 by omega]
        rfl
      rw [e1] at ey
      cases ey
      rw [List.mem_append, List.mem_singleton] at hu
      rcases hu with hu | rfl
      · have g := hy.left.cross u hu y (by simp)
        cases e : lt u x with
        | true => rfl
        | false => have := hw.ntrans _ _ _ g e; rw [hl] at this; cases this
      · exact hl
  · rcases hi with e | ⟨y, ey, hl⟩
    · have : Y2 = [] := List.eq_nil_of_length_eq_zero (by omega)
      rw [this] at hu; cases hu
    · obtain ⟨y', Y2', rfl⟩ := List.exists_cons_of_ne_nil (List.ne_nil_of_mem hu)
      have e1 : (P ++ (Y1 ++ y' :: Y2' ++ S))[i]? = some y' := by
        have : P ++ (Y1 ++ y' :: Y2' ++ S) = (P ++ Y1) ++ y' :: (Y2' ++ S) := by simp
        rw [this, List.getElem?_append_right (by rw [List.length_append]; omega), List.length_append, show i - (P.length + Y1.length) = 0 by omega]
        rfl
      rw [e1] at ey
      cases ey
      rcases List.mem_cons.1 hu with rfl | hu
      · exact hl
      · exact hw.ntrans _ _ _ ((List.pairwise_cons.1 hy.right).1 u hu) hl
/-- where a row is cut by a search: x is not less than those ahead, and less than those behind -/
theorem cut_above (hw : SWO lt) {P X S : List α} {x : α} {i : Nat} (hx : SrtL lt X) (h1 : P.length ≤ i) (h2 : i ≤ P.length + X.length)
    (lo : i = P.length ∨ ∃ y, (P ++ (X ++ S))[i - 1]? = some y ∧ lt x y = false) (hi : i = P.length + X.length ∨ ∃ y, (P ++ (X ++ S))[i]? = some y ∧ lt x y = true) :
    ∃ X1 X2, X = X1 ++ X2 ∧ X1.length = i - P.length ∧ (∀ y ∈ X1, lt x y = false) ∧ (∀ y ∈ X2, lt x y = true) := by
  obtain ⟨Y1, Y2, rfl, hY1⟩ := cut_at X (i - P.length) (by omega)
  rw [List.length_append] at h2 hi
  refine ⟨Y1, Y2, rfl, hY1, fun u hu => ?_, fun u hu => ?_⟩
  · rcases lo with e | ⟨y, ey, hl⟩
    · have : Y1 = [] := List.eq_nil_of_length_eq_zero (by omega)
      rw [this] at hu; cases hu
    · obtain ⟨Y1', y', rfl⟩ : ∃ Y y, Y1 = Y ++ [y] := ⟨Y1.dropLast, Y1.getLast (List.ne_nil_of_mem hu), (List.dropLast_concat_getLast _).symm⟩
      rw [List.length_append, List.length_singleton] at hY1
      have e1 : (P ++ (Y1' ++ [y'] ++ Y2 ++ S))[i - 1]? = some y' := by
        have : P ++ (Y1' ++ [y'] ++ Y2 ++ S) = (P ++ Y1') ++ y' :: (Y2 ++ S) := by simp
        rw [this, List.getElem?_append_right (by rw [List.length_append]; omega), List.length_append, show i - 1 - (P.length + Y1'.length) = 0 by omega]
        rfl
      rw [e1] at ey
      cases ey
      rw [List.mem_append, List.mem_singleton] at hu
      rcases hu with hu | rfl
      · exact hw.ntrans _ _ _ hl (hx.left.cross u hu y (by simp))
      · exact hl
  · rcases hi with e | ⟨y, ey, hl⟩
    · have : Y2 = [] := List.eq_nil_of_length_eq_zero (by omega)
      rw [this] at hu; cases hu
    · obtain ⟨y', Y2', rfl⟩ := List.exists_cons_of_ne_nil (List.ne_nil_of_mem hu)
      have e1 : (P ++ (Y1 ++ y' :: Y2' ++ S))[i]? = some y' := by
        have : P ++ (Y1 ++ y' :: Y2' ++ S) = (P ++ Y1) ++ y' :: (Y2' ++ S) := by simp
        rw [this, List.getElem?_append_right (by rw [List.length_append]; omega), List.length_append, show i - (P.length + Y1.length) = 0 by omega]
        rfl
      rw [e1] at ey
      cases ey
      rcases List.mem_cons.1 hu with rfl | hu
      · exact hl
      · have g := (List.pairwise_cons.1 hx.right).1 u hu
        cases e : lt x u with
        | true => rfl
        | false => have := hw.ntrans _ _ _ e g; rw [hl] at this; cases this
end

end Go.Proofs.Ytfpjkeddcagfcaa

/-
  Keys in order: what the document asks of them.
-/
namespace Go.Proofs.Ytfpjkeddcagfcaa
open Go.RowKit

theorem less_cases (a1 a2 a3 b1 b2 b3 : Int) : (¬a1 = b1 ∧ less3 a1 a2 a3 b1 b2 b3 = decide (a1 < b1)) ∨ (a1 = b1 ∧ ¬a2 = b2 ∧ less3 a1 a2 a3 b1 b2 b3 = decide (a2 < b2)) ∨ (a1 = b1 ∧ a2 = b2 ∧ less3 a1 a2 a3 b1 b2 b3 = decide (a3 < b3)) := by
  unfold less3
  by_cases h1 : a1 = b1
  · by_cases h2 : a2 = b2
    · right; right; simp [h1, h2]
    · right; left; simp [h1, h2]
  · left; simp [h1]
set_option maxHeartbeats 1000000 in
theorem Less07 (a1 a2 a3 b1 b2 b3 : Int) (w : World) {z : Bool} (hz : lessK ⟨a1, a2, a3⟩ ⟨b1, b2, b3⟩ = z) :
    Calls Try.prog 30 #[.agg #[.int .i64 a1, .int .i64 a2, .int .i64 a3], .agg #[.int .i64 b1, .int .i64 b2, .int .i64 b3]] w fun r w' => r = .returned (.bool z) ∧ Below w.heap.size w w' := by
  have Hb := Lib.hid (fun o q => ((Below.refl w.heap.size w).alloc (Nat.le_refl _) o).alloc (by simp) q)
  have hz : less3 a1 a2 a3 b1 b2 b3 = z := hz
  rcases less_cases a1 a2 a3 b1 b2 b3 with ⟨h, e⟩ | ⟨rfl, h, e⟩ | ⟨rfl, rfl, e⟩
  all_goals
    rw [e] at hz
    subst hz
    clear e
    go_enter Try.func30, Try.ntmps30
    go_wp2
    go_ret
    exact ⟨rfl, Hb.out _ _⟩

end Go.Proofs.Ytfpjkeddcagfcaa

/-
  More than a statement takes: each law's own word.
-/
namespace Go.Proofs.Ytfpjkeddcagfcaa
open Go.RowKit

def bigX (x : Lsa) : Bool := decide (20 < x.links.length) || decide (20 < x.members.length)
def manyB (k : Nat) (l : List Lsa) : Bool := l.any bigX || decide (k < l.length)
theorem manyB_lens {k : Nat} {l : List Lsa} (h : manyB k l = false) : l.length ≤ k ∧ ∀ x ∈ l, x.links.length ≤ 20 ∧ x.members.length ≤ 20 := by
  unfold manyB at h
  rw [Bool.or_eq_false_iff] at h
  refine ⟨by have := of_decide_eq_false h.2; omega, fun x hx => ?_⟩
  have := List.any_eq_false.1 h.1 x hx
  unfold bigX at this
  simp at this
  omega
theorem row_lsa9 {w : World} {B : Nat} {A : Option Addr} {l : List Lsa} (h : RowsAt 9 Lsa.cells w B A l) (k : Nat) (hk : k < l.length) :
    ∃ b o, A = some ⟨b, o, none⟩ ∧ b < B ∧ w.cell? ⟨b, o + k * 9, none⟩ = some (.int .i64 l[k].head.age) ∧ w.cell? ⟨b, o + k * 9 + 1, none⟩ = some (.int .i64 l[k].head.kind) ∧ w.cell? ⟨b, o + k * 9 + 2, none⟩ = some (.int .i64 l[k].head.id) ∧ w.cell? ⟨b, o + k * 9 + 3, none⟩ = some (.int .i64 l[k].head.adv) ∧ w.cell? ⟨b, o + k * 9 + 4, none⟩ = some (.int .i64 l[k].head.seq) ∧ w.cell? ⟨b, o + k * 9 + 5, none⟩ = some (.int .i64 l[k].head.sum) ∧ w.cell? ⟨b, o + k * 9 + 6, none⟩ = some (.int .i64 l[k].head.long) ∧
      w.cell? ⟨b, o + k * 9 + 7, none⟩ = some (.slice l[k].ka l[k].links.length l[k].kcap) ∧ w.cell? ⟨b, o + k * 9 + 8, none⟩ = some (.slice l[k].ma l[k].members.length l[k].mcap) := by
  obtain ⟨b, o, e, hb, hc⟩ := h (by omega)
  exact ⟨b, o, e, hb, by simpa using hc k hk 0 _ (by omega) rfl, hc k hk 1 _ (by omega) rfl, hc k hk 2 _ (by omega) rfl, hc k hk 3 _ (by omega) rfl, hc k hk 4 _ (by omega) rfl, hc k hk 5 _ (by omega) rfl, hc k hk 6 _ (by omega) rfl, hc k hk 7 _ (by omega) rfl, hc k hk 8 _ (by omega) rfl⟩

end Go.Proofs.Ytfpjkeddcagfcaa

/-
  Layer 14: more descriptions than a statement takes?
-/
namespace Go.Proofs.Ytfpjkeddcagfcaa
open Go.RowKit Go.Sort

set_option maxHeartbeats 2000000 in
set_option maxRecDepth 100000 in
theorem many14 (A : Option Addr) (c : Nat) (l : List Lsa) (w : World) (B : Nat) (h : RowsAt 9 Lsa.cells w B A l) (hB : B ≤ w.heap.size) (hm : l.length ≤ maxLen) (n : Nat) (hn : n = l.length) {t : Bool} (ht : manyB 60 l = t) :
    Calls Try.prog 7 #[.slice A n c] w fun r w' => r = .returned (.bool t) ∧ Below w.heap.size w w' := by
  subst hn
  unfold maxLen at hm
  have H := Lib.hid (h.more hB)
  have Ht := Lib.hid ht
  clear h hB ht
  go_enter Try.func7, Try.ntmps7
  go_wp2
  go_loopw [7] (fun i wr => ∃ k : Nat, i = .int .i64 k ∧ k ≤ l.length ∧ (l.take k).any bigX = false ∧ Below w.heap.size w wr) (fun i _ => l.length - (intOf i).toNat)
  case atStart => exact ⟨0, rfl, Nat.zero_le _, rfl, Below.refl _ _⟩
  case round =>
    obtain ⟨k, rfl, hk, hany, hb⟩ := hrel
    by_cases hlt : k < l.length
    · obtain ⟨g, o, rfl, -, x0, x1, x2, x3, x4, x5, x6, x7, x8⟩ := row_lsa9 (H.out.below hb) k hlt
      have hkl : (k : Int) < (l.length : Int) := by omega
      have hsucc := List.take_succ_eq_append_getElem hlt
      have hmem := List.getElem_mem hlt
      obtain ⟨x, hx⟩ : ∃ x, l[k] = x := ⟨_, rfl⟩
      rw [hx] at x0 x1 x2 x3 x4 x5 x6 x7 x8 hsucc hmem
      obtain ⟨⟨y1, y2, y3, y4, y5, y6, y7⟩, ka, kc, ls, ma, mc, ms⟩ := x
      simp only at x0 x1 x2 x3 x4 x5 x6 x7 x8
      obtain ⟨nl, hnl⟩ : ∃ nl, ls.length = nl := ⟨_, rfl⟩
      obtain ⟨nm, hnm⟩ : ∃ nm, ms.length = nm := ⟨_, rfl⟩
      rw [hnl] at x7
      rw [hnm] at x8
      have Hb := Lib.hid hb
      have Hal := Lib.hid (fun o => hb.alloc hb.size o)
      by_cases h1 : bigX ⟨⟨y1, y2, y3, y4, y5, y6, y7⟩, ka, kc, ls, ma, mc, ms⟩ = true
      · have ht2 : t = true := by
          rw [← Ht.out]
          unfold manyB
          rw [List.any_eq_true.2 ⟨_, hmem, h1⟩]
          rfl
        have h2 : (20 : Int) < (nl : Int) ∨ (¬ (20 : Int) < (nl : Int) ∧ (20 : Int) < (nm : Int)) := by
          unfold bigX at h1
          simp only [Bool.or_eq_true, decide_eq_true_eq, hnl, hnm] at h1
          omega
        subst ht2
        clear h1 hb hany hx hsucc hmem hnl hnm
        rcases h2 with h2 | ⟨h2, h3⟩
        all_goals
          go_wp2
          go_ret
          exact ⟨rfl, Hal.out _⟩
      · have h2 : ¬ (20 : Int) < (nl : Int) ∧ ¬ (20 : Int) < (nm : Int) := by
          unfold bigX at h1
          simp only [Bool.or_eq_true, decide_eq_true_eq, hnl, hnm] at h1
          omega
        have Hany := Lib.hid (show (l.take (k + 1)).any bigX = false by rw [hsucc, List.any_append, hany]; simpa using h1)
        obtain ⟨h2, h3⟩ := h2
        clear h1 hb hany hx hsucc hmem hnl hnm
        go_wp2
        go_roundw
        case measure => simp [intOf]; omega
        case rel => exact ⟨k + 1, by go_num, hlt, Hany.out, Hal.out _⟩
    · have hkk : k = l.length := by omega
      subst hkk
      rw [List.take_length] at hany
      have ht2 : decide ((60 : Int) < (l.length : Int)) = t := by
        rw [← Ht.out]
        unfold manyB
        rw [hany, Bool.false_or, Bool.eq_iff_iff, decide_eq_true_eq, decide_eq_true_eq]
        omega
      have Ht2 := Lib.hid ht2
      have Hb := Lib.hid hb
      clear hb hany ht2
      go_wp2
      go_ret
      refine ⟨?_, Hb.out⟩
      rw [← Ht2.out]
      rfl

end Go.Proofs.Ytfpjkeddcagfcaa

/-
  A piece that was handed in.
-/
namespace Go.Proofs.Ytfpjkeddcagfcaa
open Go.ChangeShapes Go.WideShapes Go.RowKit Go.Deep Go.Joins

section
variable {H : Type} {enc : TypeId × Value → H} {w : World} {base : Nat} {spare : Nat → Bool} {held : Bool}
theorem cofDd : Try.prog.cellsOf 33 = 5 := by kernel_rfl
theorem cofHeads14 : Try.prog.cellsOf 31 = 1 := by kernel_rfl
set_option maxRecDepth 100000 in
theorem dec_dd {n : Nat} {cs : List Value} {x : DataW H × List MemPlace} (h : DataW.trod enc Try.prog w base spare held n 33 cs = some x) : ∃ (b1 b2 b3 : Bool) (z : Int) (A : Option Addr) (m c : Nat), cs = [.bool b1, .bool b2, .bool b3, .int .i64 z, .slice A m c] := by
  haveI : Inhabited Hd := ⟨⟨0, 0, 0, 0, 0, 0, 0⟩⟩
  obtain ⟨hl, m, hf⟩ := dec_fields Try.underlying33 h
  rw [cofDd] at hl
  match cs, hl with
  | [c0, c1, c2, c3, c4], _ =>
    obtain ⟨_, t0⟩ := fld hf 0 4 0 1 [c0] (by kernel_rfl) cofBool rfl
    obtain ⟨_, t1⟩ := fld hf 1 4 1 1 [c1] (by kernel_rfl) cofBool rfl
    obtain ⟨_, t2⟩ := fld hf 2 4 2 1 [c2] (by kernel_rfl) cofBool rfl
    obtain ⟨_, t3⟩ := fld hf 3 3 3 1 [c3] (by kernel_rfl) cofInt rfl
    obtain ⟨_, t4⟩ := fld hf 4 31 4 1 [c4] (by kernel_rfl) cofHeads14 rfl
    obtain ⟨b1, rfl⟩ := tbool t0
    obtain ⟨b2, rfl⟩ := tbool t1
    obtain ⟨b3, rfl⟩ := tbool t2
    obtain ⟨z, rfl⟩ := tint t3
    obtain ⟨A, cap, R, he, -, -, -⟩ := open_rows (C := 7) Hd.cells Hd.wf (by decide) Try.underlying31 cofHead (fun _ _ _ h => dec_headw h) t4
    simp at he
    exact ⟨b1, b2, b3, z, A, R.length, cap, by rw [he]⟩
set_option maxRecDepth 100000 in
theorem open_dd {r : Reach} {b0 : Nat} {v : Value} {d : DataW H} {p : List MemPlace} (hv : Value.okWide Try.prog w r b0 33 v) (h : DataW.Trod enc Try.prog w base spare held 33 v d p) :
    ∃ (b1 b2 b3 : Bool) (z : Int) (A : Option Addr) (m c : Nat), v = .agg #[.bool b1, .bool b2, .bool b3, .int .i64 z, .slice A m c] := by
  obtain ⟨cs, rfl, _⟩ := okWide_struct Try.underlying33 hv
  obtain ⟨n, hn⟩ := h
  obtain ⟨b1, b2, b3, z, A, m, c, he⟩ := dec_dd hn
  refine ⟨b1, b2, b3, z, A, m, c, ?_⟩
  congr 1
  exact Array.toList_inj.1 he
set_option maxRecDepth 100000 in
theorem open_three {r : Reach} {b0 : Nat} {v : Value} {d : DataW H} {p : List MemPlace} (hv : Value.okWide Try.prog w r b0 22 v) (h : DataW.Trod enc Try.prog w base spare held 22 v d p) :
    ∃ x y z : Int, v = .agg #[.int .i64 x, .int .i64 y, .int .i64 z] := by
  obtain ⟨fuel, hf⟩ := h
  obtain ⟨xs, m, _, _, hlen, _, hi⟩ := DataW.trod_array Try.underlying22 hf
  have hc2 : Try.prog.cellsOf 22 = 3 := by kernel_rfl
  have hxs : ∀ i, i < 3 → ∃ y, DataW.trod enc Try.prog w base spare held m 3 ((v.cells.toList.drop i).take 1) = some y := by
    intro i h2
    have := hi i h2
    rw [cofInt, Nat.mul_one] at this
    have hl : i < xs.length := by omega
    exact ⟨xs[i], by rw [this, List.getElem?_eq_getElem hl]⟩
  rw [hc2] at hlen
  obtain ⟨c0, c1, c2, hcs⟩ : ∃ c0 c1 c2, v.cells.toList = [c0, c1, c2] := by
    match hc : v.cells.toList, hlen with
    | [c0, c1, c2], _ => exact ⟨c0, c1, c2, rfl⟩
  obtain ⟨y0, t0⟩ := hxs 0 (by omega)
  obtain ⟨y1, t1⟩ := hxs 1 (by omega)
  obtain ⟨y2, t2⟩ := hxs 2 (by omega)
  rw [hcs] at t0 t1 t2
  simp at t0 t1 t2
  obtain ⟨z0, rfl⟩ := tint t0
  obtain ⟨z1, rfl⟩ := tint t1
  obtain ⟨z2, rfl⟩ := tint t2
  refine ⟨z0, z1, z2, ?_⟩
  have hcells : v.cells = #[.int .i64 z0, .int .i64 z1, .int .i64 z2] := by
    apply Array.toList_inj.1; rw [hcs]
  have hsz := hv
  simp only [Value.okWide, Try.underlying22] at hsz
  obtain ⟨cs, rfl, _⟩ := hsz
  exact congrArg Value.agg hcells
end

end Go.Proofs.Ytfpjkeddcagfcaa

/-
  Pieces, and two rows of descriptions, that were handed in.
-/
namespace Go.Proofs.Ytfpjkeddcagfcaa
open Go.ChangeShapes Go.WideShapes Go.RowKit Go.Deep Go.Joins

/-- a piece that was handed in: what it tells, and where its heads lie -/
structure DdC where
  b1 : Bool
  b2 : Bool
  b3 : Bool
  z : Int
  a : Option Addr
  m : Nat
  c : Nat
def DdC.cells (d : DdC) : List Value := [.bool d.b1, .bool d.b2, .bool d.b3, .int .i64 d.z, .slice d.a d.m d.c]
section
variable {H : Type} {enc : TypeId × Value → H} {w : World} {base : Nat} {spare : Nat → Bool} {held : Bool}
set_option maxRecDepth 100000 in
theorem open_dds {a : Option Addr} {len cap : Nat} {d : DataW H} {p : List MemPlace} (h : DataW.Trod enc Try.prog w base spare held 24 (.slice a len cap) d p) :
    ∃ l : List DdC, len = l.length ∧ RowsAt 5 DdC.cells w w.heap.size a l ∧ l.length ≤ maxLen := by
  haveI : Inhabited DdC := ⟨⟨false, false, false, 0, none, 0, 0⟩⟩
  obtain ⟨n, hn⟩ := h
  obtain ⟨A, c, R, he, hr, hm, -⟩ := open_rows (C := 5) DdC.cells (fun _ => True) (by decide) Try.underlying24 cofDd (fun _ _ _ h => by
    obtain ⟨b1, b2, b3, z, A, m, c, e⟩ := dec_dd h
    exact ⟨⟨b1, b2, b3, z, A, m, c⟩, e, trivial⟩) hn
  simp [Value.cells] at he
  obtain ⟨rfl, rfl, rfl⟩ := he
  exact ⟨R, rfl, hr, hm⟩
set_option maxRecDepth 100000 in
theorem open_four {r : Reach} {b0 : Nat} {v : Value} {d : DataW H} {p : List MemPlace} (hv : Value.okWide Try.prog w r b0 38 v) (h : DataW.Trod enc Try.prog w base spare held 38 v d p) :
    ∃ x y z u : Int, v = .agg #[.int .i64 x, .int .i64 y, .int .i64 z, .int .i64 u] := by
  obtain ⟨fuel, hf⟩ := h
  obtain ⟨xs, m, _, _, hlen, _, hi⟩ := DataW.trod_array Try.underlying38 hf
  have hc2 : Try.prog.cellsOf 38 = 4 := by kernel_rfl
  have hxs : ∀ i, i < 4 → ∃ y, DataW.trod enc Try.prog w base spare held m 3 ((v.cells.toList.drop i).take 1) = some y := by
    intro i h2
    have := hi i h2
    rw [cofInt, Nat.mul_one] at this
    have hl : i < xs.length := by omega
    exact ⟨xs[i], by rw [this, List.getElem?_eq_getElem hl]⟩
  rw [hc2] at hlen
  obtain ⟨c0, c1, c2, c3, hcs⟩ : ∃ c0 c1 c2 c3, v.cells.toList = [c0, c1, c2, c3] := by
    match hc : v.cells.toList, hlen with
    | [c0, c1, c2, c3], _ => exact ⟨c0, c1, c2, c3, rfl⟩
  obtain ⟨y0, t0⟩ := hxs 0 (by omega)
  obtain ⟨y1, t1⟩ := hxs 1 (by omega)
  obtain ⟨y2, t2⟩ := hxs 2 (by omega)
  obtain ⟨y3, t3⟩ := hxs 3 (by omega)
  rw [hcs] at t0 t1 t2 t3
  simp at t0 t1 t2 t3
  obtain ⟨z0, rfl⟩ := tint t0
  obtain ⟨z1, rfl⟩ := tint t1
  obtain ⟨z2, rfl⟩ := tint t2
  obtain ⟨z3, rfl⟩ := tint t3
  refine ⟨z0, z1, z2, z3, ?_⟩
  have hcells : v.cells = #[.int .i64 z0, .int .i64 z1, .int .i64 z2, .int .i64 z3] := by
    apply Array.toList_inj.1; rw [hcs]
  have hsz := hv
  simp only [Value.okWide, Try.underlying38] at hsz
  obtain ⟨cs, rfl, _⟩ := hsz
  exact congrArg Value.agg hcells
theorem cofLsas14 : Try.prog.cellsOf 23 = 1 := by kernel_rfl
set_option maxRecDepth 100000 in
theorem open_lsas2 {r : Reach} {b0 : Nat} {v : Value} {d : DataW H} {p : List MemPlace} (hv : Value.okWide Try.prog w r b0 39 v) (h : DataW.Trod enc Try.prog w base spare held 39 v d p) :
    ∃ (A1 A2 : Option Addr) (c1 c2 : Nat) (l1 l2 : List Lsa), v = .agg #[.slice A1 l1.length c1, .slice A2 l2.length c2] ∧ LsasAt w w.heap.size A1 l1 ∧ LsasAt w w.heap.size A2 l2 ∧ l1.length ≤ maxLen ∧ l2.length ≤ maxLen := by
  obtain ⟨fuel, hf⟩ := h
  obtain ⟨xs, m, _, _, hlen, _, hi⟩ := DataW.trod_array Try.underlying39 hf
  have hc2 : Try.prog.cellsOf 39 = 2 := by kernel_rfl
  have hxs : ∀ i, i < 2 → ∃ y, DataW.trod enc Try.prog w base spare held m 23 ((v.cells.toList.drop i).take 1) = some y := by
    intro i h2
    have := hi i h2
    rw [cofLsas14, Nat.mul_one] at this
    have hl : i < xs.length := by omega
    exact ⟨xs[i], by rw [this, List.getElem?_eq_getElem hl]⟩
  rw [hc2] at hlen
  obtain ⟨c0, c1, hcs⟩ : ∃ c0 c1, v.cells.toList = [c0, c1] := by
    match hc : v.cells.toList, hlen with
    | [c0, c1], _ => exact ⟨c0, c1, rfl⟩
  obtain ⟨y0, t0⟩ := hxs 0 (by omega)
  obtain ⟨y1, t1⟩ := hxs 1 (by omega)
  rw [hcs] at t0 t1
  simp at t0 t1
  obtain ⟨A1, k1, R1, he1, hr1, hm1, hok1⟩ := open_rows (C := 9) Lsa.cells (Lsa.ok w w.heap.size) (by decide) Try.underlying23 cofLsa (fun _ _ _ h => dec_lsa h) t0
  obtain ⟨A2, k2, R2, he2, hr2, hm2, hok2⟩ := open_rows (C := 9) Lsa.cells (Lsa.ok w w.heap.size) (by decide) Try.underlying23 cofLsa (fun _ _ _ h => dec_lsa h) t1
  simp at he1 he2
  refine ⟨A1, A2, k1, k2, R1, R2, ?_, ⟨hr1, hok1⟩, ⟨hr2, hok2⟩, hm1, hm2⟩
  have hcells : v.cells = #[.slice A1 R1.length k1, .slice A2 R2.length k2] := by
    apply Array.toList_inj.1; rw [hcs, he1, he2]
  have hsz := hv
  simp only [Value.okWide, Try.underlying39] at hsz
  obtain ⟨cs, rfl, _⟩ := hsz
  exact congrArg Value.agg hcells
end

end Go.Proofs.Ytfpjkeddcagfcaa
