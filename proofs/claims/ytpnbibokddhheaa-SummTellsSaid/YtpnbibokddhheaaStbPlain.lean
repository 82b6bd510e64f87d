/-
  Stable sorting in plain words: neighbors that change places, blocks that are merged.
-/
import Derived.Sort.Statements
namespace Go.Proofs.Ytpnbibokddhheaa
open Go.Sort

section
variable {α : Type} {lt : α → α → Bool}
/-- neither is less -/
def eqvB (lt : α → α → Bool) (x y : α) : Bool := !lt x y && !lt y x
def SrtL (lt : α → α → Bool) (L : List α) : Prop := L.Pairwise fun x y => lt y x = false
/-- of each class the same, in the same order -/
def SameC (lt : α → α → Bool) (L M : List α) : Prop := ∀ x, L.filter (eqvB lt x) = M.filter (eqvB lt x)
/-- the second row is the first one, sorted stably -/
structure Stb (lt : α → α → Bool) (L M : List α) : Prop where
  srt : SrtL lt M
  cls : SameC lt L M
  prm : L.Perm M
theorem SameC.rfl' {L : List α} : SameC lt L L := fun _ => rfl
theorem SameC.trans {L M N : List α} (h : SameC lt L M) (g : SameC lt M N) : SameC lt L N := fun x => (h x).trans (g x)
theorem SameC.app {L M L' M' : List α} (h : SameC lt L M) (g : SameC lt L' M') : SameC lt (L ++ L') (M ++ M') := fun x => by rw [List.filter_append, List.filter_append, h x, g x]
theorem SameC.swap (hw : SWO lt) {U V : List α} (h : ∀ x ∈ U, ∀ y ∈ V, lt y x = true) : SameC lt (U ++ V) (V ++ U) := fun c => by
  rw [List.filter_append, List.filter_append]
  by_cases hu : U.filter (eqvB lt c) = []
  · rw [hu]; simp
  · have hv : V.filter (eqvB lt c) = [] := by
      rw [List.filter_eq_nil_iff]
      intro y hy hc
      obtain ⟨x, hx⟩ := List.exists_mem_of_ne_nil _ hu
      rw [List.mem_filter] at hx
      unfold eqvB at hx hc
      simp only [Bool.and_eq_true, Bool.not_eq_true'] at hx hc
      have := hw.ntrans _ _ _ hc.2 hx.2.1
      rw [h x hx.1 y hy] at this
      cases this
    rw [hv]; simp
theorem eqvB_self (hw : SWO lt) (x : α) : eqvB lt x x = true := by unfold eqvB; rw [hw.irrefl]; rfl
theorem SameC.mem (hw : SWO lt) {L M : List α} (h : SameC lt L M) {x : α} (hx : x ∈ L) : x ∈ M := by
  have : x ∈ L.filter (eqvB lt x) := List.mem_filter.2 ⟨hx, eqvB_self hw x⟩
  rw [h x] at this
  exact (List.mem_filter.1 this).1
theorem srt_unique (hw : SWO lt) : ∀ {M N : List α}, SrtL lt M → SrtL lt N → SameC lt M N → M = N
  | [], [], _, _, _ => rfl
  | [], y :: N, _, _, h => by have := SameC.mem hw (fun x => (h x).symm) (List.mem_cons_self (a := y) (l := N)); cases this
  | x :: M, [], _, _, h => by have := SameC.mem hw h (List.mem_cons_self (a := x) (l := M)); cases this
  | x :: M, y :: N, h1, h2, h => by
    obtain ⟨a1, a2⟩ := List.pairwise_cons.1 h1
    obtain ⟨b1, b2⟩ := List.pairwise_cons.1 h2
    have g1 : lt x y = false := by
      rcases List.mem_cons.1 (SameC.mem hw h (List.mem_cons_self (a := x) (l := M))) with e | e
      · rw [e]; exact hw.irrefl _
      · exact b1 _ e
    have g2 : lt y x = false := by
      rcases List.mem_cons.1 (SameC.mem hw (fun x => (h x).symm) (List.mem_cons_self (a := y) (l := N))) with e | e
      · rw [e]; exact hw.irrefl _
      · exact a1 _ e
    have hxy : eqvB lt x y = true := by unfold eqvB; rw [g1, g2]; rfl
    have e := h x
    rw [List.filter_cons_of_pos (eqvB_self hw x), List.filter_cons_of_pos hxy] at e
    injection e with e1 e2
    subst e1
    have ht : SameC lt M N := fun c => by
      have e := h c
      cases hc : eqvB lt c x with
      | true => rw [List.filter_cons_of_pos hc, List.filter_cons_of_pos hc] at e; injection e
      | false => rw [List.filter_cons_of_neg (by rw [hc]; decide), List.filter_cons_of_neg (by rw [hc]; decide)] at e; exact e
    rw [srt_unique hw a2 b2 ht]
theorem Stb.unique (hw : SWO lt) {L M N : List α} (h : Stb lt L M) (g : Stb lt L N) : M = N := srt_unique hw h.srt g.srt fun x => (h.cls x).symm.trans (g.cls x)
theorem Stb.refl {L : List α} (h : SrtL lt L) : Stb lt L L := ⟨h, SameC.rfl', List.Perm.refl _⟩
theorem Stb.from_ {L M N : List α} (h : Stb lt M N) (hc : SameC lt L M) (hp : L.Perm M) : Stb lt L N := ⟨h.srt, hc.trans h.cls, hp.trans h.prm⟩
theorem srt_app {L M : List α} (h1 : SrtL lt L) (h2 : SrtL lt M) (h : ∀ x ∈ L, ∀ y ∈ M, lt y x = false) : SrtL lt (L ++ M) := List.pairwise_append.2 ⟨h1, h2, h⟩
theorem SrtL.left {L M : List α} (h : SrtL lt (L ++ M)) : SrtL lt L := (List.pairwise_append.1 h).1
theorem SrtL.right {L M : List α} (h : SrtL lt (L ++ M)) : SrtL lt M := (List.pairwise_append.1 h).2.1
theorem SrtL.cross {L M : List α} (h : SrtL lt (L ++ M)) : ∀ x ∈ L, ∀ y ∈ M, lt y x = false := (List.pairwise_append.1 h).2.2
theorem srt_nil : SrtL lt [] := List.Pairwise.nil
theorem srt_one {x : α} : SrtL lt [x] := List.pairwise_singleton _ _
/-- two sorted rows, cut in two each, merged part by part -/
theorem merge_cut (hw : SWO lt) {X1 X2 Y1 Y2 Z1 Z2 : List α} (hx : SrtL lt (X1 ++ X2)) (hy : SrtL lt (Y1 ++ Y2)) (h1 : ∀ x ∈ X2, ∀ y ∈ Y1, lt y x = true) (h2 : ∀ x ∈ X1, ∀ y ∈ Y2, lt y x = false)
    (g1 : Stb lt (X1 ++ Y1) Z1) (g2 : Stb lt (X2 ++ Y2) Z2) : Stb lt ((X1 ++ X2) ++ (Y1 ++ Y2)) (Z1 ++ Z2) where
  srt := by
    refine srt_app g1.srt g2.srt fun x hx' y hy' => ?_
    rw [← g1.prm.mem_iff, List.mem_append] at hx'
    rw [← g2.prm.mem_iff, List.mem_append] at hy'
    rcases hx' with hx' | hx' <;> rcases hy' with hy' | hy'
    · exact hx.cross x hx' y hy'
    · exact h2 x hx' y hy'
    · have := h1 y hy' x hx'
      cases e : lt y x with
      | false => rfl
      | true => have g := hw.trans _ _ _ this e; rw [hw.irrefl] at g; cases g
    · exact hy.cross x hx' y hy'
  cls := by
    have h : SameC lt ((X1 ++ X2) ++ (Y1 ++ Y2)) ((X1 ++ Y1) ++ (X2 ++ Y2)) := by
      have e := SameC.app (SameC.rfl' (lt := lt) (L := X1)) (SameC.app (SameC.swap hw h1) (SameC.rfl' (L := Y2)))
      simpa only [List.append_assoc] using e
    exact h.trans (g1.cls.app g2.cls)
  prm := by
    have h : ((X1 ++ X2) ++ (Y1 ++ Y2)).Perm ((X1 ++ Y1) ++ (X2 ++ Y2)) := by
      have e := ((List.perm_append_comm (l₁ := X2) (l₂ := Y1)).append_right Y2).append_left X1
      simpa only [List.append_assoc] using e
    exact h.trans (g1.prm.append g2.prm)
/-- one more behind what is sorted, brought to its place -/
theorem stb_ins (hw : SWO lt) {X Z1 Z2 : List α} {x : α} (h : Stb lt X (Z1 ++ Z2)) (h1 : ∀ z ∈ Z2, lt x z = true) (h2 : Z1 = [] ∨ ∃ Z z, Z1 = Z ++ [z] ∧ lt x z = false) : Stb lt (X ++ [x]) (Z1 ++ [x] ++ Z2) where
  srt := by
    have hz : ∀ z ∈ Z1, lt x z = false := by
      rcases h2 with rfl | ⟨Z, z, rfl, hz⟩
      · simp
      · intro u hu
        rw [List.mem_append, List.mem_singleton] at hu
        rcases hu with hu | rfl
        · exact hw.ntrans _ _ _ hz (h.srt.left.cross u hu z (by simp))
        · exact hz
    refine srt_app (srt_app h.srt.left srt_one fun u hu y hy => by rw [List.mem_singleton] at hy; subst hy; exact hz u hu) h.srt.right fun u hu y hy => ?_
    rw [List.mem_append, List.mem_singleton] at hu
    rcases hu with hu | rfl
    · exact h.srt.cross u hu y hy
    · have := h1 y hy
      cases e : lt y u with
      | false => rfl
      | true => have g := hw.trans _ _ _ this e; rw [hw.irrefl] at g; cases g
  cls := by
    have e := (h.cls.app (SameC.rfl' (L := [x])))
    refine e.trans ?_
    have e2 := SameC.app (SameC.rfl' (lt := lt) (L := Z1)) (SameC.swap hw (U := Z2) (V := [x]) (fun z hz y hy => by rw [List.mem_singleton] at hy; subst hy; exact h1 z hz))
    simpa only [List.append_assoc] using e2
  prm := by
    refine (h.prm.append_right [x]).trans ?_
    have e := (List.perm_append_comm (l₁ := Z2) (l₂ := [x])).append_left Z1
    simpa only [List.append_assoc] using e
theorem cut_at (L : List α) (k : Nat) (hk : k ≤ L.length) : ∃ A B, L = A ++ B ∧ A.length = k := ⟨L.take k, L.drop k, (List.take_append_drop k L).symm, by rw [List.length_take]; omega⟩
/-- what a search finds: where both rows are cut -/
theorem search_cut (hw : SWO lt) {P X Y S : List α} {st en : Nat} (hx : SrtL lt X) (hy : SrtL lt Y) (h1 : P.length ≤ st) (h2 : st ≤ P.length + X.length) (h3 : P.length + X.length ≤ en) (h4 : en ≤ P.length + X.length + Y.length)
    (lo : st = P.length ∨ en = P.length + X.length + Y.length ∨ ∃ x y, (P ++ X ++ Y ++ S)[st - 1]? = some x ∧ (P ++ X ++ Y ++ S)[en]? = some y ∧ lt y x = false)
    (hi : st = P.length + X.length ∨ en = P.length + X.length ∨ ∃ x y, (P ++ X ++ Y ++ S)[st]? = some x ∧ (P ++ X ++ Y ++ S)[en - 1]? = some y ∧ lt y x = true) :
    ∃ X1 X2 Y1 Y2, X = X1 ++ X2 ∧ Y = Y1 ++ Y2 ∧ X1.length = st - P.length ∧ Y1.length = en - (P.length + X.length) ∧ (∀ x ∈ X2, ∀ y ∈ Y1, lt y x = true) ∧ (∀ x ∈ X1, ∀ y ∈ Y2, lt y x = false) := by
  obtain ⟨X1, X2, rfl, hX1⟩ := cut_at X (st - P.length) (by omega)
  obtain ⟨Y1, Y2, rfl, hY1⟩ := cut_at Y (en - (P.length + (X1 ++ X2).length)) (by omega)
  rw [List.length_append] at h2 h3 h4 hY1 lo hi
  refine ⟨X1, X2, Y1, Y2, rfl, rfl, hX1, by rw [List.length_append]; exact hY1, ?_, ?_⟩
  · intro u hu v hv
    rcases hi with e | e | ⟨x, y, ex, ey, hl⟩
    · have : X2 = [] := List.eq_nil_of_length_eq_zero (by omega)
      rw [this] at hu; cases hu
    · have : Y1 = [] := List.eq_nil_of_length_eq_zero (by omega)
      rw [this] at hv; cases hv
    · obtain ⟨x', X2', rfl⟩ := List.exists_cons_of_ne_nil (List.ne_nil_of_mem hu)
      obtain ⟨Y1', y', rfl⟩ : ∃ Y y, Y1 = Y ++ [y] := ⟨Y1.dropLast, Y1.getLast (List.ne_nil_of_mem hv), (List.dropLast_concat_getLast _).symm⟩
      have e1 : (P ++ (X1 ++ x' :: X2') ++ (Y1' ++ [y'] ++ Y2) ++ S)[st]? = some x' := by
        have : P ++ (X1 ++ x' :: X2') ++ (Y1' ++ [y'] ++ Y2) ++ S = (P ++ X1) ++ x' :: (X2' ++ (Y1' ++ [y'] ++ Y2) ++ S) := by simp
        rw [this, List.getElem?_append_right (by rw [List.length_append]; omega), List.length_append, show st - (P.length + X1.length) = 0 by omega]
        rfl
      have e2 : (P ++ (X1 ++ x' :: X2') ++ (Y1' ++ [y'] ++ Y2) ++ S)[en - 1]? = some y' := by
        have : P ++ (X1 ++ x' :: X2') ++ (Y1' ++ [y'] ++ Y2) ++ S = (P ++ (X1 ++ x' :: X2') ++ Y1') ++ y' :: (Y2 ++ S) := by simp
        rw [List.length_append, List.length_singleton] at hY1
        rw [this, List.getElem?_append_right (by rw [List.length_append, List.length_append, List.length_append]; omega)]
        simp only [List.length_append] at hY1 h3 ⊢
        rw [show en - 1 - (P.length + (X1.length + (x' :: X2').length) + Y1'.length) = 0 by omega]
        rfl
      rw [e1] at ex; rw [e2] at ey
      cases ex; cases ey
      have g1 : lt u x = false := by
        rcases List.mem_cons.1 hu with rfl | hu
        · exact hw.irrefl _
        · exact (List.pairwise_cons.1 hx.right).1 u hu
      have g2 : lt y v = false := by
        rw [List.mem_append, List.mem_singleton] at hv
        rcases hv with hv | rfl
        · exact hy.left.cross v hv y (by simp)
        · exact hw.irrefl _
      cases e : lt v u with
      | true => rfl
      | false =>
        have := hw.ntrans _ _ _ (hw.ntrans _ _ _ g2 e) g1
        rw [hl] at this
        cases this
  · intro u hu v hv
    rcases lo with e | e | ⟨x, y, ex, ey, hl⟩
    · have : X1 = [] := List.eq_nil_of_length_eq_zero (by omega)
      rw [this] at hu; cases hu
    · have : Y2 = [] := List.eq_nil_of_length_eq_zero (by rw [List.length_append] at e; omega)
      rw [this] at hv; cases hv
    · obtain ⟨X1', x', rfl⟩ : ∃ Y y, X1 = Y ++ [y] := ⟨X1.dropLast, X1.getLast (List.ne_nil_of_mem hu), (List.dropLast_concat_getLast _).symm⟩
      obtain ⟨y', Y2', rfl⟩ := List.exists_cons_of_ne_nil (List.ne_nil_of_mem hv)
      have e1 : (P ++ (X1' ++ [x'] ++ X2) ++ (Y1 ++ y' :: Y2') ++ S)[st - 1]? = some x' := by
        have : P ++ (X1' ++ [x'] ++ X2) ++ (Y1 ++ y' :: Y2') ++ S = (P ++ X1') ++ x' :: (X2 ++ (Y1 ++ y' :: Y2') ++ S) := by simp
        rw [List.length_append, List.length_singleton] at hX1
        rw [this, List.getElem?_append_right (by rw [List.length_append]; omega), List.length_append, show st - 1 - (P.length + X1'.length) = 0 by omega]
        rfl
      have e2 : (P ++ (X1' ++ [x'] ++ X2) ++ (Y1 ++ y' :: Y2') ++ S)[en]? = some y' := by
        have : P ++ (X1' ++ [x'] ++ X2) ++ (Y1 ++ y' :: Y2') ++ S = (P ++ (X1' ++ [x'] ++ X2) ++ Y1) ++ y' :: (Y2' ++ S) := by simp
        rw [this, List.getElem?_append_right (by simp only [List.length_append] at hY1 h3 ⊢; omega)]
        simp only [List.length_append] at hY1 h3 ⊢
        rw [show en - (P.length + (X1'.length + [x'].length + X2.length) + Y1.length) = 0 by omega]
        rfl
      rw [e1] at ex; rw [e2] at ey
      cases ex; cases ey
      have g1 : lt x u = false := by
        rw [List.mem_append, List.mem_singleton] at hu
        rcases hu with hu | rfl
        · exact hx.left.cross u hu x (by simp)
        · exact hw.irrefl _
      have g2 : lt v y = false := by
        rcases List.mem_cons.1 hv with rfl | hv
        · exact hw.irrefl _
        · exact (List.pairwise_cons.1 hy.right).1 v hv
      exact hw.ntrans _ _ _ (hw.ntrans _ _ _ g2 hl) g1
/-- the first of what changes places goes -/
theorem set_mid (A : List α) (x y : α) (B : List α) : (A ++ x :: B).set A.length y = A ++ y :: B := by simp
theorem get_mid (A : List α) (x : α) (B : List α) : (A ++ x :: B)[A.length]? = some x := by simp
/-- neighbors change places -/
theorem swap_two (A B C : List α) (x y : α) : ((A ++ x :: (B ++ y :: C)).set A.length y).set (A.length + (B.length + 1)) x = A ++ y :: (B ++ x :: C) := by
  rw [set_mid]
  simp
end

end Go.Proofs.Ytpnbibokddhheaa
