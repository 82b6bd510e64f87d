/-
  Blocks that are sorted, each by itself, and how they are merged: plain words.
-/
import Derived.Test.YtpnbibokddhheaaStbPlain
namespace Go.Proofs.Ytpnbibokddhheaa
open Go.Sort
section
variable {α : Type} {lt : α → α → Bool}
theorem Stb.len {L M : List α} (h : Stb lt L M) : L.length = M.length := h.prm.length_eq
/-- blocks of a size, each sorted stably; the last one may be shorter -/
inductive BlkStb (lt : α → α → Bool) (bs : Nat) : List α → List α → Prop
  | last {X Z : List α} (h : X.length ≤ bs) (s : Stb lt X Z) : BlkStb lt bs X Z
  | cons {X Z L M : List α} (h : X.length = bs) (s : Stb lt X Z) (t : BlkStb lt bs L M) : BlkStb lt bs (X ++ L) (Z ++ M)
/-- whole blocks of a size, each sorted stably -/
inductive FullB (lt : α → α → Bool) (bs : Nat) : List α → List α → Prop
  | nil : FullB lt bs [] []
  | snoc {A M X Z : List α} (t : FullB lt bs A M) (h : X.length = bs) (s : Stb lt X Z) : FullB lt bs (A ++ X) (M ++ Z)
variable {bs : Nat} {A B L M : List α}
theorem BlkStb.len (h : BlkStb lt bs L M) : L.length = M.length := by
  induction h with
  | last _ s => exact s.len
  | cons _ s _ ih => rw [List.length_append, List.length_append, s.len, ih]
theorem FullB.len (h : FullB lt bs L M) : L.length = M.length := by
  induction h with
  | nil => rfl
  | snoc _ _ s ih => rw [List.length_append, List.length_append, s.len, ih]
theorem BlkStb.head (h : BlkStb lt bs L M) (hl : bs ≤ L.length) : ∃ X Z L' M', L = X ++ L' ∧ M = Z ++ M' ∧ X.length = bs ∧ Stb lt X Z ∧ BlkStb lt bs L' M' := by
  cases h with
  | last h s => exact ⟨L, M, [], [], by simp, by simp, by omega, s, .last (Nat.zero_le _) (Stb.refl srt_nil)⟩
  | cons h s t => exact ⟨_, _, _, _, rfl, rfl, h, s, t⟩
theorem BlkStb.one (h : BlkStb lt bs L M) (hl : L.length ≤ bs) : Stb lt L M := by
  cases h with
  | last h s => exact s
  | @cons X Z L M h s t =>
    rw [List.length_append] at hl
    have hL : L = [] := List.eq_nil_of_length_eq_zero (by omega)
    have hM : M = [] := List.eq_nil_of_length_eq_zero (by have := t.len; omega)
    subst hL hM
    simpa using s
theorem FullB.app (h : FullB lt bs L M) : ∀ {B C : List α}, BlkStb lt bs B C → BlkStb lt bs (L ++ B) (M ++ C) := by
  induction h with
  | nil => intro B C hB; exact hB
  | snoc t h s ih =>
    intro B C hB
    rw [List.append_assoc, List.append_assoc]
    exact ih (.cons h s hB)
theorem Stb.two {X1 X2 Z1 Z2 Z : List α} (h1 : Stb lt X1 Z1) (h2 : Stb lt X2 Z2) (h : Stb lt (Z1 ++ Z2) Z) : Stb lt (X1 ++ X2) Z :=
  h.from_ (h1.cls.app h2.cls) (h1.prm.append h2.prm)
/-- the first one goes behind those that are less -/
theorem stb_first (hw : SWO lt) {Y1 Y2 : List α} {x : α} (h : SrtL lt (Y1 ++ Y2)) (h1 : ∀ y ∈ Y1, lt y x = true) (h2 : ∀ y ∈ Y2, lt y x = false) : Stb lt ([x] ++ (Y1 ++ Y2)) (Y1 ++ ([x] ++ Y2)) where
  srt := by
    refine srt_app h.left (srt_app srt_one h.right fun u hu y hy => ?_) fun u hu y hy => ?_
    · rw [List.mem_singleton] at hu
      subst hu
      exact h2 y hy
    · rw [List.mem_append, List.mem_singleton] at hy
      rcases hy with rfl | hy
      · have := h1 u hu
        cases e : lt y u with
        | false => rfl
        | true => have g := hw.trans _ _ _ this e; rw [hw.irrefl] at g; cases g
      · exact h.cross u hu y hy
  cls := by
    have e := SameC.app (SameC.swap hw (U := [x]) (V := Y1) (fun z hz y hy => by rw [List.mem_singleton] at hz; subst hz; exact h1 y hy)) (SameC.rfl' (lt := lt) (L := Y2))
    simpa only [List.append_assoc] using e
  prm := by
    have e := (List.perm_append_comm (l₁ := [x]) (l₂ := Y1)).append_right Y2
    simpa only [List.append_assoc] using e
/-- the last one goes ahead of those that it is less than -/
theorem stb_last (hw : SWO lt) {X1 X2 : List α} {y : α} (h : SrtL lt (X1 ++ X2)) (h1 : ∀ z ∈ X1, lt y z = false) (h2 : ∀ z ∈ X2, lt y z = true) : Stb lt ((X1 ++ X2) ++ [y]) (X1 ++ ([y] ++ X2)) where
  srt := by
    refine srt_app h.left (srt_app srt_one h.right fun u hu z hz => ?_) fun u hu z hz => ?_
    · rw [List.mem_singleton] at hu
      subst hu
      have := h2 z hz
      cases e : lt z u with
      | false => rfl
      | true => have g := hw.trans _ _ _ this e; rw [hw.irrefl] at g; cases g
    · rw [List.mem_append, List.mem_singleton] at hz
      rcases hz with rfl | hz
      · exact h1 u hu
      · exact h.cross u hu z hz
  cls := by
    have e := SameC.app (SameC.rfl' (lt := lt) (L := X1)) (SameC.swap hw (U := X2) (V := [y]) (fun z hz u hu => by rw [List.mem_singleton] at hu; subst hu; exact h2 z hz))
    simpa only [List.append_assoc] using e
  prm := by
    have e := (List.perm_append_comm (l₁ := X2) (l₂ := [y])).append_left X1
    simpa only [List.append_assoc] using e
/-- where a row is cut by a search: those ahead are less than x, those behind aren't -/
theorem cut_less (hw : SWO lt) {P Y S : List α} {x : α} {i : Nat} (hy : SrtL lt Y) (h1 : P.length ≤ i) (h2 : i ≤ P.length + Y.length)
    (lo : i = P.length ∨ ∃ y, (P ++ (Y ++ S))[i - 1]? = some y ∧ lt y x = true) (hi : i = P.length + Y.length ∨ ∃ y, (P ++ (Y ++ S))[i]? = some y ∧ lt y x = false) :
    ∃ Y1 Y2, Y = Y1 ++ Y2 ∧ Y1.length = i - P.length ∧ (∀ y ∈ Y1, lt y x = true) ∧ (∀ y ∈ Y2, lt y x = false) := by
  obtain ⟨Y1, Y2, rfl, hY1⟩ := cut_at Y (i - P.length) (by omega)
  rw [List.length_append] at h2 hi
  refine ⟨Y1, Y2, rfl, hY1, fun u hu => ?_, fun u hu => ?_⟩
  · rcases lo with e | ⟨y, ey, hl⟩
    · have : Y1 = [] := List.eq_nil_of_length_eq_zero (by omega)
      rw [this] at hu; cases hu
    · obtain ⟨Y1', y', rfl⟩ : ∃ Y y, Y1 = Y ++ [y] := ⟨Y1.dropLast, Y1.getLast (List.ne_nil_of_mem hu), (List.dropLast_concat_getLast _).symm⟩
      rw [List.length_append, List.length_singleton] at hY1
      have e1 : (P ++ (Y1' ++ [y'] ++ Y2 ++ S))[i - 1]? = some y' := by
        have : P ++ (Y1' ++ [y'] ++ Y2 ++ S) = (P ++ Y1') ++ y' :: (Y2 ++ S) := by simp
        rw [this, List.getElem?_append_right (by rw [List.length_append]; omega), List.length_append, show i - 1 - (P.length + Y1'.length) = 0 by omega]
        rfl
      rw [e1] at ey
      cases ey
      rw [List.mem_append, List.mem_singleton] at hu
      rcases hu with hu | rfl
      · have g := hy.left.cross u hu y (by simp)
        cases e : lt u x with
        | true => rfl
        | false => have := hw.ntrans _ _ _ g e; rw [hl] at this; cases this
      · exact hl
  · rcases hi with e | ⟨y, ey, hl⟩
    · have : Y2 = [] := List.eq_nil_of_length_eq_zero (by omega)
      rw [this] at hu; cases hu
    · obtain ⟨y', Y2', rfl⟩ := List.exists_cons_of_ne_nil (List.ne_nil_of_mem hu)
      have e1 : (P ++ (Y1 ++ y' :: Y2' ++ S))[i]? = some y' := by
        have : P ++ (Y1 ++ y' :: Y2' ++ S) = (P ++ Y1) ++ y' :: (Y2' ++ S) := by simp
        rw [this, List.getElem?_append_right (by rw [List.length_append]; omega), List.length_append, show i - (P.length + Y1.length) = 0 by omega]
        rfl
      rw [e1] at ey
      cases ey
      rcases List.mem_cons.1 hu with rfl | hu
      · exact hl
      · exact hw.ntrans _ _ _ ((List.pairwise_cons.1 hy.right).1 u hu) hl
/-- where a row is cut by a search: x is not less than those ahead, and less than those behind -/
theorem cut_above (hw : SWO lt) {P X S : List α} {x : α} {i : Nat} (hx : SrtL lt X) (h1 : P.length ≤ i) (h2 : i ≤ P.length + X.length)
    (lo : i = P.length ∨ ∃ y, (P ++ (X ++ S))[i - 1]? = some y ∧ lt x y = false) (hi : i = P.length + X.length ∨ ∃ y, (P ++ (X ++ S))[i]? = some y ∧ lt x y = true) :
    ∃ X1 X2, X = X1 ++ X2 ∧ X1.length = i - P.length ∧ (∀ y ∈ X1, lt x y = false) ∧ (∀ y ∈ X2, lt x y = true) := by
  obtain ⟨Y1, Y2, rfl, hY1⟩ := cut_at X (i - P.length) (by omega)
  rw [List.length_append] at h2 hi
  refine ⟨Y1, Y2, rfl, hY1, fun u hu => ?_, fun u hu => ?_⟩
  · rcases lo with e | ⟨y, ey, hl⟩
    · have : Y1 = [] := List.eq_nil_of_length_eq_zero (by omega)
      rw [this] at hu; cases hu
    · obtain ⟨Y1', y', rfl⟩ : ∃ Y y, Y1 = Y ++ [y] := ⟨Y1.dropLast, Y1.getLast (List.ne_nil_of_mem hu), (List.dropLast_concat_getLast _).symm⟩
      rw [List.length_append, List.length_singleton] at hY1
      have e1 : (P ++ (Y1' ++ [y'] ++ Y2 ++ S))[i - 1]? = some y' := by
        have : P ++ (Y1' ++ [y'] ++ Y2 ++ S) = (P ++ Y1') ++ y' :: (Y2 ++ S) := by simp
        rw [this, List.getElem?_append_right (by rw [List.length_append]; omega), List.length_append, show i - 1 - (P.length + Y1'.length) = 0 by omega]
        rfl
      rw [e1] at ey
      cases ey
      rw [List.mem_append, List.mem_singleton] at hu
      rcases hu with hu | rfl
      · exact hw.ntrans _ _ _ hl (hx.left.cross u hu y (by simp))
      · exact hl
  · rcases hi with e | ⟨y, ey, hl⟩
    · have : Y2 = [] := List.eq_nil_of_length_eq_zero (by omega)
      rw [this] at hu; cases hu
    · obtain ⟨y', Y2', rfl⟩ := List.exists_cons_of_ne_nil (List.ne_nil_of_mem hu)
      have e1 : (P ++ (Y1 ++ y' :: Y2' ++ S))[i]? = some y' := by
        have : P ++ (Y1 ++ y' :: Y2' ++ S) = (P ++ Y1) ++ y' :: (Y2' ++ S) := by simp
        rw [this, List.getElem?_append_right (by rw [List.length_append]; omega), List.length_append, show i - (P.length + Y1.length) = 0 by omega]
        rfl
      rw [e1] at ey
      cases ey
      rcases List.mem_cons.1 hu with rfl | hu
      · exact hl
      · have g := (List.pairwise_cons.1 hx.right).1 u hu
        cases e : lt x u with
        | true => rfl
        | false => have := hw.ntrans _ _ _ e g; rw [hl] at this; cases this
end

end Go.Proofs.Ytpnbibokddhheaa
