/-
  Stable sorting in plain words: neighbors that change places, blocks that are merged.
-/
import Derived.Sort.Statements
import Derived.RegionTactic
import Derived.Laws.CopyRow
import Derived.Test.YtpnbibokddhheaaGreatBaa
import Derived.Test.YtpnbibokddhheaaGreatBab
import Derived.Test.YtpnbibokddhheaaGreatBac
import Derived.Test.YtpnbibokddhheaaGreatBag
namespace Go.Proofs.YtpnbibokddhheaaGreat
open Go.Sort

section
variable {α : Type} {lt : α → α → Bool}
/-- neither is less -/
def eqvB (lt : α → α → Bool) (x y : α) : Bool := !lt x y && !lt y x
def SrtL (lt : α → α → Bool) (L : List α) : Prop := L.Pairwise fun x y => lt y x = false
/-- of each class the same, in the same order -/
def SameC (lt : α → α → Bool) (L M : List α) : Prop := ∀ x, L.filter (eqvB lt x) = M.filter (eqvB lt x)
/-- the second row is the first one, sorted stably -/
structure Stb (lt : α → α → Bool) (L M : List α) : Prop where
  srt : SrtL lt M
  cls : SameC lt L M
  prm : L.Perm M
theorem SameC.rfl' {L : List α} : SameC lt L L := fun _ => rfl
theorem SameC.trans {L M N : List α} (h : SameC lt L M) (g : SameC lt M N) : SameC lt L N := fun x => (h x).trans (g x)
theorem SameC.app {L M L' M' : List α} (h : SameC lt L M) (g : SameC lt L' M') : SameC lt (L ++ L') (M ++ M') := fun x => by rw [List.filter_append, List.filter_append, h x, g x]
theorem SameC.swap (hw : SWO lt) {U V : List α} (h : ∀ x ∈ U, ∀ y ∈ V, lt y x = true) : SameC lt (U ++ V) (V ++ U) := fun c => by
  rw [List.filter_append, List.filter_append]
  by_cases hu : U.filter (eqvB lt c) = []
  · rw [hu]; simp
  · have hv : V.filter (eqvB lt c) = [] := by
      rw [List.filter_eq_nil_iff]
      intro y hy hc
      obtain ⟨x, hx⟩ := List.exists_mem_of_ne_nil _ hu
      rw [List.mem_filter] at hx
      unfold eqvB at hx hc
      simp only [Bool.and_eq_true, Bool.not_eq_true'] at hx hc
      have := hw.ntrans _ _ _ hc.2 hx.2.1
      rw [h x hx.1 y hy] at this
      cases this
    rw [hv]; simp
theorem eqvB_self (hw : SWO lt) (x : α) : eqvB lt x x = true := by unfold eqvB; rw [hw.irrefl]; rfl
theorem SameC.mem (hw : SWO lt) {L M : List α} (h : SameC lt L M) {x : α} (hx : x ∈ L) : x ∈ M := by
  have : x ∈ L.filter (eqvB lt x) := List.mem_filter.2 ⟨hx, eqvB_self hw x⟩
  rw [h x] at this
  exact (List.mem_filter.1 this).1
theorem srt_unique (hw : SWO lt) : ∀ {M N : List α}, SrtL lt M → SrtL lt N → SameC lt M N → M = N
  | [], [], _, _, _ => rfl
  | [], y :: N, _, _, h => by have := SameC.mem hw (fun x => (h x).symm) (List.mem_cons_self (a := y) (l := N)); cases this
  | x :: M, [], _, _, h => by have := SameC.mem hw h (List.mem_cons_self (a := x) (l := M)); cases this
  | x :: M, y :: N, h1, h2, h => by
    obtain ⟨a1, a2⟩ := List.pairwise_cons.1 h1
    obtain ⟨b1, b2⟩ := List.pairwise_cons.1 h2
    have g1 : lt x y = false := by
      rcases List.mem_cons.1 (SameC.mem hw h (List.mem_cons_self (a := x) (l := M))) with e | e
      · rw [e]; exact hw.irrefl _
      · exact b1 _ e
    have g2 : lt y x = false := by
      rcases List.mem_cons.1 (SameC.mem hw (fun x => (h x).symm) (List.mem_cons_self (a := y) (l := N))) with e | e
      · rw [e]; exact hw.irrefl _
      · exact a1 _ e
    have hxy : eqvB lt x y = true := by unfold eqvB; rw [g1, g2]; rfl
    have e := h x
    rw [List.filter_cons_of_pos (eqvB_self hw x), List.filter_cons_of_pos hxy] at e
    injection e with e1 e2
    subst e1
    have ht : SameC lt M N := fun c => by
      have e := h c
      cases hc : eqvB lt c x with
      | true => rw [List.filter_cons_of_pos hc, List.filter_cons_of_pos hc] at e; injection e
      | false => rw [List.filter_cons_of_neg (by rw [hc]; decide), List.filter_cons_of_neg (by rw [hc]; decide)] at e; exact e
    rw [srt_unique hw a2 b2 ht]
theorem Stb.unique (hw : SWO lt) {L M N : List α} (h : Stb lt L M) (g : Stb lt L N) : M = N := srt_unique hw h.srt g.srt fun x => (h.cls x).symm.trans (g.cls x)
theorem Stb.refl {L : List α} (h : SrtL lt L) : Stb lt L L := ⟨h, SameC.rfl', List.Perm.refl _⟩
theorem Stb.from_ {L M N : List α} (h : Stb lt M N) (hc : SameC lt L M) (hp : L.Perm M) : Stb lt L N := ⟨h.srt, hc.trans h.cls, hp.trans h.prm⟩
theorem srt_app {L M : List α} (h1 : SrtL lt L) (h2 : SrtL lt M) (h : ∀ x ∈ L, ∀ y ∈ M, lt y x = false) : SrtL lt (L ++ M) := List.pairwise_append.2 ⟨h1, h2, h⟩
theorem SrtL.left {L M : List α} (h : SrtL lt (L ++ M)) : SrtL lt L := (List.pairwise_append.1 h).1
theorem SrtL.right {L M : List α} (h : SrtL lt (L ++ M)) : SrtL lt M := (List.pairwise_append.1 h).2.1
theorem SrtL.cross {L M : List α} (h : SrtL lt (L ++ M)) : ∀ x ∈ L, ∀ y ∈ M, lt y x = false := (List.pairwise_append.1 h).2.2
theorem srt_nil : SrtL lt [] := List.Pairwise.nil
theorem srt_one {x : α} : SrtL lt [x] := List.pairwise_singleton _ _
/-- two sorted rows, cut in two each, merged part by part -/
theorem merge_cut (hw : SWO lt) {X1 X2 Y1 Y2 Z1 Z2 : List α} (hx : SrtL lt (X1 ++ X2)) (hy : SrtL lt (Y1 ++ Y2)) (h1 : ∀ x ∈ X2, ∀ y ∈ Y1, lt y x = true) (h2 : ∀ x ∈ X1, ∀ y ∈ Y2, lt y x = false)
    (g1 : Stb lt (X1 ++ Y1) Z1) (g2 : Stb lt (X2 ++ Y2) Z2) : Stb lt ((X1 ++ X2) ++ (Y1 ++ Y2)) (Z1 ++ Z2) where
  srt := by
    refine srt_app g1.srt g2.srt fun x hx' y hy' => ?_
    rw [← g1.prm.mem_iff, List.mem_append] at hx'
    rw [← g2.prm.mem_iff, List.mem_append] at hy'
    rcases hx' with hx' | hx' <;> rcases hy' with hy' | hy'
    · exact hx.cross x hx' y hy'
    · exact h2 x hx' y hy'
    · have := h1 y hy' x hx'
      cases e : lt y x with
      | false => rfl
      | true => have g := hw.trans _ _ _ this e; rw [hw.irrefl] at g; cases g
    · exact hy.cross x hx' y hy'
  cls := by
    have h : SameC lt ((X1 ++ X2) ++ (Y1 ++ Y2)) ((X1 ++ Y1) ++ (X2 ++ Y2)) := by
      have e := SameC.app (SameC.rfl' (lt := lt) (L := X1)) (SameC.app (SameC.swap hw h1) (SameC.rfl' (L := Y2)))
      simpa only [List.append_assoc] using e
    exact h.trans (g1.cls.app g2.cls)
  prm := by
    have h : ((X1 ++ X2) ++ (Y1 ++ Y2)).Perm ((X1 ++ Y1) ++ (X2 ++ Y2)) := by
      have e := ((List.perm_append_comm (l₁ := X2) (l₂ := Y1)).append_right Y2).append_left X1
      simpa only [List.append_assoc] using e
    exact h.trans (g1.prm.append g2.prm)
/-- one more behind what is sorted, brought to its place -/
theorem stb_ins (hw : SWO lt) {X Z1 Z2 : List α} {x : α} (h : Stb lt X (Z1 ++ Z2)) (h1 : ∀ z ∈ Z2, lt x z = true) (h2 : Z1 = [] ∨ ∃ Z z, Z1 = Z ++ [z] ∧ lt x z = false) : Stb lt (X ++ [x]) (Z1 ++ [x] ++ Z2) where
  srt := by
    have hz : ∀ z ∈ Z1, lt x z = false := by
      rcases h2 with rfl | ⟨Z, z, rfl, hz⟩
      · simp
      · intro u hu
        rw [List.mem_append, List.mem_singleton] at hu
        rcases hu with hu | rfl
        · exact hw.ntrans _ _ _ hz (h.srt.left.cross u hu z (by simp))
        · exact hz
    refine srt_app (srt_app h.srt.left srt_one fun u hu y hy => by rw [List.mem_singleton] at hy; subst hy; exact hz u hu) h.srt.right fun u hu y hy => ?_
    rw [List.mem_append, List.mem_singleton] at hu
    rcases hu with hu | rfl
    · exact h.srt.cross u hu y hy
    · have := h1 y hy
      cases e : lt y u with
      | false => rfl
      | true => have g := hw.trans _ _ _ this e; rw [hw.irrefl] at g; cases g
  cls := by
    have e := (h.cls.app (SameC.rfl' (L := [x])))
    refine e.trans ?_
    have e2 := SameC.app (SameC.rfl' (lt := lt) (L := Z1)) (SameC.swap hw (U := Z2) (V := [x]) (fun z hz y hy => by rw [List.mem_singleton] at hy; subst hy; exact h1 z hz))
    simpa only [List.append_assoc] using e2
  prm := by
    refine (h.prm.append_right [x]).trans ?_
    have e := (List.perm_append_comm (l₁ := Z2) (l₂ := [x])).append_left Z1
    simpa only [List.append_assoc] using e
theorem cut_at (L : List α) (k : Nat) (hk : k ≤ L.length) : ∃ A B, L = A ++ B ∧ A.length = k := ⟨L.take k, L.drop k, (List.take_append_drop k L).symm, by rw [List.length_take]; omega⟩
/-- what a search finds: where both rows are cut -/
theorem search_cut (hw : SWO lt) {P X Y S : List α} {st en : Nat} (hx : SrtL lt X) (hy : SrtL lt Y) (h1 : P.length ≤ st) (h2 : st ≤ P.length + X.length) (h3 : P.length + X.length ≤ en) (h4 : en ≤ P.length + X.length + Y.length)
    (lo : st = P.length ∨ en = P.length + X.length + Y.length ∨ ∃ x y, (P ++ X ++ Y ++ S)[st - 1]? = some x ∧ (P ++ X ++ Y ++ S)[en]? = some y ∧ lt y x = false)
    (hi : st = P.length + X.length ∨ en = P.length + X.length ∨ ∃ x y, (P ++ X ++ Y ++ S)[st]? = some x ∧ (P ++ X ++ Y ++ S)[en - 1]? = some y ∧ lt y x = true) :
    ∃ X1 X2 Y1 Y2, X = X1 ++ X2 ∧ Y = Y1 ++ Y2 ∧ X1.length = st - P.length ∧ Y1.length = en - (P.length + X.length) ∧ (∀ x ∈ X2, ∀ y ∈ Y1, lt y x = true) ∧ (∀ x ∈ X1, ∀ y ∈ Y2, lt y x = false) := by
  obtain ⟨X1, X2, rfl, hX1⟩ := cut_at X (st - P.length) (by omega)
  obtain ⟨Y1, Y2, rfl, hY1⟩ := cut_at Y (en - (P.length + (X1 ++ X2).length)) (by omega)
  rw [List.length_append] at h2 h3 h4 hY1 lo hi
  refine ⟨X1, X2, Y1, Y2, rfl, rfl, hX1, by rw [List.length_append]; exact hY1, ?_, ?_⟩
  · intro u hu v hv
    rcases hi with e | e | ⟨x, y, ex, ey, hl⟩
    · have : X2 = [] := List.eq_nil_of_length_eq_zero (by omega)
      rw [this] at hu; cases hu
    · have : Y1 = [] := List.eq_nil_of_length_eq_zero (by omega)
      rw [this] at hv; cases hv
    · obtain ⟨x', X2', rfl⟩ := List.exists_cons_of_ne_nil (List.ne_nil_of_mem hu)
      obtain ⟨Y1', y', rfl⟩ : ∃ Y y, Y1 = Y ++ [y] := ⟨Y1.dropLast, Y1.getLast (List.ne_nil_of_mem hv), (List.dropLast_concat_getLast _).symm⟩
      have e1 : (P ++ (X1 ++ x' :: X2') ++ (Y1' ++ [y'] ++ Y2) ++ S)[st]? = some x' := by
        have : P ++ (X1 ++ x' :: X2') ++ (Y1' ++ [y'] ++ Y2) ++ S = (P ++ X1) ++ x' :: (X2' ++ (Y1' ++ [y'] ++ Y2) ++ S) := by simp
        rw [this, List.getElem?_append_right (by rw [List.length_append]; omega), List.length_append, show st - (P.length + X1.length) = 0 by omega]
        rfl
      have e2 : (P ++ (X1 ++ x' :: X2') ++ (Y1' ++ [y'] ++ Y2) ++ S)[en - 1]? = some y' := by
        have : P ++ (X1 ++ x' :: X2') ++ (Y1' ++ [y'] ++ Y2) ++ S = (P ++ (X1 ++ x' :: X2') ++ Y1') ++ y' :: (Y2 ++ S) := by simp
        rw [List.length_append, List.length_singleton] at hY1
        rw [this, List.getElem?_append_right (by rw [List.length_append, List.length_append, List.length_append]; omega)]
        simp only [List.length_append] at hY1 h3 ⊢
        rw [show en - 1 - (P.length + (X1.length + (x' :: X2').length) + Y1'.length) = 0 by omega]
        rfl
      rw [e1] at ex; rw [e2] at ey
      cases ex; cases ey
      have g1 : lt u x = false := by
        rcases List.mem_cons.1 hu with rfl | hu
        · exact hw.irrefl _
        · exact (List.pairwise_cons.1 hx.right).1 u hu
      have g2 : lt y v = false := by
        rw [List.mem_append, List.mem_singleton] at hv
        rcases hv with hv | rfl
        · exact hy.left.cross v hv y (by simp)
        · exact hw.irrefl _
      cases e : lt v u with
      | true => rfl
      | false =>
        have := hw.ntrans _ _ _ (hw.ntrans _ _ _ g2 e) g1
        rw [hl] at this
        cases this
  · intro u hu v hv
    rcases lo with e | e | ⟨x, y, ex, ey, hl⟩
    · have : X1 = [] := List.eq_nil_of_length_eq_zero (by omega)
      rw [this] at hu; cases hu
    · have : Y2 = [] := List.eq_nil_of_length_eq_zero (by rw [List.length_append] at e; omega)
      rw [this] at hv; cases hv
    · obtain ⟨X1', x', rfl⟩ : ∃ Y y, X1 = Y ++ [y] := ⟨X1.dropLast, X1.getLast (List.ne_nil_of_mem hu), (List.dropLast_concat_getLast _).symm⟩
      obtain ⟨y', Y2', rfl⟩ := List.exists_cons_of_ne_nil (List.ne_nil_of_mem hv)
      have e1 : (P ++ (X1' ++ [x'] ++ X2) ++ (Y1 ++ y' :: Y2') ++ S)[st - 1]? = some x' := by
        have : P ++ (X1' ++ [x'] ++ X2) ++ (Y1 ++ y' :: Y2') ++ S = (P ++ X1') ++ x' :: (X2 ++ (Y1 ++ y' :: Y2') ++ S) := by simp
        rw [List.length_append, List.length_singleton] at hX1
        rw [this, List.getElem?_append_right (by rw [List.length_append]; omega), List.length_append, show st - 1 - (P.length + X1'.length) = 0 by omega]
        rfl
      have e2 : (P ++ (X1' ++ [x'] ++ X2) ++ (Y1 ++ y' :: Y2') ++ S)[en]? = some y' := by
        have : P ++ (X1' ++ [x'] ++ X2) ++ (Y1 ++ y' :: Y2') ++ S = (P ++ (X1' ++ [x'] ++ X2) ++ Y1) ++ y' :: (Y2' ++ S) := by simp
        rw [this, List.getElem?_append_right (by simp only [List.length_append] at hY1 h3 ⊢; omega)]
        simp only [List.length_append] at hY1 h3 ⊢
        rw [show en - (P.length + (X1'.length + [x'].length + X2.length) + Y1.length) = 0 by omega]
        rfl
      rw [e1] at ex; rw [e2] at ey
      cases ex; cases ey
      have g1 : lt x u = false := by
        rw [List.mem_append, List.mem_singleton] at hu
        rcases hu with hu | rfl
        · exact hx.left.cross u hu x (by simp)
        · exact hw.irrefl _
      have g2 : lt v y = false := by
        rcases List.mem_cons.1 hv with rfl | hv
        · exact hw.irrefl _
        · exact (List.pairwise_cons.1 hy.right).1 v hv
      exact hw.ntrans _ _ _ (hw.ntrans _ _ _ g2 hl) g1
/-- the first of what changes places goes -/
theorem set_mid (A : List α) (x y : α) (B : List α) : (A ++ x :: B).set A.length y = A ++ y :: B := by simp
theorem get_mid (A : List α) (x : α) (B : List α) : (A ++ x :: B)[A.length]? = some x := by simp
/-- neighbors change places -/
theorem swap_two (A B C : List α) (x y : α) : ((A ++ x :: (B ++ y :: C)).set A.length y).set (A.length + (B.length + 1)) x = A ++ y :: (B ++ x :: C) := by
  rw [set_mid]
  simp
end

end Go.Proofs.YtpnbibokddhheaaGreat

/-
  Blocks that are sorted, each by itself, and how they are merged: plain words.
-/
namespace Go.Proofs.YtpnbibokddhheaaGreat
open Go.Sort
section
variable {α : Type} {lt : α → α → Bool}
theorem Stb.len {L M : List α} (h : Stb lt L M) : L.length = M.length := h.prm.length_eq
/-- blocks of a size, each sorted stably; the last one may be shorter -/
inductive BlkStb (lt : α → α → Bool) (bs : Nat) : List α → List α → Prop
  | last {X Z : List α} (h : X.length ≤ bs) (s : Stb lt X Z) : BlkStb lt bs X Z
  | cons {X Z L M : List α} (h : X.length = bs) (s : Stb lt X Z) (t : BlkStb lt bs L M) : BlkStb lt bs (X ++ L) (Z ++ M)
/-- whole blocks of a size, each sorted stably -/
inductive FullB (lt : α → α → Bool) (bs : Nat) : List α → List α → Prop
  | nil : FullB lt bs [] []
  | snoc {A M X Z : List α} (t : FullB lt bs A M) (h : X.length = bs) (s : Stb lt X Z) : FullB lt bs (A ++ X) (M ++ Z)
variable {bs : Nat} {A B L M : List α}
theorem BlkStb.len (h : BlkStb lt bs L M) : L.length = M.length := by
  induction h with
  | last _ s => exact s.len
  | cons _ s _ ih => rw [List.length_append, List.length_append, s.len, ih]
theorem FullB.len (h : FullB lt bs L M) : L.length = M.length := by
  induction h with
  | nil => rfl
  | snoc _ _ s ih => rw [List.length_append, List.length_append, s.len, ih]
theorem BlkStb.head (h : BlkStb lt bs L M) (hl : bs ≤ L.length) : ∃ X Z L' M', L = X ++ L' ∧ M = Z ++ M' ∧ X.length = bs ∧ Stb lt X Z ∧ BlkStb lt bs L' M' := by
  cases h with
  | last h s => exact ⟨L, M, [], [], by simp, by simp, by omega, s, .last (Nat.zero_le _) (Stb.refl srt_nil)⟩
  | cons h s t => exact ⟨_, _, _, _, rfl, rfl, h, s, t⟩
theorem BlkStb.one (h : BlkStb lt bs L M) (hl : L.length ≤ bs) : Stb lt L M := by
  cases h with
  | last h s => exact s
  | @cons X Z L M h s t =>
    rw [List.length_append] at hl
    have hL : L = [] := List.eq_nil_of_length_eq_zero (by omega)
    have hM : M = [] := List.eq_nil_of_length_eq_zero (by have := t.len; omega)
    subst hL hM
    simpa using s
theorem FullB.app (h : FullB lt bs L M) : ∀ {B C : List α}, BlkStb lt bs B C → BlkStb lt bs (L ++ B) (M ++ C) := by
  induction h with
  | nil => intro B C hB; exact hB
  | snoc t h s ih =>
    intro B C hB
    rw [List.append_assoc, List.append_assoc]
    exact ih (.cons h s hB)
theorem Stb.two {X1 X2 Z1 Z2 Z : List α} (h1 : Stb lt X1 Z1) (h2 : Stb lt X2 Z2) (h : Stb lt (Z1 ++ Z2) Z) : Stb lt (X1 ++ X2) Z :=
  h.from_ (h1.cls.app h2.cls) (h1.prm.append h2.prm)
/-- the first one goes behind those that are less -/
theorem stb_first (hw : SWO lt) {Y1 Y2 : List α} {x : α} (h : SrtL lt (Y1 ++ Y2)) (h1 : ∀ y ∈ Y1, lt y x = true) (h2 : ∀ y ∈ Y2, lt y x = false) : Stb lt ([x] ++ (Y1 ++ Y2)) (Y1 ++ ([x] ++ Y2)) where
  srt := by
    refine srt_app h.left (srt_app srt_one h.right fun u hu y hy => ?_) fun u hu y hy => ?_
    · rw [List.mem_singleton] at hu
      subst hu
      exact h2 y hy
    · rw [List.mem_append, List.mem_singleton] at hy
      rcases hy with rfl | hy
      · have := h1 u hu
        cases e : lt y u with
        | false => rfl
        | true => have g := hw.trans _ _ _ this e; rw [hw.irrefl] at g; cases g
      · exact h.cross u hu y hy
  cls := by
    have e := SameC.app (SameC.swap hw (U := [x]) (V := Y1) (fun z hz y hy => by rw [List.mem_singleton] at hz; subst hz; exact h1 y hy)) (SameC.rfl' (lt := lt) (L := Y2))
    simpa only [List.append_assoc] using e
  prm := by
    have e := (List.perm_append_comm (l₁ := [x]) (l₂ := Y1)).append_right Y2
    simpa only [List.append_assoc] using e
/-- the last one goes ahead of those that it is less than -/
theorem stb_last (hw : SWO lt) {X1 X2 : List α} {y : α} (h : SrtL lt (X1 ++ X2)) (h1 : ∀ z ∈ X1, lt y z = false) (h2 : ∀ z ∈ X2, lt y z = true) : Stb lt ((X1 ++ X2) ++ [y]) (X1 ++ ([y] ++ X2)) where
  srt := by
    refine srt_app h.left (srt_app srt_one h.right fun u hu z hz => ?_) fun u hu z hz => ?_
    · rw [List.mem_singleton] at hu
      subst hu
      have := h2 z hz
      cases e : lt z u with
      | false => rfl
      | true => have g := hw.trans _ _ _ this e; rw [hw.irrefl] at g; cases g
    · rw [List.mem_append, List.mem_singleton] at hz
      rcases hz with rfl | hz
      · exact h1 u hu
      · exact h.cross u hu z hz
  cls := by
    have e := SameC.app (SameC.rfl' (lt := lt) (L := X1)) (SameC.swap hw (U := X2) (V := [y]) (fun z hz u hu => by rw [List.mem_singleton] at hu; subst hu; exact h2 z hz))
    simpa only [List.append_assoc] using e
  prm := by
    have e := (List.perm_append_comm (l₁ := X2) (l₂ := [y])).append_left X1
    simpa only [List.append_assoc] using e
/-- where a row is cut by a search: those ahead are less than x, those behind aren't -/
theorem cut_less (hw : SWO lt) {P Y S : List α} {x : α} {i : Nat} (hy : SrtL lt Y) (h1 : P.length ≤ i) (h2 : i ≤ P.length + Y.length)
    (lo : i = P.length ∨ ∃ y, (P ++ (Y ++ S))[i - 1]? = some y ∧ lt y x = true) (hi : i = P.length + Y.length ∨ ∃ y, (P ++ (Y ++ S))[i]? = some y ∧ lt y x = false) :
    ∃ Y1 Y2, Y = Y1 ++ Y2 ∧ Y1.length = i - P.length ∧ (∀ y ∈ Y1, lt y x = true) ∧ (∀ y ∈ Y2, lt y x = false) := by
  obtain ⟨Y1, Y2, rfl, hY1⟩ := cut_at Y (i - P.length) (by omega)
  rw [List.length_append] at h2 hi
  refine ⟨Y1, Y2, rfl, hY1, fun u hu => ?_, fun u hu => ?_⟩
  · rcases lo with e | ⟨y, ey, hl⟩
    · have : Y1 = [] := List.eq_nil_of_length_eq_zero (by omega)
      rw [this] at hu; cases hu
    · obtain ⟨Y1', y', rfl⟩ : ∃ Y y, Y1 = Y ++ [y] := ⟨Y1.dropLast, Y1.getLast (List.ne_nil_of_mem hu), (List.dropLast_concat_getLast _).symm⟩
      rw [List.length_append, List.length_singleton] at hY1
      have e1 : (P ++ (Y1' ++ [y'] ++ Y2 ++ S))[i - 1]? = some y' := by
        have : P ++ (Y1' ++ [y'] ++ Y2 ++ S) = (P ++ Y1') ++ y' :: (Y2 ++ S) := by simp
        rw [this, List.getElem?_append_right (by rw [List.length_append]; omega), List.length_append, show i - 1 - (P.length + Y1'.length) = 0 by omega]
        rfl
      rw [e1] at ey
      cases ey
      rw [List.mem_append, List.mem_singleton] at hu
      rcases hu with hu | rfl
      · have g := hy.left.cross u hu y (by simp)
        cases e : lt u x with
        | true => rfl
        | false => have := hw.ntrans _ _ _ g e; rw [hl] at this; cases this
      · exact hl
  · rcases hi with e | ⟨y, ey, hl⟩
    · have : Y2 = [] := List.eq_nil_of_length_eq_zero (by omega)
      rw [this] at hu; cases hu
    · obtain ⟨y', Y2', rfl⟩ := List.exists_cons_of_ne_nil (List.ne_nil_of_mem hu)
      have e1 : (P ++ (Y1 ++ y' :: Y2' ++ S))[i]? = some y' := by
        have : P ++ (Y1 ++ y' :: Y2' ++ S) = (P ++ Y1) ++ y' :: (Y2' ++ S) := by simp
        rw [this, List.getElem?_append_right (by rw [List.length_append]; omega), List.length_append, show i - (P.length + Y1.length) = 0 by omega]
        rfl
      rw [e1] at ey
      cases ey
      rcases List.mem_cons.1 hu with rfl | hu
      · exact hl
      · exact hw.ntrans _ _ _ ((List.pairwise_cons.1 hy.right).1 u hu) hl
/-- where a row is cut by a search: x is not less than those ahead, and less than those behind -/
theorem cut_above (hw : SWO lt) {P X S : List α} {x : α} {i : Nat} (hx : SrtL lt X) (h1 : P.length ≤ i) (h2 : i ≤ P.length + X.length)
    (lo : i = P.length ∨ ∃ y, (P ++ (X ++ S))[i - 1]? = some y ∧ lt x y = false) (hi : i = P.length + X.length ∨ ∃ y, (P ++ (X ++ S))[i]? = some y ∧ lt x y = true) :
    ∃ X1 X2, X = X1 ++ X2 ∧ X1.length = i - P.length ∧ (∀ y ∈ X1, lt x y = false) ∧ (∀ y ∈ X2, lt x y = true) := by
  obtain ⟨Y1, Y2, rfl, hY1⟩ := cut_at X (i - P.length) (by omega)
  rw [List.length_append] at h2 hi
  refine ⟨Y1, Y2, rfl, hY1, fun u hu => ?_, fun u hu => ?_⟩
  · rcases lo with e | ⟨y, ey, hl⟩
    · have : Y1 = [] := List.eq_nil_of_length_eq_zero (by omega)
      rw [this] at hu; cases hu
    · obtain ⟨Y1', y', rfl⟩ : ∃ Y y, Y1 = Y ++ [y] := ⟨Y1.dropLast, Y1.getLast (List.ne_nil_of_mem hu), (List.dropLast_concat_getLast _).symm⟩
      rw [List.length_append, List.length_singleton] at hY1
      have e1 : (P ++ (Y1' ++ [y'] ++ Y2 ++ S))[i - 1]? = some y' := by
        have : P ++ (Y1' ++ [y'] ++ Y2 ++ S) = (P ++ Y1') ++ y' :: (Y2 ++ S) := by simp
        rw [this, List.getElem?_append_right (by rw [List.length_append]; omega), List.length_append, show i - 1 - (P.length + Y1'.length) = 0 by omega]
        rfl
      rw [e1] at ey
      cases ey
      rw [List.mem_append, List.mem_singleton] at hu
      rcases hu with hu | rfl
      · exact hw.ntrans _ _ _ hl (hx.left.cross u hu y (by simp))
      · exact hl
  · rcases hi with e | ⟨y, ey, hl⟩
    · have : Y2 = [] := List.eq_nil_of_length_eq_zero (by omega)
      rw [this] at hu; cases hu
    · obtain ⟨y', Y2', rfl⟩ := List.exists_cons_of_ne_nil (List.ne_nil_of_mem hu)
      have e1 : (P ++ (Y1 ++ y' :: Y2' ++ S))[i]? = some y' := by
        have : P ++ (Y1 ++ y' :: Y2' ++ S) = (P ++ Y1) ++ y' :: (Y2' ++ S) := by simp
        rw [this, List.getElem?_append_right (by rw [List.length_append]; omega), List.length_append, show i - (P.length + Y1.length) = 0 by omega]
        rfl
      rw [e1] at ey
      cases ey
      rcases List.mem_cons.1 hu with rfl | hu
      · exact hl
      · have g := (List.pairwise_cons.1 hx.right).1 u hu
        cases e : lt x u with
        | true => rfl
        | false => have := hw.ntrans _ _ _ e g; rw [hl] at this; cases this
end

end Go.Proofs.YtpnbibokddhheaaGreat

/-
  A row of heads: a cell, or a head, of it set.
-/
namespace Go.Proofs.YtpnbibokddhheaaGreat
open Go.RowKit

theorem set_flatH13 (l : List Hd) (k : Nat) (c : Hd) (hk : k < l.length) :
    (l.set k c).flatMap Hd.cells = (((((((l.flatMap Hd.cells).set (k * 7) (.int .i64 c.age)).set (k * 7 + 1) (.int .i64 c.kind)).set (k * 7 + 2) (.int .i64 c.id)).set (k * 7 + 3) (.int .i64 c.adv)).set (k * 7 + 4) (.int .i64 c.seq)).set (k * 7 + 5) (.int .i64 c.sum)).set (k * 7 + 6) (.int .i64 c.long) := by
  induction l generalizing k with
  | nil => simp at hk
  | cons d l ih =>
    cases k with
    | zero => simp [Hd.cells]
    | succ k =>
      have h := ih k (by simpa using hk)
      simp only [List.set_cons_succ, List.flatMap_cons, h]
      have h4 : d.cells.length = 7 := rfl
      rw [List.set_append_right _ _ (by omega), List.set_append_right _ _ (by omega), List.set_append_right _ _ (by omega), List.set_append_right _ _ (by omega), List.set_append_right _ _ (by omega), List.set_append_right _ _ (by omega), List.set_append_right _ _ (by omega)]
      simp only [h4, show (k + 1) * 7 - 7 = k * 7 by omega, show (k + 1) * 7 + 1 - 7 = k * 7 + 1 by omega, show (k + 1) * 7 + 2 - 7 = k * 7 + 2 by omega, show (k + 1) * 7 + 3 - 7 = k * 7 + 3 by omega, show (k + 1) * 7 + 4 - 7 = k * 7 + 4 by omega, show (k + 1) * 7 + 5 - 7 = k * 7 + 5 by omega, show (k + 1) * 7 + 6 - 7 = k * 7 + 6 by omega]
section
variable {w : World} {B g cap n : Nat} {l : List Hd}
theorem OwnH13.set7 (h : OwnR 27 7 Hd.cells w B (.slice (some ⟨g, 0, none⟩) n cap) l) (hn : n = l.length) (k : Nat) (hk : k < l.length) (c : Hd) :
    OwnR 27 7 Hd.cells (((((((w.setCell ⟨g, k * 7, none⟩ (.int .i64 c.age)).setCell ⟨g, k * 7 + 1, none⟩ (.int .i64 c.kind)).setCell ⟨g, k * 7 + 2, none⟩ (.int .i64 c.id)).setCell ⟨g, k * 7 + 3, none⟩ (.int .i64 c.adv)).setCell ⟨g, k * 7 + 4, none⟩ (.int .i64 c.seq)).setCell ⟨g, k * 7 + 5, none⟩ (.int .i64 c.sum)).setCell ⟨g, k * 7 + 6, none⟩ (.int .i64 c.long)) B (.slice (some ⟨g, 0, none⟩) n cap) (l.set k c) := by
  subst hn
  unfold OwnR
  rw [set_flatH13 l k c hk, List.length_set]
  exact (((((((World.ownsRow.stored h (k * 7) (.int .i64 c.age)).1.stored (k * 7 + 1) (.int .i64 c.kind)).1.stored (k * 7 + 2) (.int .i64 c.id)).1.stored (k * 7 + 3) (.int .i64 c.adv)).1.stored (k * 7 + 4) (.int .i64 c.seq)).1.stored (k * 7 + 5) (.int .i64 c.sum)).1.stored (k * 7 + 6) (.int .i64 c.long)).1

end
section
variable {w w' : World} {B g cap n : Nat} {l : List Hd} {v0 : Value}
theorem OwnH13.frozen (h : OwnR 27 7 Hd.cells w B (.slice (some ⟨g, 0, none⟩) n cap) l) (i : Nat) : w.frozen? ⟨g, i, none⟩ = false := by
  rcases h.2 with ⟨hv, -⟩ | ⟨g', cap', cur, hv, -, hb, -⟩
  · cases hv
  · simp only [Value.slice.injEq, Option.some.injEq, Addr.mk.injEq, and_true] at hv
    obtain ⟨rfl, -, -⟩ := hv
    simp [World.frozen?, hb]
theorem grown7 (w : World) (g o : Nat) (a b c d e f x : Value) : w.grownBy (((((((w.setCell ⟨g, o, none⟩ a).setCell ⟨g, o + 1, none⟩ b).setCell ⟨g, o + 2, none⟩ c).setCell ⟨g, o + 3, none⟩ d).setCell ⟨g, o + 4, none⟩ e).setCell ⟨g, o + 5, none⟩ f).setCell ⟨g, o + 6, none⟩ x) (some g) :=
  (((((((World.grownBy.refl w (some g)).set rfl _).set rfl _).set rfl _).set rfl _).set rfl _).set rfl _).set rfl _
theorem below_set7k (h : Below B w w') (hg : B ≤ g) (o : Nat) (a b c d e f x : Value) : Below B w (((((((w'.setCell ⟨g, o, none⟩ a).setCell ⟨g, o + 1, none⟩ b).setCell ⟨g, o + 2, none⟩ c).setCell ⟨g, o + 3, none⟩ d).setCell ⟨g, o + 4, none⟩ e).setCell ⟨g, o + 5, none⟩ f).setCell ⟨g, o + 6, none⟩ x) :=
  ((((((h.setCell hg _).setCell hg _).setCell hg _).setCell hg _).setCell hg _).setCell hg _).setCell hg _
theorem row_own7 (h : OwnR 27 7 Hd.cells w B v0 l) (k : Nat) (hk : k < l.length) : ∃ g c, v0 = .slice (some ⟨g, 0, none⟩) l.length c ∧ w.cell? ⟨g, k * 7, none⟩ = some (.int .i64 l[k].age) ∧ w.cell? ⟨g, k * 7 + 1, none⟩ = some (.int .i64 l[k].kind) ∧ w.cell? ⟨g, k * 7 + 2, none⟩ = some (.int .i64 l[k].id) ∧ w.cell? ⟨g, k * 7 + 3, none⟩ = some (.int .i64 l[k].adv) ∧ w.cell? ⟨g, k * 7 + 4, none⟩ = some (.int .i64 l[k].seq) ∧ w.cell? ⟨g, k * 7 + 5, none⟩ = some (.int .i64 l[k].sum) ∧ w.cell? ⟨g, k * 7 + 6, none⟩ = some (.int .i64 l[k].long) := by
  rcases h.shape2 with ⟨-, hn⟩ | ⟨g, c, rfl, hc⟩
  · subst hn; simp at hk
  · obtain ⟨b, o, e, -, hcl⟩ := (OwnR.rows (C := 7) (cells := Hd.cells) (fun _ => rfl) h).2 (by omega)
    injection e with e
    injection e with e1 e2
    subst e1 e2
    have z := fun i u hi hu => hcl k hk i u hi hu
    simp only [Nat.zero_add] at z
    exact ⟨g, c, rfl, by simpa using z 0 _ (by omega) rfl, z 1 _ (by omega) rfl, z 2 _ (by omega) rfl, z 3 _ (by omega) rfl, z 4 _ (by omega) rfl, z 5 _ (by omega) rfl, z 6 _ (by omega) rfl⟩
theorem row_hd7 {A : Option Addr} (h : RowsAt 7 Hd.cells w B A l) (k : Nat) (hk : k < l.length) : ∃ b o, A = some ⟨b, o, none⟩ ∧ b < B ∧ w.cell? ⟨b, o + k * 7, none⟩ = some (.int .i64 l[k].age) ∧ w.cell? ⟨b, o + k * 7 + 1, none⟩ = some (.int .i64 l[k].kind) ∧ w.cell? ⟨b, o + k * 7 + 2, none⟩ = some (.int .i64 l[k].id) ∧ w.cell? ⟨b, o + k * 7 + 3, none⟩ = some (.int .i64 l[k].adv) ∧ w.cell? ⟨b, o + k * 7 + 4, none⟩ = some (.int .i64 l[k].seq) ∧ w.cell? ⟨b, o + k * 7 + 5, none⟩ = some (.int .i64 l[k].sum) ∧ w.cell? ⟨b, o + k * 7 + 6, none⟩ = some (.int .i64 l[k].long) := by
  obtain ⟨b, o, e, hb, hc⟩ := h (by omega)
  exact ⟨b, o, e, hb, by simpa using hc k hk 0 _ (by omega) rfl, hc k hk 1 _ (by omega) rfl, hc k hk 2 _ (by omega) rfl, hc k hk 3 _ (by omega) rfl, hc k hk 4 _ (by omega) rfl, hc k hk 5 _ (by omega) rfl, hc k hk 6 _ (by omega) rfl⟩
end

end Go.Proofs.YtpnbibokddhheaaGreat

/-
  A row in order, each once: plain words.
-/
namespace Go.Proofs.YtpnbibokddhheaaGreat

/-- the first n of a row, but those that are like the one ahead -/
def cptN {α : Type} [DecidableEq α] (L : List α) : Nat → List α
  | 0 => []
  | 1 => L.take 1
  | n + 2 => if L[n + 1]? = L[n]? then cptN L (n + 1) else cptN L (n + 1) ++ (L[n + 1]?).toList
def cptL {α : Type} [DecidableEq α] (L : List α) : List α := cptN L L.length
section
variable {α : Type} [DecidableEq α] {L : List α}
theorem cptN_len : ∀ n, (cptN L n).length ≤ n
  | 0 => Nat.le_refl _
  | 1 => by show (L.take 1).length ≤ 1; rw [List.length_take]; omega
  | n + 2 => by
    have ih := cptN_len (n + 1)
    unfold cptN
    split
    · omega
    · rw [List.length_append]
      have : (L[n + 1]?).toList.length ≤ 1 := by cases L[n + 1]? <;> simp
      omega
theorem cptN_pos (h0 : 0 < L.length) : ∀ n, 0 < n → 0 < (cptN L n).length
  | 0, h => absurd h (by omega)
  | 1, _ => by show 0 < (L.take 1).length; rw [List.length_take]; omega
  | n + 2, _ => by
    have ih := cptN_pos h0 (n + 1) (by omega)
    unfold cptN
    split
    · exact ih
    · rw [List.length_append]; omega
theorem cptN_same {n : Nat} (h : n + 1 < L.length) (e : L[n + 1] = L[n]) : cptN L (n + 2) = cptN L (n + 1) := by
  conv => lhs; unfold cptN
  rw [if_pos (by rw [List.getElem?_eq_getElem h, List.getElem?_eq_getElem (by omega), e])]
theorem cptN_new {n : Nat} (h : n + 1 < L.length) (e : L[n + 1] ≠ L[n]) : cptN L (n + 2) = cptN L (n + 1) ++ [L[n + 1]] := by
  conv => lhs; unfold cptN
  rw [if_neg (by rw [List.getElem?_eq_getElem h, List.getElem?_eq_getElem (by omega)]; intro e'; injection e' with e'; exact e e'), List.getElem?_eq_getElem h]
  rfl
theorem cptN_take : ∀ n, n ≤ L.length → (∀ i (h : i + 1 < n) (hn : n ≤ L.length), L[i + 1]'(by omega) ≠ L[i]'(by omega)) → cptN L n = L.take n
  | 0, _, _ => rfl
  | 1, _, _ => rfl
  | n + 2, hn, h => by
    rw [cptN_new (by omega) (h n (by omega) hn), cptN_take (n + 1) (by omega) (fun i hi _ => h i (by omega) hn)]
    exact (List.take_succ_eq_append_getElem (by omega)).symm
/-- the last of them is the last one -/
theorem cptN_last : ∀ n (hn : n < L.length), (cptN L (n + 1)).getLast? = some L[n]
  | 0, hn => by
    show (L.take 1).getLast? = _
    cases L with
    | nil => simp at hn
    | cons a l => simp
  | n + 1, hn => by
    by_cases e : L[n + 1] = L[n]
    · rw [cptN_same hn e, cptN_last n (by omega), e]
    · rw [cptN_new hn e]; simp
theorem cptN_mem : ∀ n, n ≤ L.length → ∀ x, x ∈ cptN L n ↔ x ∈ L.take n
  | 0, _, x => by simp [cptN]
  | 1, _, x => by simp [cptN]
  | n + 2, hn, x => by
    have ih := cptN_mem (n + 1) (by omega) x
    rw [List.take_succ_eq_append_getElem (by omega : n + 1 < L.length), List.mem_append, List.mem_singleton, ← ih]
    by_cases e : L[n + 1] = L[n]
    · rw [cptN_same (by omega) e]
      constructor
      · exact .inl
      · rintro (h | h)
        · exact h
        · rw [h, e]
          exact List.mem_of_getLast? (cptN_last n (by omega))
    · rw [cptN_new (by omega) e, List.mem_append, List.mem_singleton]
/-- of a row in order: each once -/
theorem cptN_sorted {R : α → α → Prop} (tri : ∀ a b, R a b ∨ a = b ∨ R b a) (tr : ∀ a b c, R a b → R b c → R a c) (hs : L.Pairwise fun a b => ¬ R b a) : ∀ n, n ≤ L.length → (cptN L n).Pairwise R
  | 0, _ => List.Pairwise.nil
  | 1, _ => by
    show (L.take 1).Pairwise R
    cases L <;> simp
  | n + 2, hn => by
    have ih := cptN_sorted tri tr hs (n + 1) (by omega)
    by_cases e : L[n + 1] = L[n]
    · rw [cptN_same (by omega) e]; exact ih
    · rw [cptN_new (by omega) e]
      have hlt : R L[n] L[n + 1] := by
        rcases tri L[n] L[n + 1] with g | g | g
        · exact g
        · exact absurd g.symm e
        · exact absurd g (List.pairwise_iff_getElem.1 hs n (n + 1) (by omega) (by omega) (by omega))
      refine List.pairwise_append.2 ⟨ih, List.pairwise_singleton _ _, fun a ha b hb => ?_⟩
      rw [List.mem_singleton] at hb
      subst hb
      have hm := (cptN_mem (n + 1) (by omega) a).1 ha
      rw [List.mem_take_iff_getElem] at hm
      obtain ⟨i, hi, rfl⟩ := hm
      by_cases hin : i = n
      · subst hin; exact hlt
      · have h1 := List.pairwise_iff_getElem.1 hs i n (by omega) (by omega) (by omega)
        rcases tri L[i] L[n] with g | g | g
        · exact tr _ _ _ g hlt
        · rw [g]; exact hlt
        · exact absurd g h1
theorem cptL_mem (x : α) : x ∈ cptL L ↔ x ∈ L := by
  unfold cptL
  rw [cptN_mem _ (Nat.le_refl _), List.take_length]
end

end Go.Proofs.YtpnbibokddhheaaGreat

/-
  Keys put in, one behind the other, in order, each once: plain words.
-/
namespace Go.Proofs.YtpnbibokddhheaaGreat

def addKy (k : K3) : List K3 → List K3
  | [] => [k]
  | x :: L => if x = k then x :: L else if lessK k x = true then k :: x :: L else x :: addKy k L
def goneL (ks : List K3) : List K3 := ks.foldl (fun L k => addKy k L) []
def StrictK (L : List K3) : Prop := L.Pairwise fun x y => lessK x y = true
theorem addKy_mem {k x : K3} : ∀ {L : List K3}, x ∈ addKy k L ↔ x = k ∨ x ∈ L
  | [] => by simp [addKy]
  | y :: L => by
    unfold addKy
    by_cases h : y = k
    · subst h; simp
    · rw [if_neg h]
      by_cases h2 : lessK k y = true
      · rw [if_pos h2]; simp
      · rw [if_neg h2, List.mem_cons, List.mem_cons, addKy_mem (L := L)]
        constructor
        · rintro (h | h | h)
          · exact .inr (.inl h)
          · exact .inl h
          · exact .inr (.inr h)
        · rintro (h | h | h)
          · exact .inr (.inl h)
          · exact .inl h
          · exact .inr (.inr h)
theorem addKy_len (k : K3) : ∀ L : List K3, (addKy k L).length ≤ L.length + 1
  | [] => by simp [addKy]
  | y :: L => by
    unfold addKy
    split
    · simp
    · split
      · simp
      · have := addKy_len k L; simp; omega
theorem addKy_strict {k : K3} : ∀ {L : List K3}, StrictK L → StrictK (addKy k L)
  | [], _ => List.pairwise_singleton _ _
  | y :: L, h => by
    obtain ⟨h1, h2⟩ := List.pairwise_cons.1 h
    unfold addKy
    by_cases he : y = k
    · rw [if_pos he]; exact h
    · rw [if_neg he]
      by_cases hl : lessK k y = true
      · rw [if_pos hl]
        refine List.pairwise_cons.2 ⟨fun z hz => ?_, h⟩
        rcases List.mem_cons.1 hz with rfl | hz
        · exact hl
        · exact lessK_trans hl (h1 z hz)
      · rw [if_neg hl]
        refine List.pairwise_cons.2 ⟨fun z hz => ?_, addKy_strict h2⟩
        rcases addKy_mem.1 hz with rfl | hz
        · cases h3 : lessK y z with
          | true => rfl
          | false => exact absurd (lessK_tot h3 (by simpa using hl)) he
        · exact h1 z hz
theorem fold_mem : ∀ (ks L : List K3) (x : K3), x ∈ ks.foldl (fun L k => addKy k L) L ↔ x ∈ ks ∨ x ∈ L
  | [], L, x => by simp
  | k :: ks, L, x => by
    rw [List.foldl_cons, fold_mem ks, addKy_mem, List.mem_cons]
    constructor
    · rintro (h | h | h)
      · exact .inl (.inr h)
      · exact .inl (.inl h)
      · exact .inr h
    · rintro ((h | h) | h)
      · exact .inr (.inl h)
      · exact .inl h
      · exact .inr (.inr h)
theorem fold_strict : ∀ (ks L : List K3), StrictK L → StrictK (ks.foldl (fun L k => addKy k L) L)
  | [], _, h => h
  | _ :: ks, _, h => fold_strict ks _ (addKy_strict h)
theorem fold_len : ∀ (ks L : List K3), (ks.foldl (fun L k => addKy k L) L).length ≤ L.length + ks.length
  | [], L => by simp
  | k :: ks, L => by
    rw [List.foldl_cons]
    have := fold_len ks (addKy k L)
    have := addKy_len k L
    simp
    omega
theorem strict_one : ∀ {L M : List K3}, StrictK L → StrictK M → (∀ x, x ∈ L ↔ x ∈ M) → L = M
  | [], [], _, _, _ => rfl
  | [], y :: M, _, _, h => by have := (h y).2 (by simp); cases this
  | x :: L, [], _, _, h => by have := (h x).1 (by simp); cases this
  | x :: L, y :: M, h1, h2, h => by
    obtain ⟨a1, a2⟩ := List.pairwise_cons.1 h1
    obtain ⟨b1, b2⟩ := List.pairwise_cons.1 h2
    have hxy : x = y := by
      rcases List.mem_cons.1 ((h x).1 (by simp)) with e | e
      · exact e
      · rcases List.mem_cons.1 ((h y).2 (by simp)) with g | g
        · exact g.symm
        · have := lessK_trans (a1 y g) (b1 x e)
          rw [lessK_irr] at this
          cases this
    subst hxy
    rw [strict_one a2 b2 fun z => ?_]
    constructor
    · intro hz
      rcases List.mem_cons.1 ((h z).1 (List.mem_cons_of_mem _ hz)) with rfl | e
      · have := a1 z hz; rw [lessK_irr] at this; cases this
      · exact e
    · intro hz
      rcases List.mem_cons.1 ((h z).2 (List.mem_cons_of_mem _ hz)) with rfl | e
      · have := b1 z hz; rw [lessK_irr] at this; cases this
      · exact e
theorem goneL_is (ks : List K3) : cptL (sortK ks) = goneL ks := by
  refine strict_one ?_ (fold_strict ks [] List.Pairwise.nil) fun x => ?_
  · refine cptN_sorted (R := fun x y => lessK x y = true) (fun a b => ?_) (fun _ _ _ => lessK_trans) ?_ _ (Nat.le_refl _)
    · cases h1 : lessK a b with
      | true => exact .inl rfl
      | false =>
        cases h2 : lessK b a with
        | true => exact .inr (.inr rfl)
        | false => exact .inr (.inl (lessK_tot h1 h2))
    · exact (sortK_sorted ks).imp fun h => by rw [h]; decide
  · rw [cptL_mem, (sortK_perm ks).mem_iff]
    unfold goneL
    rw [fold_mem]
    simp
theorem goneL_of {ks N : List K3} (hp : N.Perm ks) (hs : N.Pairwise fun x y => lessK y x = false) : cptL N = goneL ks := by
  rw [← goneL_is, sorted_one (hp.trans (sortK_perm ks).symm) hs (sortK_sorted ks)]
theorem goneL_more (ks : List K3) (k : K3) : goneL (ks ++ [k]) = addKy k (goneL ks) := by
  unfold goneL
  rw [List.foldl_append]
  rfl
theorem goneL_len (ks : List K3) : (goneL ks).length ≤ ks.length := by
  have := fold_len ks []
  unfold goneL
  simp at this
  omega
/-- of keys without repeats none goes -/
theorem addKy_new {k : K3} : ∀ {L : List K3}, k ∉ L → (addKy k L).length = L.length + 1
  | [], _ => rfl
  | y :: L, h => by
    unfold addKy
    rw [if_neg (fun e => h (by rw [e]; simp))]
    split
    · simp
    · rw [List.length_cons, addKy_new (fun e => h (List.mem_cons_of_mem _ e)), List.length_cons]
theorem fold_new : ∀ (ks L : List K3), ks.Nodup → (∀ x ∈ ks, x ∉ L) → (ks.foldl (fun L k => addKy k L) L).length = L.length + ks.length
  | [], L, _, _ => by simp
  | k :: ks, L, hn, h => by
    rw [List.nodup_cons] at hn
    rw [List.foldl_cons, fold_new ks (addKy k L) hn.2 fun x hx hm => ?_, addKy_new (h k (by simp)), List.length_cons]
    · omega
    · rcases addKy_mem.1 hm with rfl | hm
      · exact hn.1 hx
      · exact h x (List.mem_cons_of_mem _ hx) hm
theorem goneL_new {ks : List K3} (h : ks.Nodup) : (goneL ks).length = ks.length := by
  have := fold_new ks [] h (fun _ _ => by simp)
  simpa [goneL] using this
/-- behind a part P of a row: whether k was put in, or met; what was put -/
def InAt (k : K3) (P : List K3) (d : Bool) (N : List K3) : Prop := (d = false ∧ N = P ∧ ∀ x ∈ P, x ≠ k ∧ lessK k x = false) ∨ (d = true ∧ ∀ S, addKy k (P ++ S) = N ++ S)
theorem addKy_app {k : K3} {S : List K3} : ∀ {P : List K3}, (∀ x ∈ P, x ≠ k ∧ lessK k x = false) → addKy k (P ++ S) = P ++ addKy k S
  | [], _ => rfl
  | x :: P, h => by
    have := h x (by simp)
    rw [List.cons_append, addKy, if_neg this.1, if_neg (by rw [this.2]; decide), addKy_app fun y hy => h y (List.mem_cons_of_mem _ hy)]
    rfl
theorem InAt.start (k : K3) : InAt k [] false [] := .inl ⟨rfl, rfl, by simp⟩
theorem InAt.on {k x : K3} {P N : List K3} (h : InAt k P true N) : InAt k (P ++ [x]) true (N ++ [x]) := by
  rcases h with ⟨h, -⟩ | ⟨-, h⟩
  · cases h
  · exact .inr ⟨rfl, fun S => by simpa using h ([x] ++ S)⟩
theorem InAt.met {k : K3} {P N : List K3} (h : InAt k P false N) : InAt k (P ++ [k]) true (N ++ [k]) := by
  rcases h with ⟨-, rfl, h⟩ | ⟨h, -⟩
  · refine .inr ⟨rfl, fun S => ?_⟩
    rw [List.append_assoc, addKy_app h]
    simp [addKy]
  · cases h
theorem InAt.put {k x : K3} {P N : List K3} (h : InAt k P false N) (hne : x ≠ k) (hl : lessK k x = true) : InAt k (P ++ [x]) true ((N ++ [k]) ++ [x]) := by
  rcases h with ⟨-, rfl, h⟩ | ⟨h, -⟩
  · refine .inr ⟨rfl, fun S => ?_⟩
    rw [List.append_assoc, addKy_app h]
    simp [addKy, hne, hl]
  · cases h
theorem InAt.past {k x : K3} {P N : List K3} (h : InAt k P false N) (hne : x ≠ k) (hl : lessK k x = false) : InAt k (P ++ [x]) false (N ++ [x]) := by
  rcases h with ⟨-, rfl, h⟩ | ⟨h, -⟩
  · refine .inl ⟨rfl, rfl, fun y hy => ?_⟩
    rcases List.mem_append.1 hy with hy | hy
    · exact h y hy
    · rw [List.mem_singleton] at hy
      subst hy
      exact ⟨hne, hl⟩
  · cases h
theorem InAt.ends {k : K3} {P N : List K3} {d : Bool} (h : InAt k P d N) : addKy k P = if d = true then N else N ++ [k] := by
  rcases h with ⟨rfl, rfl, h⟩ | ⟨rfl, h⟩
  · have := addKy_app (S := []) h
    simpa [addKy] using this
  · simpa using h []

end Go.Proofs.YtpnbibokddhheaaGreat

/-
  clear of the end of a row of structs that the call made itself, whatever the struct; the row is cut there.
-/
namespace Go.Proofs.YtpnbibokddhheaaGreat
open Go.RowKit

theorem setRow_grown (w : World) (g : Nat) (cs : Array Value) : w.grownBy (w.setRow g cs) (some g) := by
  refine ⟨rfl, rfl, rfl, by simp, fun k hk hne => ?_⟩
  unfold World.setRow
  simp only
  have : g ≠ k := fun e => hne (by rw [e])
  simp [Array.getElem?_modify, this]
theorem zeroCells_one {z : Value} (h : ∀ u ∈ z.cells, u.oneCell' = true) (n : Nat) : ∀ u ∈ (Builtin.zeroCells z.cells n).toList, u.oneCell' = true := by
  intro u hu
  unfold Builtin.zeroCells at hu
  rw [Array.toList_map, List.mem_map] at hu
  obtain ⟨i, hi, rfl⟩ := hu
  by_cases h0 : z.cells.size = 0
  · simp [h0] at hi
  · have hlt : i % z.cells.size < z.cells.size := Nat.mod_lt _ (by omega)
    rw [getElem!_pos z.cells _ hlt]
    exact h _ (Array.getElem_mem hlt)
section
variable {α : Type} {e : TypeId} {C : Nat} {cells : α → List Value} {w : World} {B g cap n : Nat} {L : List α}
theorem flat_take (hC : ∀ x, (cells x).length = C) : ∀ (L : List α) (k : Nat), (L.take k).flatMap cells = (L.flatMap cells).take (k * C)
  | [], k => by simp
  | c :: L, 0 => by simp
  | c :: L, k + 1 => by
    rw [List.take_succ_cons, List.flatMap_cons, List.flatMap_cons, flat_take hC L k, List.take_append, hC]
    rw [show (k + 1) * C - C = k * C by rw [Nat.add_mul]; omega, List.take_of_length_le (l := cells c) (by rw [hC, Nat.add_mul]; omega)]
theorem OwnR.cut (hC : ∀ x, (cells x).length = C) (h : OwnR e C cells w B (.slice (some ⟨g, 0, none⟩) n cap) L) (hn : n = L.length) (k : Nat) (hk : k ≤ n) : OwnR e C cells w B (.slice (some ⟨g, 0, none⟩) k cap) (L.take k) := by
  subst hn
  have hl : (L.take k).length = k := by rw [List.length_take]; omega
  unfold OwnR
  rw [hl]
  rcases h.2 with ⟨hv, -⟩ | ⟨g', cap', cur, hv, hb, hg, hnc, hcm, hcs, ht⟩
  · cases hv
  · simp only [Value.slice.injEq, Option.some.injEq, Addr.mk.injEq, and_true, true_and] at hv
    obtain ⟨rfl, rfl⟩ := hv
    refine ⟨by rw [flatLenR cells C hC, hl], .inr ⟨g, cap, cur, rfl, hb, hg, by omega, hcm, hcs, ?_⟩⟩
    rw [flat_take hC, ← ht, List.take_take, Nat.min_eq_left (Nat.mul_le_mul_right C hk)]
theorem OwnR.clear_run (hC : ∀ x, (cells x).length = C) {sl : TypeId} (hsl : Tryz.prog.underlying sl = some (.slice e)) {z : Value} (hz : ∀ w, (zeroValue e).run Tryz.prog w = .ok z w) (hzc : z.cells.size = C) (hz1 : ∀ u ∈ z.cells, u.oneCell' = true)
    (h : OwnR e C cells w B (.slice (some ⟨g, 0, none⟩) n cap) L) (hn : n = L.length) (k : Nat) (hk : k ≤ n) (m c : Nat) (hm : k + m ≤ n) (ty : TypeId) :
    ∃ w', (Builtin.clear_ #[sl] ty #[.slice (some ⟨g, k * C, none⟩) m c]).run Tryz.prog w = .ok (.tuple #[]) w' ∧ OwnR e C cells w' B (.slice (some ⟨g, 0, none⟩) k cap) (L.take k) ∧ w.grownBy w' (some g) := by
  rcases Nat.eq_zero_or_pos m with rfl | hm0
  · refine ⟨w, ?_, h.cut hC hn k hk, rfl, rfl, rfl, Nat.le_refl _, fun _ _ _ => rfl⟩
    simp [Builtin.clear_, run_underlying hsl]
  · subst hn
    have hl : (L.take k).length = k := by rw [List.length_take]; omega
    rcases h.2 with ⟨hv, -⟩ | ⟨g', cap', cur, hv, hb, hg, hnc, hcm, hcs, ht⟩
    · cases hv
    · simp only [Value.slice.injEq, Option.some.injEq, Addr.mk.injEq, and_true, true_and] at hv
      obtain ⟨rfl, rfl⟩ := hv
      have hzl : (Builtin.zeroCells z.cells m).toList.length = m * C := by
        rw [Array.length_toList]
        unfold Builtin.zeroCells
        simp [hzc]
      have hle : k * C + m * C ≤ cur.size := by
        rw [hcs, ← Nat.add_mul]
        exact Nat.mul_le_mul_right C (by omega)
      have hst := run_storeCells_at (P := Tryz.prog) g (k * C) e (Builtin.zeroCells z.cells m).toList 0 cur w hg (by rw [hzl]; omega) (zeroCells_one hz1 m)
      simp only [Nat.add_zero] at hst
      refine ⟨w.setRow g (cur.toList.take (k * C) ++ (Builtin.zeroCells z.cells m).toList ++ cur.toList.drop (k * C + (Builtin.zeroCells z.cells m).toList.length)).toArray, ?_, ?_, setRow_grown w g _⟩
      · obtain ⟨m, rfl⟩ : ∃ j, m = j + 1 := ⟨m - 1, by omega⟩
        simp [Builtin.clear_, run_underlying hsl, hz, hst]
      · unfold OwnR
        rw [hl]
        refine ⟨by rw [flatLenR cells C hC, hl], .inr ⟨g, cap, _, rfl, hb, setRow_heap w g cur _ e (0, 0) hg, by omega, hcm, ?_, ?_⟩⟩
        · simp only [List.size_toArray, List.length_append, List.length_take, List.length_drop, Array.length_toList]
          rw [Array.length_toList] at hzl
          omega
        · rw [flat_take hC, ← ht]
          simp only
          have hkn := Nat.mul_le_mul_right C hk
          have e1 : ∀ X : List Value, (cur.toList.take (k * C) ++ X).take (k * C) = (cur.toList.take (L.length * C)).take (k * C) := by
            intro X
            rw [List.take_append_of_le_length (by rw [List.length_take, Array.length_toList]; omega), List.take_take, List.take_take, Nat.min_self, Nat.min_eq_left hkn]
          rw [List.append_assoc]
          exact e1 _
variable {ops : Array Oper} {Q : Exit → Act → World → Prop} {o : Oper} {rest : List Oper} {a : Act}
theorem wpList_clear_row (hC : ∀ x, (cells x).length = C) {sl : TypeId} (hsl : Tryz.prog.underlying sl = some (.slice e)) {z : Value} (hz : ∀ w, (zeroValue e).run Tryz.prog w = .ok z w) (hzc : z.cells.size = C) (hz1 : ∀ u ∈ z.cells, u.oneCell' = true)
    (hgd : o.guard = none) (s : Operand) (ho : o.op = .call { callee := .builtin .clear, args := #[s], argTypes := #[sl] })
    (h : OwnR e C cells w B (.slice (some ⟨g, 0, none⟩) n cap) L) (hn : n = L.length) (k : Nat) (hk : k ≤ n) (m c off : Nat) (hoff : off = k * C) (hm : k + m ≤ n) (hs : a.eval s = .slice (some ⟨g, off, none⟩) m c)
    (hK : ∀ w', OwnR e C cells w' B (.slice (some ⟨g, 0, none⟩) k cap) (L.take k) → w.grownBy w' (some g) → wpList Tryz.prog ops Q rest (a.put o.dst (.tuple #[])) w') : wpList Tryz.prog ops Q (o :: rest) a w := by
  subst hoff
  refine wpList_plain hgd fun K' hK' => ?_
  obtain ⟨w', hrun, h1, h2⟩ := h.clear_run hC hsl hz hzc hz1 hn k hk m c hm o.type
  unfold Oper.wp
  simp [execOp, ho, resolve, invoke, builtin, hs, hrun, Result.andThen]
  exact hK' _ _ (hK w' h1 h2)
end

theorem OwnR.froz {α : Type} {e : TypeId} {C : Nat} {cells : α → List Value} {w : World} {B g n cap : Nat} {l : List α} (h : OwnR e C cells w B (.slice (some ⟨g, 0, none⟩) n cap) l) (i : Nat) : w.frozen? ⟨g, i, none⟩ = false := by
  rcases h.2 with ⟨hv, -⟩ | ⟨g', cap', cur, hv, -, hb, -⟩
  · cases hv
  · simp only [Value.slice.injEq, Option.some.injEq, Addr.mk.injEq, and_true] at hv
    obtain ⟨rfl, -, -⟩ := hv
    simp [World.frozen?, hb]
theorem OwnR.first {α : Type} {e : TypeId} {C : Nat} {cells : α → List Value} {w : World} {B n cap : Nat} {A : Option Addr} {l : List α} (h : OwnR e C cells w B (.slice A n cap) l) (hl : 0 < l.length) : ∃ g, A = some ⟨g, 0, none⟩ := by
  rcases h.2 with ⟨hv, h0⟩ | ⟨g, cap', cur, hv, -⟩
  · omega
  · injection hv with hA
    exact ⟨g, hA⟩
theorem OwnR.far {α : Type} {e : TypeId} {C : Nat} {cells : α → List Value} {w : World} {B : Nat} {v : Value} {L : List α} (h : OwnR e C cells w B v L) {p : Addr} (hp : v.ownBlock ≠ some p.block) (u : Value) : OwnR e C cells (w.setCell p u) B v L :=
  h.kept (row := some p.block) ⟨rfl, rfl, rfl, by simp, fun k _ hne => Below.heap_setCell w p u k (fun e => hne (by rw [e]))⟩ (.inr hp)

/-- a row that was laid just now -/
theorem OwnR.lit {α : Type} {e : TypeId} {C : Nat} {cells : α → List Value} (hC : ∀ x, (cells x).length = C) {w : World} {g B n : Nat} {L : List α} (h : Blk w g e (L.flatMap cells).toArray) (hB : B ≤ g) (hn : n = L.length) (h0 : 0 < n) (hm : n ≤ maxLen) : OwnR e C cells w B (.slice (some ⟨g, 0, none⟩) n n) L := by
  subst hn
  refine ⟨flatLenR cells C hC L, .inr ⟨g, _, _, rfl, hB, h, Nat.le_refl _, hm, ?_, ?_⟩⟩
  · rw [List.size_toArray, flatLenR cells C hC L]
  · exact List.take_of_length_le (by rw [flatLenR cells C hC L]; exact Nat.le_refl _)

end Go.Proofs.YtpnbibokddhheaaGreat

/-
  slices.Compact at keys: each once, of those that stand side by side.
-/
namespace Go.Proofs.YtpnbibokddhheaaGreat
open Go.RowKit

theorem zeroK (w : World) : (zeroValue 69).run Tryz.prog w = .ok (.agg #[.int .i64 0, .int .i64 0, .int .i64 0]) w := by kernel_rfl
abbrev OwnKy (w : World) (B : Nat) (v : Value) (l : List K3) : Prop := OwnR 69 3 K3.cells w B v l
theorem set_flatK (l : List K3) (k : Nat) (c : K3) (hk : k < l.length) :
    (l.set k c).flatMap K3.cells = (((l.flatMap K3.cells).set (k * 3) (.int .i64 c.kind)).set (k * 3 + 1) (.int .i64 c.id)).set (k * 3 + 2) (.int .i64 c.adv) := by
  induction l generalizing k with
  | nil => simp at hk
  | cons d l ih =>
    cases k with
    | zero => simp [K3.cells]
    | succ k =>
      have h := ih k (by simpa using hk)
      simp only [List.set_cons_succ, List.flatMap_cons, h]
      have h4 : (K3.cells d).length = 3 := rfl
      rw [List.set_append_right _ _ (by omega), List.set_append_right _ _ (by omega), List.set_append_right _ _ (by omega)]
      simp only [h4, show (k + 1) * 3 - 3 = k * 3 by omega, show (k + 1) * 3 + 1 - 3 = k * 3 + 1 by omega, show (k + 1) * 3 + 2 - 3 = k * 3 + 2 by omega]
section
variable {w : World} {B g cap n : Nat} {l : List K3}
theorem OwnKy.set3 (h : OwnKy w B (.slice (some ⟨g, 0, none⟩) n cap) l) (hn : n = l.length) (k : Nat) (hk : k < l.length) (c : K3) :
    OwnKy (((w.setCell ⟨g, k * 3, none⟩ (.int .i64 c.kind)).setCell ⟨g, k * 3 + 1, none⟩ (.int .i64 c.id)).setCell ⟨g, k * 3 + 2, none⟩ (.int .i64 c.adv)) B (.slice (some ⟨g, 0, none⟩) n cap) (l.set k c) ∧ w.grownBy (((w.setCell ⟨g, k * 3, none⟩ (.int .i64 c.kind)).setCell ⟨g, k * 3 + 1, none⟩ (.int .i64 c.id)).setCell ⟨g, k * 3 + 2, none⟩ (.int .i64 c.adv)) (some g) := by
  subst hn
  have h1 := World.ownsRow.stored h (k * 3) (.int .i64 c.kind)
  have h2 := World.ownsRow.stored h1.1 (k * 3 + 1) (.int .i64 c.id)
  have h3 := World.ownsRow.stored h2.1 (k * 3 + 2) (.int .i64 c.adv)
  refine ⟨?_, grown_trans (grown_trans h1.2 h2.2) h3.2⟩
  unfold OwnKy OwnR
  rw [set_flatK l k c hk, List.length_set]
  exact h3.1
end
theorem eqKyN (a b c a' b' c' : Int) (w : World) : (Op.equalIn 10000 69 (.agg #[.int .i64 a, .int .i64 b, .int .i64 c]) (.agg #[.int .i64 a', .int .i64 b', .int .i64 c'])).run Tryz.prog w = .ok (decide ((⟨a, b, c⟩ : K3) = ⟨a', b', c'⟩)) w := by
  rw [eqKey]
  congr 1
  by_cases h1 : a = a' <;> by_cases h2 : b = b' <;> by_cases h3 : c = c' <;> simp [h1, h2, h3]
theorem neqKyN (a b c a' b' c' : Int) (w : World) : (binOp .neq 69 (.agg #[.int .i64 a, .int .i64 b, .int .i64 c]) (.agg #[.int .i64 a', .int .i64 b', .int .i64 c'])).run Tryz.prog w = .ok (.bool (!decide ((⟨a, b, c⟩ : K3) = ⟨a', b', c'⟩))) w := by
  have h := eqKyN a b c a' b' c' w
  simp only [binOp]
  simp [Op.equal, Op.maxDepth, h]
/-- what lies in the row while it is gone over: the first k, and from the place of reading on, what was there -/
structure CptAt (w wr : World) (B g n c : Nat) (L : List K3) (q k : Nat) : Prop where
  own : ∃ M, M.length = n ∧ OwnKy wr B (.slice (some ⟨g, 0, none⟩) n c) M ∧ M.take k = cptN L q ∧ ∀ i, q ≤ i + 1 → M[i]? = L[i]?
  len : k = (cptN L q).length
  lt : k + 1 ≤ q
  bel : w.grownBy wr (some g)
theorem grown_below2 {w wr W : World} {row : Option Nat} (h : w.grownBy wr row) (hb : Below wr.heap.size wr W) : w.grownBy W row := grown_below h hb
theorem cpt_keep {w wr : World} {B g n c k p m i : Nat} {L : List K3} {a b : K3} (h : CptAt w wr B g n c L (k + p) m) (hl : ∃ (h1 : k + i + 1 < L.length) (h2 : k + i < L.length), L[k + i + 1]'h1 = a ∧ L[k + i]'h2 = b) (he : a = b) (hi : p = i + 1) (q : Nat) : CptAt w (wr.drewN q) B g n c L (k + (p + 1)) m := by
  subst hi
  obtain ⟨h1, h2, h3, h4⟩ := hl
  have hc : cptN L (k + (i + 1 + 1)) = cptN L (k + (i + 1)) := cptN_same (n := k + i) h1 (by rw [h3, h4, he])
  obtain ⟨M, g1, g2, g3, g4⟩ := h.own
  refine ⟨⟨M, g1, g2.below (below_drewN (Below.refl _ _) q), by rw [hc]; exact g3, fun j hj => g4 j (by omega)⟩, by rw [hc]; exact h.len, by have := h.lt; omega, ?_⟩
  exact ⟨h.bel.os, h.bel.tape, h.bel.output, h.bel.size, h.bel.block⟩
theorem cpt_put {w wr : World} {B g n c k p m i : Nat} {L : List K3} {a b : K3} (h : CptAt w wr B g n c L (k + p) m) (hl : ∃ (h1 : k + i + 1 < L.length) (h2 : k + i < L.length), L[k + i + 1]'h1 = a ∧ L[k + i]'h2 = b) (he : a ≠ b) (hi : p = i + 1) (q : Nat) (hn : n = L.length) : CptAt w ((((wr.drewN q).setCell ⟨g, m * 3, none⟩ (.int .i64 a.kind)).setCell ⟨g, m * 3 + 1, none⟩ (.int .i64 a.id)).setCell ⟨g, m * 3 + 2, none⟩ (.int .i64 a.adv)) B g n c L (k + (p + 1)) (m + 1) := by
  subst hi
  obtain ⟨h1, h2, h3, h4⟩ := hl
  have hc : cptN L (k + (i + 1 + 1)) = cptN L (k + (i + 1)) ++ [a] := by
    have := cptN_new (n := k + i) h1 (by rw [h3, h4]; exact he)
    rw [h3] at this
    exact this
  obtain ⟨M, g1, g2, g3, g4⟩ := h.own
  have hm : m < M.length := by have := h.lt; omega
  have g5 := OwnKy.set3 (g2.below (below_drewN (Below.refl _ _) q)) g1.symm m hm a
  have hlt := h.lt
  refine ⟨⟨M.set m a, by rw [List.length_set]; exact g1, g5.1, ?_, fun j hj => ?_⟩, by rw [hc, List.length_append, ← h.len]; rfl, by omega, ?_⟩
  · rw [hc, ← g3, List.take_succ_eq_append_getElem (by rw [List.length_set]; exact hm), List.getElem_set_self, List.take_set_of_le (Nat.le_refl _)]
  · rw [List.getElem?_set_ne (by omega)]
    exact g4 j (by omega)
  · refine grown_trans (c := wr.drewN q) ⟨h.bel.os, h.bel.tape, h.bel.output, h.bel.size, h.bel.block⟩ g5.2
set_option maxHeartbeats 8000000 in
set_option maxRecDepth 100000 in
theorem compactK (A : Option Addr) (c n : Nat) (L : List K3) (w : World) (B : Nat) (h : OwnKy w B (.slice A n c) L) (hn : n = L.length) (hl : L.length ≤ 2 ^ 20) :
    Calls Tryz.prog 39 #[.slice A n c] w fun r w' => ∃ v, r = .returned v ∧ OwnKy w' B v (cptL L) ∧ w.grownBy w' (Value.slice A n c).ownBlock ∧ (v.ownBlock = (Value.slice A n c).ownBlock) := by
  have hni : (n : Int) ≤ 1048576 := by omega
  have hnp : 0 ≤ (n : Int) := by omega
  by_cases h2 : n < 2
  · have hc : cptL L = L := by
      unfold cptL
      rw [cptN_take _ (Nat.le_refl _) (fun i hi _ => by omega), List.take_length]
    have Hc := Lib.hid hc
    have H := Lib.hid h
    have h2i : (n : Int) < 2 := by omega
    clear h hc
    go_enter Tryz.func39, Tryz.ntmps39
    go_wp2
    go_ret
    exact ⟨_, rfl, by rw [Hc.out]; exact H.out, ⟨rfl, rfl, rfl, Nat.le_refl _, fun _ _ _ => rfl⟩, rfl⟩
  · have h2i : ¬ (n : Int) < 2 := by omega
    obtain ⟨g, rfl⟩ : ∃ g, A = some ⟨g, 0, none⟩ := by
      rcases h.2 with ⟨hv, h0⟩ | ⟨g, cap', cur, hv, -⟩
      · omega
      · injection hv with hA
        exact ⟨g, hA⟩
    have hnc : n ≤ c := by
      rcases h.2 with ⟨hv, h0⟩ | ⟨g', cap', cur, hv, -, -, hnc, -⟩
      · cases hv
      · injection hv with e1 e2 e3
        omega
    have hcm : c ≤ maxLen := by
      rcases h.2 with ⟨hv, h0⟩ | ⟨g', cap', cur, hv, -, -, -, hcm, -⟩
      · cases hv
      · injection hv with e1 e2 e3
        omega
    have hci : (c : Int) ≤ 9223372036854775807 := by unfold maxLen at hcm; omega
    have hnci : (n : Int) ≤ (c : Int) := by omega
    have H := Lib.hid h
    have Hn := Lib.hid hn
    have H2 := Lib.hid h2
    clear h hn hl hcm h2
    go_enter Tryz.func39, Tryz.ntmps39
    go_wp2
    go_loopw [3] (fun i wr => ∃ (k q : Nat), i = .int .i64 k ∧ 1 ≤ k ∧ k ≤ n ∧ (∀ i (h1 : i + 1 < k) (h2 : i + 1 < L.length), L[i + 1]'h2 ≠ L[i]'(by omega)) ∧ wr = w.drewN q) (fun i _ => n - (intOf i).toNat)
    case atStart => exact ⟨1, 0, rfl, Nat.le_refl _, by have := H2.out; omega, fun i h1 _ => by omega, rfl⟩
    case round =>
      obtain ⟨k, q, rfl, hk1, hk, hd, rfl⟩ := hrel
      have hk1i : 1 ≤ (k : Int) := by omega
      by_cases hlt : k < n
      · have hki : (k : Int) < (n : Int) := by omega
        obtain ⟨j, hj⟩ : ∃ j, k = j + 1 := ⟨k - 1, by omega⟩
        have hkL : k < L.length := by have := Hn.out; omega
        have hown := H.out
        obtain ⟨g1, o1, e1, -, x0, x1, x2⟩ := row_k3b (OwnR.rows (C := 3) (cells := K3.cells) (fun _ => rfl) hown).2 k hkL
        obtain ⟨g2, o2, e2, -, y0, y1, y2⟩ := row_k3b (OwnR.rows (C := 3) (cells := K3.cells) (fun _ => rfl) hown).2 j (by omega)
        injection e1 with e1
        injection e1 with e1 e1'
        injection e2 with e2
        injection e2 with e2 e2'
        subst e1 e1' e2 e2'
        simp only [Nat.zero_add] at x0 x1 x2 y0 y1 y2
        obtain ⟨a, ha⟩ : ∃ a, L[k]'hkL = a := ⟨_, rfl⟩
        obtain ⟨b, hb⟩ : ∃ b, L[j]'(by omega) = b := ⟨_, rfl⟩
        rw [ha] at x0 x1 x2
        rw [hb] at y0 y1 y2
        have Hd := Lib.hid hd
        have Hj1 := Lib.hid (show ∃ (h1 : k < L.length) (h2 : j < L.length), L[k]'h1 = a ∧ L[j]'h2 = b from ⟨hkL, by omega, ha, hb⟩)
        have hkj : (k : Int) - 1 = (j : Int) := by omega
        have hji : (j : Int) < (n : Int) := by omega
        have Hj := Lib.hid hj
        have Hlt := Lib.hid hlt
        clear hown hd ha hb hkL hj hlt
        obtain ⟨a1, a2, a3⟩ := a
        obtain ⟨b1, b2, b3⟩ := b
        simp only at x0 x1 x2 y0 y1 y2
        have heq := fun w => eqKyN a1 a2 a3 b1 b2 b3 w
        by_cases he : (⟨a1, a2, a3⟩ : K3) = ⟨b1, b2, b3⟩
        · rw [decide_eq_true he] at heq
          have He := Lib.hid he
          clear he
          have hst : ∀ W, Below w.heap.size w W → CptAt w W B g n c L (k + 1) k := by
            intro W hW
            obtain ⟨g1, g2, g3, g4⟩ := Hj1.out
            have hk := Hj.out
            subst hk
            have hcp : cptN L (j + 1 + 1) = L.take (j + 1) := by
              rw [cptN_same g1 (by rw [g3, g4]; exact He.out)]
              exact cptN_take _ (by omega) (fun i h1 h2 => Hd.out i h1 (by omega))
            refine ⟨⟨L, Hn.out.symm, H.out.below hW, hcp.symm, fun _ _ => rfl⟩, ?_, Nat.le_refl _, grown_below (World.grownBy.refl w (some g)) hW⟩
            rw [hcp, List.length_take]
            omega
          have Hst := Lib.hid hst
          have hnk : (n : Int) - (k : Int) = ((n - k : Nat) : Int) := by have := Hlt.out; omega
          clear hst
          go_wp2
          go_quiet (fail)
          go_wp2
          go_loopw [3, 5] (fun s i wr => ∃ (p m : Nat), i = .int .i64 p ∧ s = .int .i64 m ∧ 1 ≤ p ∧ p ≤ n - k ∧ CptAt w wr B g n c L (k + p) m) (fun _ i _ => (n - k) - (intOf i).toNat)
          case atStart => exact ⟨1, k, rfl, rfl, Nat.le_refl _, by have := Hlt.out; omega, Hst.out _ (below_drewN (Below.refl _ _) _)⟩
          case round =>
            obtain ⟨p, m, rfl, rfl, hp1, hp, hst⟩ := hrel
            clear x0 x1 x2 y0 y1 y2 heq Hst
            obtain ⟨M, hM, hown, hMt, hMs⟩ := hst.own
            have Hst := Lib.hid hst
            have Hown := Lib.hid hown
            have HM := Lib.hid hM
            have HMt := Lib.hid hMt
            have HMs := Lib.hid hMs
            have Hp1 := Lib.hid hp1
            have hpi1 : 1 ≤ (p : Int) := by omega
            by_cases hpl : p < n - k
            · have hpi : (p : Int) < ((n - k : Nat) : Int) := by omega
              have hpn : p ≤ 1048576 := by omega
              obtain ⟨i, hi⟩ : ∃ i, p = i + 1 := ⟨p - 1, by omega⟩
              have hpi2 : (p : Int) - 1 = (i : Int) := by omega
              have hii : (i : Int) < ((n - k : Nat) : Int) := by omega
              have h1 : k + p < M.length := by omega
              have h2 : k + i < M.length := by omega
              obtain ⟨g1, o1, e1, -, x0, x1, x2⟩ := row_k3b (OwnR.rows (C := 3) (cells := K3.cells) (fun _ => rfl) hown).2 (k + p) h1
              obtain ⟨g2, o2, e2, -, y0, y1, y2⟩ := row_k3b (OwnR.rows (C := 3) (cells := K3.cells) (fun _ => rfl) hown).2 (k + i) h2
              injection e1 with e1
              injection e1 with e1 e1'
              injection e2 with e2
              injection e2 with e2 e2'
              subst e1 e1' e2 e2'
              simp only [Nat.zero_add, Nat.add_mul] at x0 x1 x2 y0 y1 y2
              obtain ⟨a, ha⟩ : ∃ a, M[k + p]'h1 = a := ⟨_, rfl⟩
              obtain ⟨b, hb⟩ : ∃ b, M[k + i]'h2 = b := ⟨_, rfl⟩
              rw [ha] at x0 x1 x2
              rw [hb] at y0 y1 y2
              have hLa : ∃ (h1 : k + i + 1 < L.length) (h2 : k + i < L.length), L[k + i + 1]'h1 = a ∧ L[k + i]'h2 = b := by
                have g1 := hMs (k + p) (by omega)
                have g2 := hMs (k + i) (by omega)
                rw [List.getElem?_eq_getElem h1, ha] at g1
                rw [List.getElem?_eq_getElem h2, hb] at g2
                obtain ⟨q1, q2⟩ := List.getElem?_eq_some_iff.1 g1.symm
                obtain ⟨q3, q4⟩ := List.getElem?_eq_some_iff.1 g2.symm
                subst hi
                exact ⟨q1, q3, q2, q4⟩
              have HLa := Lib.hid hLa
              have Hi := Lib.hid hi
              have Hpl := Lib.hid hpl
              have hmk : (m : Int) < (n : Int) := by have := hst.lt; have := Hn.out; omega
              have hmn : m < M.length := by have := hst.lt; omega
              obtain ⟨g3, o3, e3, -, v0, v1, v2⟩ := row_k3b (OwnR.rows (C := 3) (cells := K3.cells) (fun _ => rfl) hown).2 m hmn
              injection e3 with e3
              injection e3 with e3 e3'
              subst e3 e3'
              simp only [Nat.zero_add] at v0 v1 v2
              obtain ⟨v, hv⟩ : ∃ v, M[m]'hmn = v := ⟨_, rfl⟩
              rw [hv] at v0 v1 v2
              clear hv
              have f0 := OwnR.froz hown (m * 3)
              have f1 := OwnR.froz hown (m * 3 + 1)
              have f2 := OwnR.froz hown (m * 3 + 2)
              have Hmn := Lib.hid hmn
              clear hst hown hM hMt hMs hi hpl h1 h2 ha hb hLa hp1 hp hmn
              obtain ⟨a1, a2, a3⟩ := a
              obtain ⟨b1, b2, b3⟩ := b
              simp only at x0 x1 x2 y0 y1 y2
              have hne := fun w => neqKyN a1 a2 a3 b1 b2 b3 w
              by_cases he : (⟨a1, a2, a3⟩ : K3) = ⟨b1, b2, b3⟩
              · rw [decide_eq_true he] at hne
                have He2 := Lib.hid he
                clear he
                clear v0 v1 v2 f0 f1 f2
                go_wp2
                go_quiet (fail)
                go_wp2
                go_roundw
                case measure => have := Hpl.out; simp [intOf]; omega
                case rel => exact ⟨p + 1, m, by go_num, rfl, by omega, Hpl.out, cpt_keep Hst.out HLa.out He2.out Hi.out _⟩
              · rw [decide_eq_false he] at hne
                have He2 := Lib.hid he
                clear he
                go_wp2
                go_quiet (fail)
                go_wp2
                go_roundw
                case measure => have := Hpl.out; simp [intOf]; omega
                case rel => exact ⟨p + 1, m + 1, by go_num, by go_num, by omega, Hpl.out, cpt_put Hst.out HLa.out He2.out Hi.out _ Hn.out⟩
            · have hpe : k + p = L.length := by have := Hn.out; have := Hlt.out; omega
              have hcm : M.take m = cptL L := by rw [hMt, hpe]; rfl
              have hlm : m = (cptL L).length := by rw [hst.len, hpe]; rfl
              have hmn : m < n := by have := hst.lt; have := Hn.out; omega
              have Hcm := Lib.hid hcm
              have Hbel := Lib.hid hst.bel
              have hmi : (m : Int) < (n : Int) := by omega
              have hmi2 : (m : Int) ≤ (c : Int) := by omega
              have hple : ¬ (p : Int) < ((n - k : Nat) : Int) := by omega
              have Hmn := Lib.hid hmn
              have hnm : (n : Int) - (m : Int) = ((n - m : Nat) : Int) := by omega
              clear hst hown hM hMt hMs hpl hp1 hp hcm hmn hpe hlm
              go_wp2_with ((refine wpList_clear_row (e := 69) (C := 3) (cells := K3.cells) (fun _ => rfl) Tryz.underlying54 zeroK rfl (by intro u hu; simp [Value.cells] at hu; subst hu; rfl) (by rfl) _ (by rfl) Hown.out HM.out.symm m (Nat.le_of_lt Hmn.out) (n - m) (c - m) (m * 3) rfl (by have := Hmn.out; omega) (by rfl) ?_); intro w5 hown5 hg5; have HO5 := Lib.hid hown5; have HG5 := Lib.hid hg5; clear hown5 hg5)
              go_ret
              exact ⟨_, rfl, by have h := HO5.out; rw [Hcm.out] at h; exact h, grown_trans Hbel.out HG5.out, rfl⟩
        · rw [decide_eq_false he] at heq
          have He := Lib.hid he
          clear he
          go_wp2
          go_quiet (fail)
          go_wp2
          go_roundw
          case measure => have := Hlt.out; simp [intOf]; omega
          case rel =>
            refine ⟨k + 1, _, by go_num, by omega, Hlt.out, fun i h1 h2 => ?_, rfl⟩
            by_cases hij : i = j
            · subst hij
              have hk := Hj.out
              subst hk
              obtain ⟨g1, g2, g3, g4⟩ := Hj1.out
              rw [g3, g4]
              exact He.out
            · exact Hd.out i (by omega) h2
      · have hkn : k = n := by omega
        subst hkn
        have hkk : ¬ (k : Int) < (k : Int) := by omega
        have hc : cptL L = L := by
          unfold cptL
          rw [cptN_take _ (Nat.le_refl _) (fun i hi h => hd i (by rw [Hn.out]; exact hi) (by omega)), List.take_length]
        have Hc := Lib.hid hc
        clear hd hc
        go_wp2
        go_ret
        exact ⟨_, rfl, by rw [Hc.out]; exact H.out.below (below_drewN (Below.refl _ _) q), ⟨rfl, rfl, rfl, Nat.le_refl _, fun _ _ _ => rfl⟩, rfl⟩

end Go.Proofs.YtpnbibokddhheaaGreat

/-
  Keys in order, and lists of keys that are alike: what the document asks of them.
-/
namespace Go.Proofs.YtpnbibokddhheaaGreat
open Go.RowKit

set_option maxHeartbeats 2000000 in
set_option maxRecDepth 100000 in
theorem Keys_same (A A' : Option Addr) (c c' : Nat) (l : List K3) (w : World) (B B' : Nat) (h : RowsAt 3 K3.cells w B A l) (h' : RowsAt 3 K3.cells w B' A' l) (hB : B ≤ w.heap.size) (hB' : B' ≤ w.heap.size) (hlen : l.length ≤ 2 ^ 20) (n n' : Nat) (hn : n = l.length) (hn' : n' = l.length) :
    Calls Tryz.prog 13 #[.slice A n c, .slice A' n' c'] w fun r w' => r = .returned (.bool true) ∧ Below w.heap.size w w' := by
  subst hn hn'
  have H := Lib.hid (h.more hB)
  have H' := Lib.hid (h'.more hB')
  clear h h' hB hB'
  go_enter Tryz.func13, Tryz.ntmps13
  go_wp2
  go_loopw [5] (fun i wr => ∃ k : Nat, i = .int .i64 k ∧ k ≤ l.length ∧ Below w.heap.size w wr) (fun i _ => l.length - (intOf i).toNat)
  case atStart => exact ⟨0, rfl, Nat.zero_le _, Below.refl _ _⟩
  case round =>
    obtain ⟨k, rfl, hk, hb⟩ := hrel
    have Hb := Lib.hid hb
    by_cases hlt : k < l.length
    · obtain ⟨g, o, rfl, z0, z1, z2⟩ := row_k3 (H.out.below hb) k hlt
      obtain ⟨g', o', rfl, y0, y1, y2⟩ := row_k3 (H'.out.below hb) k hlt
      have hkl : (k : Int) < (l.length : Int) := by omega
      clear hb
      generalize l[k] = x at *
      obtain ⟨x1, x2, x3⟩ := x
      simp only at z0 z1 z2 y0 y1 y2
      go_wp2
      go_quiet (fail)
      go_wp2
      go_roundw
      case measure => simp [intOf]; omega
      case rel => exact ⟨k + 1, by go_num, hlt, below_drewN Hb.out _⟩
    · have hkk : k = l.length := by omega
      subst hkk
      clear hb
      go_wp2
      go_ret
      exact ⟨rfl, Hb.out⟩

end Go.Proofs.YtpnbibokddhheaaGreat

/-
  A description that was handed in.
-/
namespace Go.Proofs.YtpnbibokddhheaaGreat
open Go.ChangeShapes Go.WideShapes Go.RowKit Go.Deep Go.Joins

section
variable {H : Type} {enc : TypeId × Value → H} {w : World} {base : Nat} {spare : Nat → Bool} {held : Bool}
set_option maxRecDepth 100000 in
theorem open_lsa9 {r : Reach} {b0 : Nat} {v : Value} {d : DataW H} {p : List MemPlace} (hv : Value.okWide Tryz.prog w r b0 31 v) (h : DataW.Trod enc Tryz.prog w base spare held 31 v d p) :
    ∃ x : Lsa, v = .agg x.cells.toArray ∧ x.ok w w.heap.size := by
  obtain ⟨cs, rfl, _⟩ := okWide_struct Tryz.underlying31 hv
  obtain ⟨n, hn⟩ := h
  obtain ⟨x, he, hx⟩ := dec_lsa hn
  refine ⟨x, ?_, hx⟩
  congr 1
  exact Array.toList_inj.1 he
end

end Go.Proofs.YtpnbibokddhheaaGreat

/-
  A row of truths that was handed in.
-/
namespace Go.Proofs.YtpnbibokddhheaaGreat
open Go.ChangeShapes Go.WideShapes Go.RowKit Go.Deep Go.Joins


end Go.Proofs.YtpnbibokddhheaaGreat
