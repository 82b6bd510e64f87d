/-
  Keys in order, in plain words.
-/
import Derived.Test.YtpnbibokddhheaaCmpTail
import Derived.Test.YtpnbibokddhheaaKyThree
namespace Go.Proofs.Ytpnbibokddhheaa

def cmpK (a b : K3) : Int := cmp3 a.kind a.id a.adv b.kind b.id b.adv
def lessK (a b : K3) : Bool := less3 a.kind a.id a.adv b.kind b.id b.adv
theorem cmpK_less (a b : K3) : decide (cmpK a b < 0) = lessK a b := cmp3_less _ _ _ _ _ _
def sortK (L : List K3) : List K3 := L.mergeSort fun x y => !lessK y x
theorem lessK_iff (a b : K3) : lessK a b = true ↔ a.kind < b.kind ∨ (a.kind = b.kind ∧ (a.id < b.id ∨ (a.id = b.id ∧ a.adv < b.adv))) := by
  simp [lessK, less3]
theorem lessK_irr (a : K3) : lessK a a = false := by
  rw [Bool.eq_false_iff]; intro h; rw [lessK_iff] at h; omega
theorem lessK_tot {a b : K3} (h1 : lessK a b = false) (h2 : lessK b a = false) : a = b := by
  rw [Bool.eq_false_iff, ne_eq, lessK_iff] at h1 h2
  obtain ⟨a1, a2, a3⟩ := a
  obtain ⟨b1, b2, b3⟩ := b
  simp only at h1 h2
  simp only [K3.mk.injEq]
  omega
theorem lessK_trans {a b c : K3} (h1 : lessK a b = true) (h2 : lessK b c = true) : lessK a c = true := by
  rw [lessK_iff] at *; omega
theorem lessK_ntrans {a b c : K3} (h1 : lessK a b = false) (h2 : lessK b c = false) : lessK a c = false := by
  rw [Bool.eq_false_iff, ne_eq, lessK_iff] at *; omega
theorem sortK_perm (L : List K3) : (sortK L).Perm L := List.mergeSort_perm _ _
theorem sortK_len (L : List K3) : (sortK L).length = L.length := (sortK_perm L).length_eq
theorem sortK_sorted (L : List K3) : (sortK L).Pairwise fun x y => lessK y x = false := by
  have := List.pairwise_mergeSort (le := fun x y => !lessK y x) (fun a b c h1 h2 => by
    simp only [Bool.not_eq_true'] at *
    exact lessK_ntrans h2 h1) (fun a b => by
    cases h : lessK b a
    · simp
    · cases h' : lessK a b
      · simp
      · exact absurd (lessK_trans h h') (by rw [lessK_irr]; simp)) L
  exact this.imp fun {a b} h => by simpa using h
/-- two lists of the same keys, both in order, are one -/
theorem sorted_one : ∀ {L M : List K3}, L.Perm M → (L.Pairwise fun x y => lessK y x = false) → (M.Pairwise fun x y => lessK y x = false) → L = M
  | [], M, hp, _, _ => by simpa using hp.symm.eq_nil
  | x :: L, [], hp, _, _ => by simpa using hp.eq_nil
  | x :: L, y :: M, hp, h1, h2 => by
    rw [List.pairwise_cons] at h1 h2
    have hxy : x = y := by
      have hx : x ∈ y :: M := hp.subset (by simp)
      have hy : y ∈ x :: L := hp.symm.subset (by simp)
      rcases List.mem_cons.1 hx with e | hx
      · exact e
      · rcases List.mem_cons.1 hy with e | hy
        · exact e.symm
        · exact lessK_tot (h2.1 x hx) (h1.1 y hy)
    subst hxy
    rw [sorted_one (List.Perm.cons_inv hp) h1.2 h2.2]
theorem sortK_of_perm {L M : List K3} (h : L.Perm M) : sortK L = sortK M := sorted_one (((sortK_perm L).trans h).trans (sortK_perm M).symm) (sortK_sorted L) (sortK_sorted M)
theorem sortK_of_sorted {L : List K3} (h : L.Pairwise fun x y => lessK y x = false) : sortK L = L := sorted_one (sortK_perm L) (sortK_sorted L) h

end Go.Proofs.Ytpnbibokddhheaa

/-
  Layer 15: what is wanted, in plain words: heads by their keys.
-/
namespace Go.Proofs.Ytpnbibokddhheaa

def keyH (h : Hd) : K3 := ⟨h.kind, h.id, h.adv⟩
def aggH (h : Hd) : Value := .agg h.cells.toArray
def waL (M : List Hd) : List (K3 × Value) := M.map fun h => (keyH h, aggH h)
def getH (k : K3) : List Hd → Option Hd
  | [] => none
  | x :: M => if keyH x = k then some x else getH k M
def setH (h : Hd) : List Hd → List Hd
  | [] => [h]
  | x :: M => if keyH x = keyH h then h :: M else x :: setH h M
def dropH (k : K3) (M : List Hd) : List Hd := M.filter fun x => decide (keyH x ≠ k)
theorem getL_wa (k : K3) : ∀ M : List Hd, getL k (waL M) = (getH k M).map aggH
  | [] => rfl
  | x :: M => by
    have ih := getL_wa k M
    unfold waL at ih ⊢
    by_cases hx : keyH x = k
    · simp [getL, getH, hx]
    · simp [getL, getH, hx, ih]
theorem setL_wa (h : Hd) : ∀ M : List Hd, setL (keyH h) (aggH h) (waL M) = waL (setH h M)
  | [] => rfl
  | x :: M => by
    have ih := setL_wa h M
    unfold waL at ih ⊢
    by_cases hx : keyH x = keyH h
    · simp [setL, setH, hx]
    · simp [setL, setH, hx, ih]
theorem dropL_wa (k : K3) (M : List Hd) : dropL k (waL M) = waL (dropH k M) := by
  unfold dropL waL dropH
  rw [List.filter_map]
  rfl
theorem fst_wa (M : List Hd) : (waL M).map (·.1) = M.map keyH := by simp [waL, Function.comp_def]

/-- the document's list is in order -/
def sortedH (L : List Hd) : Prop := L.Pairwise fun x y => lessK (keyH x) (keyH y) = true
theorem sortedH.keys {L : List Hd} (h : sortedH L) : (L.map keyH).Nodup := by
  unfold sortedH at h
  rw [List.Nodup, List.pairwise_map]
  exact h.imp fun {a b} hab e => by rw [e, lessK_irr] at hab; cases hab
theorem getH_mem {k : K3} : ∀ {M : List Hd} {x : Hd}, getH k M = some x → x ∈ M ∧ keyH x = k
  | y :: M, x, h => by
    unfold getH at h
    by_cases hy : keyH y = k
    · rw [if_pos hy] at h
      injection h with h
      subst h
      exact ⟨by simp, hy⟩
    · rw [if_neg hy] at h
      have := getH_mem h
      exact ⟨by simp [this.1], this.2⟩
theorem getH_none {k : K3} : ∀ {M : List Hd}, getH k M = none ↔ ∀ x ∈ M, keyH x ≠ k
  | [] => by simp [getH]
  | y :: M => by
    unfold getH
    by_cases hy : keyH y = k
    · simp [hy]
    · simp [hy, getH_none (M := M)]
theorem getH_of {M : List Hd} (hn : (M.map keyH).Nodup) {x : Hd} (hx : x ∈ M) : getH (keyH x) M = some x := by
  induction M with
  | nil => simp at hx
  | cons y M ih =>
    simp only [List.map_cons, List.nodup_cons] at hn
    unfold getH
    by_cases hy : keyH y = keyH x
    · rw [if_pos hy]
      rcases List.mem_cons.1 hx with e | hx
      · rw [e]
      · exact absurd (by rw [hy]; exact List.mem_map_of_mem hx) hn.1
    · rw [if_neg hy]
      rcases List.mem_cons.1 hx with e | hx
      · exact absurd (by rw [e]) hy
      · exact ih hn.2 hx
theorem getH_perm {M L : List Hd} (hp : M.Perm L) (hn : (M.map keyH).Nodup) (k : K3) : getH k M = getH k L := by
  have hn' : (L.map keyH).Nodup := (hp.map keyH).nodup_iff.1 hn
  cases h : getH k L with
  | none => rw [getH_none] at h ⊢; exact fun x hx => h x (hp.subset hx)
  | some x =>
    obtain ⟨h1, h2⟩ := getH_mem h
    subst h2
    exact getH_of hn (hp.symm.subset h1)
theorem setH_perm (h : Hd) : ∀ {M : List Hd}, (M.map keyH).Nodup → (setH h M).Perm (h :: dropH (keyH h) M)
  | [], _ => by simp [setH, dropH]
  | x :: M, hn => by
    simp only [List.map_cons, List.nodup_cons] at hn
    unfold setH
    by_cases hx : keyH x = keyH h
    · rw [if_pos hx]
      have : dropH (keyH h) (x :: M) = M := by
        unfold dropH
        rw [List.filter_cons_of_neg (by simp [hx])]
        exact List.filter_eq_self.2 fun y hy => by simpa using fun e => hn.1 (by rw [hx, ← e]; exact List.mem_map_of_mem hy)
      rw [this]
    · rw [if_neg hx]
      have : dropH (keyH h) (x :: M) = x :: dropH (keyH h) M := by unfold dropH; rw [List.filter_cons_of_pos (by simp [hx])]
      rw [this]
      exact ((setH_perm h hn.2).cons x).trans (List.Perm.swap _ _ _)
theorem setH_keys {h : Hd} : ∀ {L : List Hd}, (∃ x ∈ L, keyH x = keyH h) → (setH h L).map keyH = L.map keyH
  | [], hx => by obtain ⟨x, hx, _⟩ := hx; simp at hx
  | y :: L, hx => by
    unfold setH
    by_cases hy : keyH y = keyH h
    · rw [if_pos hy]; simp [hy]
    · rw [if_neg hy]
      obtain ⟨x, hx1, hx2⟩ := hx
      rcases List.mem_cons.1 hx1 with e | hx1
      · exact absurd (by rw [← e]; exact hx2) hy
      · simp [setH_keys (L := L) ⟨x, hx1, hx2⟩]
theorem sorted_keys {L L' : List Hd} (h : sortedH L) (e : L'.map keyH = L.map keyH) : sortedH L' := by
  unfold sortedH at *
  have h1 : (L.map keyH).Pairwise fun x y => lessK x y = true := by rw [List.pairwise_map]; exact h
  rw [← e, List.pairwise_map] at h1
  exact h1
def insH (h : Hd) : List Hd → List Hd
  | [] => [h]
  | x :: L => if lessK (keyH h) (keyH x) = true then h :: x :: L else x :: insH h L
theorem insH_perm (h : Hd) : ∀ L : List Hd, (insH h L).Perm (h :: L)
  | [] => List.Perm.refl _
  | x :: L => by
    unfold insH
    split
    · exact List.Perm.refl _
    · exact ((insH_perm h L).cons x).trans (List.Perm.swap _ _ _)
theorem insH_sorted {h : Hd} : ∀ {L : List Hd}, sortedH L → (∀ x ∈ L, keyH x ≠ keyH h) → sortedH (insH h L)
  | [], _, _ => by simp [insH, sortedH]
  | x :: L, hs, hne => by
    unfold sortedH at hs
    rw [List.pairwise_cons] at hs
    unfold insH
    by_cases hl : lessK (keyH h) (keyH x) = true
    · rw [if_pos hl]
      unfold sortedH
      rw [List.pairwise_cons, List.pairwise_cons]
      refine ⟨fun y hy => ?_, hs⟩
      rcases List.mem_cons.1 hy with e | hy
      · rw [e]; exact hl
      · exact lessK_trans hl (hs.1 y hy)
    · rw [if_neg hl]
      unfold sortedH
      rw [List.pairwise_cons]
      refine ⟨fun y hy => ?_, insH_sorted hs.2 fun z hz => hne z (by simp [hz])⟩
      have hy' := (insH_perm h L).subset hy
      rcases List.mem_cons.1 hy' with e | hy'
      · rw [e]
        cases hx : lessK (keyH x) (keyH h) with
        | true => rfl
        | false => exact absurd (lessK_tot hx (by simpa using hl)) (hne x (by simp))
      · exact hs.1 y hy'
theorem sortedH_one : ∀ {L M : List Hd}, L.Perm M → sortedH L → sortedH M → L = M
  | [], M, hp, _, _ => by simpa using hp.symm.eq_nil
  | x :: L, [], hp, _, _ => by simpa using hp.eq_nil
  | x :: L, y :: M, hp, h1, h2 => by
    unfold sortedH at h1 h2
    rw [List.pairwise_cons] at h1 h2
    have hxy : x = y := by
      rcases List.mem_cons.1 (hp.subset (List.mem_cons_self (a := x) (l := L))) with e | hx
      · exact e
      · rcases List.mem_cons.1 (hp.symm.subset (List.mem_cons_self (a := y) (l := M))) with e | hy
        · exact e.symm
        · have h3 := lessK_trans (h2.1 x hx) (h1.1 y hy)
          rw [lessK_irr] at h3
          cases h3
    subst hxy
    rw [sortedH_one (List.Perm.cons_inv hp) h1.2 h2.2]

/-- the map's heads and the document's list -/
structure WEq (M L : List Hd) : Prop where
  perm : M.Perm L
  sorted : sortedH L
section
variable {M L : List Hd}
theorem WEq.nil : WEq [] [] := ⟨List.Perm.refl _, by simp [sortedH]⟩
theorem WEq.keys (h : WEq M L) : (M.map keyH).Nodup := (h.perm.map keyH).nodup_iff.2 h.sorted.keys
theorem WEq.get (h : WEq M L) (k : K3) : getH k M = getH k L := getH_perm h.perm h.keys k
theorem WEq.len (h : WEq M L) : M.length = L.length := h.perm.length_eq
theorem WEq.drop (h : WEq M L) (k : K3) : WEq (dropH k M) (dropH k L) := ⟨h.perm.filter _, h.sorted.sublist List.filter_sublist⟩
theorem WEq.set (h : WEq M L) {x : Hd} {y : Hd} (hx : getH (keyH y) L = some x) : WEq (setH y M) (setH y L) := by
  obtain ⟨h1, h2⟩ := getH_mem hx
  exact ⟨((setH_perm y h.keys).trans ((h.perm.filter _).cons y)).trans (setH_perm y h.sorted.keys).symm, sorted_keys h.sorted (setH_keys ⟨x, h1, h2⟩)⟩
theorem WEq.ins (h : WEq M L) {y : Hd} (hy : getH (keyH y) L = none) : WEq (setH y M) (insH y L) := by
  rw [getH_none] at hy
  refine ⟨(setH_perm y h.keys).trans (List.Perm.trans ?_ (insH_perm y L).symm), insH_sorted h.sorted hy⟩
  have : dropH (keyH y) L = L := List.filter_eq_self.2 fun z hz => by simpa using hy z hz
  have h3 := h.perm.filter (fun x => decide (keyH x ≠ keyH y))
  unfold dropH at this ⊢
  rw [this] at h3
  exact h3.cons y
end

/-- one head is added: on either side -/
def addM (nw : Hd → Hd → Int) (M : List Hd) (h : Hd) : List Hd := match getH (keyH h) M with
  | some x => if 0 < nw h x then setH h M else M
  | none => setH h M
def addD (nw : Hd → Hd → Int) (L : List Hd) (h : Hd) : List Hd := match getH (keyH h) L with
  | some x => if 0 < nw h x then setH h L else L
  | none => insH h L
theorem WEq.add {M L : List Hd} (h : WEq M L) (nw : Hd → Hd → Int) (y : Hd) : WEq (addM nw M y) (addD nw L y) := by
  unfold addM addD
  rw [h.get]
  cases hx : getH (keyH y) L with
  | none => exact h.ins hx
  | some x =>
    simp only
    by_cases h1 : 0 < nw y x
    · rw [if_pos h1, if_pos h1]; exact h.set hx
    · rw [if_neg h1, if_neg h1]; exact h

end Go.Proofs.Ytpnbibokddhheaa
