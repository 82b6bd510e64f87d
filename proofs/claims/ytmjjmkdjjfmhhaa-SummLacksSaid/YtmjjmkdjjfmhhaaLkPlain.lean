/-
  Layer 13: what is lacked, in plain words.
-/
import Derived.Test.YtmjjmkdjjfmhhaaSuBoth
import Derived.Test.YtmjjmkdjjfmhhaaStMap
import Derived.Test.YtmjjmkdjjfmhhaaKyPlain
namespace Go.Proofs.Ytmjjmkdjjfmhhaa
open Go.RowKit Go.Sort

def placeH (k : K3) : List Hd → Int
  | [] => -1
  | x :: L => if keyH x = k then 0 else if placeH k L < 0 then -1 else placeH k L + 1
theorem placeH_ge (k : K3) : ∀ L : List Hd, -1 ≤ placeH k L ∧ placeH k L < L.length
  | [] => ⟨by simp [placeH], by simp [placeH]⟩
  | x :: L => by
    have := placeH_ge k L
    unfold placeH
    simp only [List.length_cons]
    split
    · omega
    · split <;> omega
theorem placeH_at {k : K3} : ∀ {L : List Hd} {j : Nat} (hj : j < L.length), keyH L[j] = k → (∀ i, (hi : i < j) → (hl : i < L.length) → keyH L[i] ≠ k) → placeH k L = j
  | x :: L, 0, _, he, _ => by simp at he; simp [placeH, he]
  | x :: L, j + 1, hj, he, h0 => by
    have h1 := h0 0 (by omega) (by simp)
    simp only [List.getElem_cons_zero] at h1
    have h2 := placeH_at (L := L) (j := j) (by simpa using hj) (by simpa using he) (fun i hi hl => by
      have := h0 (i + 1) (by omega) (by simp; omega)
      simpa using this)
    unfold placeH
    rw [if_neg h1, if_neg (by omega), h2]
    omega
theorem placeH_none {k : K3} : ∀ {L : List Hd}, (∀ i, (hi : i < L.length) → keyH L[i] ≠ k) → placeH k L = -1
  | [], _ => rfl
  | x :: L, h0 => by
    have h1 := h0 0 (by simp)
    simp only [List.getElem_cons_zero] at h1
    have h2 := placeH_none (L := L) (fun i hi => by
      have := h0 (i + 1) (by simp; omega)
      simpa using this)
    unfold placeH
    rw [if_neg h1, if_pos (by omega)]
theorem placeH_get {k : K3} : ∀ {L : List Hd}, (placeH k L < 0 ∧ getH k L = none) ∨ (∃ (j : Nat) (hj : j < L.length), placeH k L = j ∧ getH k L = some L[j] ∧ keyH L[j] = k ∧ ∀ h, keyH h = k → setH h L = L.set j h)
  | [] => .inl ⟨by simp [placeH], rfl⟩
  | x :: L => by
    by_cases hx : keyH x = k
    · right
      refine ⟨0, by simp, ?_, ?_, hx, fun h hh => ?_⟩
      · simp [placeH, hx]
      · simp [getH, hx]
      · simp [setH, hx, hh]
    · rcases placeH_get (k := k) (L := L) with ⟨h1, h2⟩ | ⟨j, hj, h1, h2, h3, h4⟩
      · left
        refine ⟨?_, ?_⟩
        · unfold placeH; rw [if_neg hx, if_pos h1]; omega
        · simp [getH, hx, h2]
      · right
        refine ⟨j + 1, by simp; omega, ?_, ?_, by simpa using h3, fun h hh => ?_⟩
        · unfold placeH; rw [if_neg hx, if_neg (by omega), h1]; omega
        · simp [getH, hx, h2]
        · have hne : keyH x ≠ keyH h := by rw [hh]; exact hx
          simp [setH, hne, h4 h hh]


theorem getL_put {κ : Type} [DecidableEq κ] (k k' : κ) (v : Value) : ∀ S : List (κ × Value), getL k (setL k' v S) = if k = k' then some v else getL k S
  | [] => by
    unfold setL getL
    by_cases h : k' = k
    · rw [if_pos h, if_pos h.symm]
    · rw [if_neg h, if_neg (fun e => h e.symm)]
      rfl
  | e :: S => by
    unfold setL
    by_cases he : e.1 = k'
    · rw [if_pos he]
      unfold getL
      by_cases h : k' = k
      · rw [if_pos h, if_pos h.symm]
      · rw [if_neg h, if_neg (fun e => h e.symm), if_neg (fun e2 => h (he.symm.trans e2))]
    · rw [if_neg he]
      unfold getL
      by_cases h2 : e.1 = k
      · rw [if_pos h2, if_pos h2, if_neg (fun e3 => he (h2.trans e3))]
      · rw [if_neg h2, if_neg h2]
        exact getL_put k k' v S
theorem place_snoc (k : K3) (h : Hd) : ∀ L : List Hd, placeH k (L ++ [h]) = if placeH k L < 0 then (if keyH h = k then (L.length : Int) else -1) else placeH k L
  | [] => by simp [placeH]
  | x :: L => by
    have h1 := placeH_ge k L
    rw [List.cons_append]
    unfold placeH
    rw [place_snoc k h L]
    by_cases hx : keyH x = k
    · simp [hx]
    · simp only [if_neg hx]
      by_cases hp : placeH k L < 0
      · simp only [if_pos hp]
        by_cases hk : keyH h = k
        · simp [hk]; omega
        · simp [hk]
      · simp only [if_neg hp]
        rw [if_neg (by omega)]
theorem place_set (k : K3) (h : Hd) : ∀ (L : List Hd) (j : Nat) (hj : j < L.length), keyH L[j] = keyH h → placeH k (L.set j h) = placeH k L
  | x :: L, 0, _, he => by
    simp only [List.set_cons_zero, List.getElem_cons_zero] at *
    unfold placeH
    rw [he]
  | x :: L, j + 1, hj, he => by
    simp only [List.set_cons_succ, List.getElem_cons_succ] at *
    unfold placeH
    rw [place_set k h L j (by simpa using hj) he]
/-- the program's map of places -/
def AtIs (S : List (K3 × Value)) (out : List Hd) : Prop := ∀ k, getL k S = if placeH k out < 0 then none else some (.int .i64 (placeH k out))
theorem AtIs.nil : AtIs [] [] := fun k => by simp [getL, placeH]
theorem AtIs.snoc {S : List (K3 × Value)} {out : List Hd} (h : AtIs S out) (x : Hd) (hp : placeH (keyH x) out < 0) : AtIs (setL (keyH x) (.int .i64 out.length) S) (out ++ [x]) := fun k => by
  rw [getL_put, place_snoc]
  by_cases hk : k = keyH x
  · subst hk
    rw [if_pos rfl, if_pos hp, if_pos rfl, if_neg (by omega)]
  · rw [if_neg hk, h k]
    have hk' : ¬ keyH x = k := fun e => hk e.symm
    by_cases h2 : placeH k out < 0
    · simp [h2, hk']
    · simp [h2]
theorem AtIs.set {S : List (K3 × Value)} {out : List Hd} (h : AtIs S out) (x : Hd) (j : Nat) (hj : j < out.length) (he : keyH out[j] = keyH x) : AtIs S (out.set j x) := fun k => by
  rw [place_set k x out j hj he]
  exact h k
/-- it has it, or a newer one -/
def hasIt (M : List Lsa) (h : Hd) : Bool := match getX (keyH h) M with | some x => decide (newerI h x.head ≤ 0) | none => false
def putIt (out : List Hd) (h : Hd) : List Hd := match getH (keyH h) out with | some y => if 0 < newerI h y then setH h out else out | none => out ++ [h]
def lackStep (M : List Lsa) (out : List Hd) (h : Hd) : List Hd := if hasIt M h = true then out else putIt out h
def lackAll (M : List Lsa) (hs : List Hd) : List Hd := hs.foldl (lackStep M) []
theorem lack_more (M : List Lsa) {hs : List Hd} {k : Nat} (hk : k < hs.length) : lackAll M (hs.take (k + 1)) = lackStep M (lackAll M (hs.take k)) hs[k] := by
  unfold lackAll
  rw [List.take_succ_eq_append_getElem hk, List.foldl_append]
  rfl
def agesH (L : List Hd) : Prop := ∀ x ∈ L, 0 ≤ x.age ∧ x.age ≤ 60
theorem step_ages {M : List Lsa} {out : List Hd} {h : Hd} (ho : agesH out) (hh : 0 ≤ h.age ∧ h.age ≤ 60) : agesH (lackStep M out h) := by
  unfold lackStep
  split
  · exact ho
  · unfold putIt
    rcases placeH_get (k := keyH h) (L := out) with ⟨-, h2⟩ | ⟨j, hj, -, h2, h3, h4⟩
    · rw [h2]
      intro x hx
      rcases List.mem_append.1 hx with hx | hx
      · exact ho x hx
      · rw [List.mem_singleton] at hx; rw [hx]; exact hh
    · rw [h2]
      simp only
      split
      · rw [h4 h rfl]
        intro x hx
        rcases List.mem_or_eq_of_mem_set hx with hx | rfl
        · exact ho x hx
        · exact hh
      · exact ho
theorem step_len {M : List Lsa} {out : List Hd} {h : Hd} : (lackStep M out h).length ≤ out.length + 1 := by
  unfold lackStep
  split
  · omega
  · unfold putIt
    rcases placeH_get (k := keyH h) (L := out) with ⟨-, h2⟩ | ⟨j, hj, -, h2, h3, h4⟩
    · rw [h2]; simp
    · rw [h2]
      simp only
      split
      · rw [h4 h rfl]; simp
      · omega
theorem lack_fold (M : List Lsa) : ∀ (hs out : List Hd), agesH hs → agesH out → agesH (hs.foldl (lackStep M) out) ∧ (hs.foldl (lackStep M) out).length ≤ out.length + hs.length
  | [], out, _, ho => ⟨ho, by simp⟩
  | h :: hs, out, hh, ho => by
    have := lack_fold M hs (lackStep M out h) (fun x hx => hh x (by simp [hx])) (step_ages ho (hh h (by simp)))
    have h2 := step_len (M := M) (out := out) (h := h)
    rw [List.foldl_cons, List.length_cons]
    exact ⟨this.1, by omega⟩
theorem lack_ages {M : List Lsa} {hs : List Hd} (h : agesH hs) : agesH (lackAll M hs) := (lack_fold M hs [] h (fun _ hx => by cases hx)).1
theorem lack_len {M : List Lsa} {hs : List Hd} (h : agesH hs) : (lackAll M hs).length ≤ hs.length := by
  have := (lack_fold M hs [] h (fun _ hx => by cases hx)).2
  simpa [lackAll] using this
/-- what is lacked is the same for a database and for the document's -/
theorem hasIt_same {M L : List Lsa} (h : DEq M L) (x : Hd) : hasIt L x = hasIt M x := by
  unfold hasIt
  rcases h.find (keyH x) with ⟨h1, h2, -⟩ | ⟨a, j, hj, h1, h2, h3, h4, -⟩
  · have hg : getX (keyH x) L = none := by
      rcases findX_get (k := keyH x) (L := L) with ⟨-, h5, -⟩ | ⟨j, hj, h5, -⟩
      · exact h5
      · omega
    rw [hg, h1]
  · have hg : getX (keyH x) L = some L[j] := by
      rcases findX_get (k := keyH x) (L := L) with ⟨h5, -, -⟩ | ⟨i, hi, h5, h6, -⟩
      · omega
      · have : i = j := by omega
        subst this
        exact h6
    rw [hg, h1]
    simp only
    rw [show L[j].head = a.head from congrArg (fun v : VX => v.1) h4]
theorem lack_same {M L : List Lsa} (h : DEq M L) (hs : List Hd) : lackAll L hs = lackAll M hs := by
  have hf : lackStep L = lackStep M := by
    funext out x
    unfold lackStep
    rw [hasIt_same h]
  unfold lackAll
  rw [hf]

end Go.Proofs.Ytmjjmkdjjfmhhaa
