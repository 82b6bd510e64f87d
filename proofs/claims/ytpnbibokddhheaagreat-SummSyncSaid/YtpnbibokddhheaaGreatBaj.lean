/-
  Layer 13: what is lacked, in plain words.
-/
import Derived.Sort.Statements
import Derived.Sort.Defs
import Derived.RegionTactic
import Derived.Test.YtpnbibokddhheaaGreatBaa
import Derived.Test.YtpnbibokddhheaaGreatBab
import Derived.Test.YtpnbibokddhheaaGreatBac
import Derived.Test.YtpnbibokddhheaaGreatBag
import Derived.Test.YtpnbibokddhheaaGreatBai
namespace Go.Proofs.YtpnbibokddhheaaGreat
open Go.RowKit Go.Sort

def placeH (k : K3) : List Hd → Int
  | [] => -1
  | x :: L => if keyH x = k then 0 else if placeH k L < 0 then -1 else placeH k L + 1
theorem placeH_ge (k : K3) : ∀ L : List Hd, -1 ≤ placeH k L ∧ placeH k L < L.length
  | [] => ⟨by simp [placeH], by simp [placeH]⟩
  | x :: L => by
    have := placeH_ge k L
    unfold placeH
    simp only [List.length_cons]
    split
    · omega
    · split <;> omega
theorem placeH_at {k : K3} : ∀ {L : List Hd} {j : Nat} (hj : j < L.length), keyH L[j] = k → (∀ i, (hi : i < j) → (hl : i < L.length) → keyH L[i] ≠ k) → placeH k L = j
  | x :: L, 0, _, he, _ => by simp at he; simp [placeH, he]
  | x :: L, j + 1, hj, he, h0 => by
    have h1 := h0 0 (by omega) (by simp)
    simp only [List.getElem_cons_zero] at h1
    have h2 := placeH_at (L := L) (j := j) (by simpa using hj) (by simpa using he) (fun i hi hl => by
      have := h0 (i + 1) (by omega) (by simp; omega)
      simpa using this)
    unfold placeH
    rw [if_neg h1, if_neg (by omega), h2]
    omega
theorem placeH_none {k : K3} : ∀ {L : List Hd}, (∀ i, (hi : i < L.length) → keyH L[i] ≠ k) → placeH k L = -1
  | [], _ => rfl
  | x :: L, h0 => by
    have h1 := h0 0 (by simp)
    simp only [List.getElem_cons_zero] at h1
    have h2 := placeH_none (L := L) (fun i hi => by
      have := h0 (i + 1) (by simp; omega)
      simpa using this)
    unfold placeH
    rw [if_neg h1, if_pos (by omega)]
theorem placeH_get {k : K3} : ∀ {L : List Hd}, (placeH k L < 0 ∧ getH k L = none) ∨ (∃ (j : Nat) (hj : j < L.length), placeH k L = j ∧ getH k L = some L[j] ∧ keyH L[j] = k ∧ ∀ h, keyH h = k → setH h L = L.set j h)
  | [] => .inl ⟨by simp [placeH], rfl⟩
  | x :: L => by
    by_cases hx : keyH x = k
    · right
      refine ⟨0, by simp, ?_, ?_, hx, fun h hh => ?_⟩
      · simp [placeH, hx]
      · simp [getH, hx]
      · simp [setH, hx, hh]
    · rcases placeH_get (k := k) (L := L) with ⟨h1, h2⟩ | ⟨j, hj, h1, h2, h3, h4⟩
      · left
        refine ⟨?_, ?_⟩
        · unfold placeH; rw [if_neg hx, if_pos h1]; omega
        · simp [getH, hx, h2]
      · right
        refine ⟨j + 1, by simp; omega, ?_, ?_, by simpa using h3, fun h hh => ?_⟩
        · unfold placeH; rw [if_neg hx, if_neg (by omega), h1]; omega
        · simp [getH, hx, h2]
        · have hne : keyH x ≠ keyH h := by rw [hh]; exact hx
          simp [setH, hne, h4 h hh]


theorem getL_put {κ : Type} [DecidableEq κ] (k k' : κ) (v : Value) : ∀ S : List (κ × Value), getL k (setL k' v S) = if k = k' then some v else getL k S
  | [] => by
    unfold setL getL
    by_cases h : k' = k
    · rw [if_pos h, if_pos h.symm]
    · rw [if_neg h, if_neg (fun e => h e.symm)]
      rfl
  | e :: S => by
    unfold setL
    by_cases he : e.1 = k'
    · rw [if_pos he]
      unfold getL
      by_cases h : k' = k
      · rw [if_pos h, if_pos h.symm]
      · rw [if_neg h, if_neg (fun e => h e.symm), if_neg (fun e2 => h (he.symm.trans e2))]
    · rw [if_neg he]
      unfold getL
      by_cases h2 : e.1 = k
      · rw [if_pos h2, if_pos h2, if_neg (fun e3 => he (h2.trans e3))]
      · rw [if_neg h2, if_neg h2]
        exact getL_put k k' v S
theorem place_snoc (k : K3) (h : Hd) : ∀ L : List Hd, placeH k (L ++ [h]) = if placeH k L < 0 then (if keyH h = k then (L.length : Int) else -1) else placeH k L
  | [] => by simp [placeH]
  | x :: L => by
    have h1 := placeH_ge k L
    rw [List.cons_append]
    unfold placeH
    rw [place_snoc k h L]
    by_cases hx : keyH x = k
    · simp [hx]
    · simp only [if_neg hx]
      by_cases hp : placeH k L < 0
      · simp only [if_pos hp]
        by_cases hk : keyH h = k
        · simp [hk]; omega
        · simp [hk]
      · simp only [if_neg hp]
        rw [if_neg (by omega)]
theorem place_set (k : K3) (h : Hd) : ∀ (L : List Hd) (j : Nat) (hj : j < L.length), keyH L[j] = keyH h → placeH k (L.set j h) = placeH k L
  | x :: L, 0, _, he => by
    simp only [List.set_cons_zero, List.getElem_cons_zero] at *
    unfold placeH
    rw [he]
  | x :: L, j + 1, hj, he => by
    simp only [List.set_cons_succ, List.getElem_cons_succ] at *
    unfold placeH
    rw [place_set k h L j (by simpa using hj) he]
/-- the program's map of places -/
def AtIs (S : List (K3 × Value)) (out : List Hd) : Prop := ∀ k, getL k S = if placeH k out < 0 then none else some (.int .i64 (placeH k out))
theorem AtIs.nil : AtIs [] [] := fun k => by simp [getL, placeH]
theorem AtIs.snoc {S : List (K3 × Value)} {out : List Hd} (h : AtIs S out) (x : Hd) (hp : placeH (keyH x) out < 0) : AtIs (setL (keyH x) (.int .i64 out.length) S) (out ++ [x]) := fun k => by
  rw [getL_put, place_snoc]
  by_cases hk : k = keyH x
  · subst hk
    rw [if_pos rfl, if_pos hp, if_pos rfl, if_neg (by omega)]
  · rw [if_neg hk, h k]
    have hk' : ¬ keyH x = k := fun e => hk e.symm
    by_cases h2 : placeH k out < 0
    · simp [h2, hk']
    · simp [h2]
theorem AtIs.set {S : List (K3 × Value)} {out : List Hd} (h : AtIs S out) (x : Hd) (j : Nat) (hj : j < out.length) (he : keyH out[j] = keyH x) : AtIs S (out.set j x) := fun k => by
  rw [place_set k x out j hj he]
  exact h k
/-- it has it, or a newer one -/
def hasIt (M : List Lsa) (h : Hd) : Bool := match getX (keyH h) M with | some x => decide (newerI h x.head ≤ 0) | none => false
def putIt (out : List Hd) (h : Hd) : List Hd := match getH (keyH h) out with | some y => if 0 < newerI h y then setH h out else out | none => out ++ [h]
def lackStep (M : List Lsa) (out : List Hd) (h : Hd) : List Hd := if hasIt M h = true then out else putIt out h
def lackAll (M : List Lsa) (hs : List Hd) : List Hd := hs.foldl (lackStep M) []
theorem lack_more (M : List Lsa) {hs : List Hd} {k : Nat} (hk : k < hs.length) : lackAll M (hs.take (k + 1)) = lackStep M (lackAll M (hs.take k)) hs[k] := by
  unfold lackAll
  rw [List.take_succ_eq_append_getElem hk, List.foldl_append]
  rfl
def agesH (L : List Hd) : Prop := ∀ x ∈ L, 0 ≤ x.age ∧ x.age ≤ 60
theorem step_ages {M : List Lsa} {out : List Hd} {h : Hd} (ho : agesH out) (hh : 0 ≤ h.age ∧ h.age ≤ 60) : agesH (lackStep M out h) := by
  unfold lackStep
  split
  · exact ho
  · unfold putIt
    rcases placeH_get (k := keyH h) (L := out) with ⟨-, h2⟩ | ⟨j, hj, -, h2, h3, h4⟩
    · rw [h2]
      intro x hx
      rcases List.mem_append.1 hx with hx | hx
      · exact ho x hx
      · rw [List.mem_singleton] at hx; rw [hx]; exact hh
    · rw [h2]
      simp only
      split
      · rw [h4 h rfl]
        intro x hx
        rcases List.mem_or_eq_of_mem_set hx with hx | rfl
        · exact ho x hx
        · exact hh
      · exact ho
theorem step_len {M : List Lsa} {out : List Hd} {h : Hd} : (lackStep M out h).length ≤ out.length + 1 := by
  unfold lackStep
  split
  · omega
  · unfold putIt
    rcases placeH_get (k := keyH h) (L := out) with ⟨-, h2⟩ | ⟨j, hj, -, h2, h3, h4⟩
    · rw [h2]; simp
    · rw [h2]
      simp only
      split
      · rw [h4 h rfl]; simp
      · omega
theorem lack_fold (M : List Lsa) : ∀ (hs out : List Hd), agesH hs → agesH out → agesH (hs.foldl (lackStep M) out) ∧ (hs.foldl (lackStep M) out).length ≤ out.length + hs.length
  | [], out, _, ho => ⟨ho, by simp⟩
  | h :: hs, out, hh, ho => by
    have := lack_fold M hs (lackStep M out h) (fun x hx => hh x (by simp [hx])) (step_ages ho (hh h (by simp)))
    have h2 := step_len (M := M) (out := out) (h := h)
    rw [List.foldl_cons, List.length_cons]
    exact ⟨this.1, by omega⟩
theorem lack_ages {M : List Lsa} {hs : List Hd} (h : agesH hs) : agesH (lackAll M hs) := (lack_fold M hs [] h (fun _ hx => by cases hx)).1
theorem lack_len {M : List Lsa} {hs : List Hd} (h : agesH hs) : (lackAll M hs).length ≤ hs.length := by
  have := (lack_fold M hs [] h (fun _ hx => by cases hx)).2
  simpa [lackAll] using this
/-- what is lacked is the same for a database and for the document's -/
theorem hasIt_same {M L : List Lsa} (h : DEq M L) (x : Hd) : hasIt L x = hasIt M x := by
  unfold hasIt
  rcases h.find (keyH x) with ⟨h1, h2, -⟩ | ⟨a, j, hj, h1, h2, h3, h4, -⟩
  · have hg : getX (keyH x) L = none := by
      rcases findX_get (k := keyH x) (L := L) with ⟨-, h5, -⟩ | ⟨j, hj, h5, -⟩
      · exact h5
      · omega
    rw [hg, h1]
  · have hg : getX (keyH x) L = some L[j] := by
      rcases findX_get (k := keyH x) (L := L) with ⟨h5, -, -⟩ | ⟨i, hi, h5, h6, -⟩
      · omega
      · have : i = j := by omega
        subst this
        exact h6
    rw [hg, h1]
    simp only
    rw [show L[j].head = a.head from congrArg (fun v : VX => v.1) h4]
theorem lack_same {M L : List Lsa} (h : DEq M L) (hs : List Hd) : lackAll L hs = lackAll M hs := by
  have hf : lackStep L = lackStep M := by
    funext out x
    unfold lackStep
    rw [hasIt_same h]
  unfold lackAll
  rw [hf]

end Go.Proofs.YtpnbibokddhheaaGreat

/-
  Layers 13 and 15 in plain words: what is lacked, and put.
-/
namespace Go.Proofs.YtpnbibokddhheaaGreat
open Go.RowKit Go.Sort

theorem newer_self (u : Hd) : newerI u u = 0 := by
  have h1 : ∀ a : Int, cmpI a a = 0 := fun a => by unfold cmpI; rw [if_neg (by omega), if_neg (by omega)]
  have h2 : youngI u.age u.age = 0 := by unfold youngI; rw [if_neg (by omega)]
  unfold newerI
  rw [h1, h1, h1, h2]
  rfl
theorem bytes_same {h h' : Hd} (ls : List Lnk) (ms : List Int) (e1 : h.age = h'.age) (e2 : h.kind = h'.kind) (e3 : h.id = h'.id) (e4 : h.adv = h'.adv) (e5 : h.seq = h'.seq) : bytesL h ls ms = bytesL h' ls ms := by
  unfold bytesL rawL
  rw [e1, e2, e3, e4, e5]
theorem seal_gen (f : Hd → List Int) (s l : List Int → Int) (h : Hd) (hf : f { h with sum := s (f h), long := l (f h) } = f h) : ({ ({ h with sum := s (f h), long := l (f h) } : Hd) with sum := s (f { h with sum := s (f h), long := l (f h) }), long := l (f { h with sum := s (f h), long := l (f h) }) } : Hd) = { h with sum := s (f h), long := l (f h) } := by
  rw [hf]
theorem seal_again (h : Hd) (ls : List Lnk) (ms : List Int) : sealedH (sealedH h ls ms) ls ms = sealedH h ls ms :=
  seal_gen (fun h => bytesL h ls ms) (fun b => b[16]?.getD 0 * 256 + b[17]?.getD 0) (fun b => b[18]?.getD 0 * 256 + b[19]?.getD 0) h (bytes_same ls ms (h := { h with sum := _, long := _ }) (h' := h) (by simp only) (by simp only) (by simp only) (by simp only) (by simp only))
theorem seal_key (h : Hd) (ls : List Lnk) (ms : List Int) : keyH (sealedH h ls ms) = keyH h := by
  unfold keyH
  simp only [sealedH]
/-- a database as puts make it -/
structure DbOk (M : List Lsa) : Prop where
  right : ∀ x ∈ M, rightB x = true
  sealed : ∀ x ∈ M, sealedH x.head x.links x.members = x.head
  len : M.length ≤ 40
  nodup : (M.map keyX).Nodup
theorem DbOk.nil : DbOk [] := ⟨by simp, by simp, by simp, by simp⟩
theorem DbOk.ages {M : List Lsa} (h : DbOk M) : ages13 M := fun y hy => right_age (h.right y hy)
theorem setX_nodup {M : List Lsa} (h : (M.map keyX).Nodup) (y : Lsa) : ((setX y M).map keyX).Nodup := by
  rw [((setX_perm y h).map keyX).nodup_iff, List.map_cons, List.nodup_cons]
  refine ⟨fun hm => ?_, h.sublist (List.filter_sublist.map keyX)⟩
  obtain ⟨x, hx, e⟩ := List.mem_map.1 hm
  have := (List.mem_filter.1 hx).2
  simp [e] at this
theorem DbOk.set_ {M : List Lsa} (h : DbOk M) {y : Lsa} (hr : rightB y = true) (hs : sealedH y.head y.links y.members = y.head) (hl : (getX (keyX y) M).isSome = true ∨ (M.length : Int) ≠ 40) : DbOk (setX y M) where
  right := fun x hx => by
    rcases setX_mem hx with hx | rfl
    · exact h.right x hx
    · exact hr
  sealed := fun x hx => by
    rcases setX_mem hx with hx | rfl
    · exact h.sealed x hx
    · exact hs
  len := by
    rw [setX_len]
    have := h.len
    rcases hl with c | c
    · rw [if_pos c]; exact this
    · split <;> omega
  nodup := setX_nodup h.nodup y
theorem DbOk.put {B : Nat} {M M' : List Lsa} {x : Lsa} (h : DbOk M) (hp : PutM B M x M') : DbOk M' := by
  rcases hp with ⟨hok, Aa, ca, Ab, cb, -, -, rfl⟩ | ⟨-, rfl⟩
  · exact h.set_ hok.1 (seal_again _ _ _) hok.2
  · exact h
theorem getX_put {k : K3} {z : Lsa} : ∀ {T : List Lsa}, getX k (setX z T) = if keyX z = k then some z else getX k T
  | [] => by
    unfold setX getX
    by_cases h : keyX z = k
    · have h' : keyH z.head = k := h
      rw [if_pos h, if_pos h']
    · have h' : ¬ keyH z.head = k := h
      rw [if_neg h, if_neg h']
      rfl
  | x :: T => by
    unfold setX
    by_cases hx : keyH x.head = keyH z.head
    · rw [if_pos hx]
      unfold getX
      by_cases h : keyX z = k
      · have h' : keyH z.head = k := h
        rw [if_pos h, if_pos h']
      · have h' : ¬ keyH z.head = k := h
        have h2 : ¬ keyH x.head = k := by rw [hx]; exact h'
        rw [if_neg h, if_neg h', if_neg h2]
    · rw [if_neg hx]
      conv => lhs; unfold getX
      by_cases h2 : keyH x.head = k
      · have h3 : ¬ keyX z = k := fun e => hx (by rw [h2]; exact e.symm)
        rw [if_pos h2, if_neg h3]
        unfold getX
        rw [if_pos h2]
      · rw [if_neg h2, getX_put (T := T)]
        by_cases h3 : keyX z = k
        · rw [if_pos h3, if_pos h3]
        · rw [if_neg h3, if_neg h3]
          conv => rhs; unfold getX
          rw [if_neg h2]
theorem hasIt_self {T : List Lsa} {z : Lsa} {h : Hd} (e : z.head = h) : hasIt (setX z T) h = true := by
  have hk : keyX z = keyH h := by rw [← e]; rfl
  unfold hasIt
  rw [getX_put, if_pos hk]
  simp only [e, newer_self]
  decide
theorem hasIt_other {T : List Lsa} {z : Lsa} {h : Hd} (e : keyX z ≠ keyH h) : hasIt (setX z T) h = hasIt T h := by
  unfold hasIt
  rw [getX_put, if_neg e]
/-- heads of what isn't of the greatest age -/
def toldL (N : List Lsa) : List Hd := (N.filter fun x => decide (x.head.age < 60)).map fun x => x.head
theorem told_more {l : List Lsa} {k : Nat} (hk : k < l.length) : toldL (l.take (k + 1)) = toldL (l.take k) ++ if l[k].head.age < 60 then [l[k].head] else [] := by
  unfold toldL
  rw [List.take_succ_eq_append_getElem hk, List.filter_append, List.map_append]
  congr 1
  by_cases h : l[k].head.age < 60 <;> simp [h]
theorem told_len (l : List Lsa) : (toldL l).length ≤ l.length := by
  unfold toldL
  rw [List.length_map]
  exact List.length_filter_le _ _
theorem told_sorted {N : List Lsa} (h : sortedX N) : sortedH (toldL N) := by
  unfold toldL sortedH
  rw [List.pairwise_map]
  exact h.sublist List.filter_sublist
theorem told_mem {N F : List Lsa} (hp : (N.map vX).Perm (F.map vX)) (hn : (F.map keyX).Nodup) {r : Hd} (hr : r ∈ toldL N) : ∃ x ∈ F, x.head = r ∧ getX (keyH r) F = some x := by
  unfold toldL at hr
  obtain ⟨y, hy, rfl⟩ := List.mem_map.1 hr
  have hy2 : y ∈ N := (List.mem_filter.1 hy).1
  have hm : vX y ∈ F.map vX := hp.subset (List.mem_map_of_mem hy2)
  obtain ⟨x, hx, e⟩ := List.mem_map.1 hm
  have e1 : x.head = y.head := congrArg (fun v : VX => v.1) e
  refine ⟨x, hx, e1, ?_⟩
  rw [← e1]
  exact getX_of hn hx
theorem getH_no {k : K3} {L : List Hd} (h : k ∉ L.map keyH) : getH k L = none := by
  rw [getH_none]
  intro x hx e
  exact h (by rw [← e]; exact List.mem_map_of_mem hx)
theorem lack_filter (T : List Lsa) : ∀ (hs out : List Hd), ((out ++ hs).map keyH).Nodup → hs.foldl (lackStep T) out = out ++ hs.filter fun h => !hasIt T h
  | [], out, _ => by simp
  | h :: hs, out, hn => by
    rw [List.foldl_cons]
    by_cases hh : hasIt T h = true
    · rw [show lackStep T out h = out from if_pos hh, List.filter_cons_of_neg (by simp [hh])]
      exact lack_filter T hs out (hn.sublist (by rw [List.map_append, List.map_append, List.map_cons]; exact (List.sublist_cons_self _ _).append_left _))
    · rw [show lackStep T out h = putIt out h from if_neg hh, List.filter_cons_of_pos (by simp [hh])]
      have hk : keyH h ∉ out.map keyH := by
        rw [List.map_append, List.map_cons, List.nodup_append] at hn
        intro hm
        exact hn.2.2 _ hm _ (by simp) rfl
      have hp : putIt out h = out ++ [h] := by
        unfold putIt
        rw [getH_no hk]
      rw [hp, lack_filter T hs (out ++ [h]) (by simpa using hn)]
      simp
theorem lackAll_filter {T : List Lsa} {hs : List Hd} (h : sortedH hs) : lackAll T hs = hs.filter fun h => !hasIt T h := by
  have := lack_filter T hs [] (by simpa using h.keys)
  simpa [lackAll] using this
/-- what is still wanted: all others of the heads are there -/
structure LoadAt (T : List Lsa) (Hs R : List Hd) : Prop where
  ok : DbOk T
  sub : ∀ r ∈ R, r ∈ Hs
  had : ∀ h ∈ Hs, h ∉ R → hasIt T h = true
theorem LoadAt.start {T : List Lsa} {Hs : List Hd} (h : DbOk T) (hs : sortedH Hs) : LoadAt T Hs (lackAll T Hs) where
  ok := h
  sub := fun r hr => by rw [lackAll_filter hs] at hr; exact (List.mem_filter.1 hr).1
  had := fun x hx hn => by
    rw [lackAll_filter hs] at hn
    cases e : hasIt T x with
    | true => rfl
    | false => exact absurd (List.mem_filter.2 ⟨hx, by rw [e]; rfl⟩) hn
theorem LoadAt.put {T : List Lsa} {Hs R : List Hd} {r : Hd} {z : Lsa} (h : LoadAt T Hs (r :: R)) (hs : sortedH Hs) (hz : z.head = r) (hok : DbOk (setX z T)) : LoadAt (setX z T) Hs R where
  ok := hok
  sub := fun x hx => h.sub x (List.mem_cons_of_mem _ hx)
  had := fun x hx hn => by
    by_cases e : x = r
    · subst e; exact hasIt_self hz
    · have hk : keyX z ≠ keyH x := by
        intro g
        have g2 : keyH r = keyH x := by rw [← g, ← hz]; rfl
        have hr := h.sub r (by simp)
        have h1 := getH_of hs.keys hr
        have h2 := getH_of hs.keys hx
        rw [g2, h2] at h1
        injection h1 with h1
        exact e h1
      rw [hasIt_other hk]
      exact h.had x hx fun hm => by
        rcases List.mem_cons.1 hm with g | g
        · exact e g
        · exact hn g
theorem LoadAt.done {T : List Lsa} {Hs : List Hd} (h : LoadAt T Hs []) (hs : sortedH Hs) : lackAll T Hs = [] := by
  rw [lackAll_filter hs, List.filter_eq_nil_iff]
  intro x hx
  rw [h.had x hx (by simp)]
  decide
/-- an answer's part -/
structure AnsFor (r : Hd) (y : Lsa) : Prop where
  head : y.head = r
  right : rightB y = true
  sealed : sealedH y.head y.links y.members = y.head
theorem right_v {x y : Lsa} (h : vX x = vX y) : rightB x = rightB y := by
  have h1 : x.head = y.head := congrArg (fun v : VX => v.1) h
  have h2 : x.links = y.links := congrArg (fun v : VX => v.2.1) h
  have h3 : x.members = y.members := congrArg (fun v : VX => v.2.2) h
  unfold rightB
  rw [h1, h2, h3]

end Go.Proofs.YtpnbibokddhheaaGreat

/-
  Layer 13: a database, and the document's, of the same descriptions, as puts make them.
-/
namespace Go.Proofs.YtpnbibokddhheaaGreat
open Go.RowKit Go.Sort

/-- both, of whatever -/
def BothToK (w : World) (r : Ending) (w' : World) : Prop := ∃ p b q M v L, r = .returned (.tuple #[.pointer (some ⟨p, 0, none⟩), .pointer (some ⟨q, 0, none⟩)]) ∧ BK w w' p b q M v L ∧ DbOk M
set_option maxHeartbeats 8000000 in
set_option maxRecDepth 100000 in
theorem both13k_any (A : Option Addr) (cap : Nat) (l : List Lsa) (w : World) (hl : RowsAt 9 Lsa.cells w w.heap.size A l) (he : ∀ x ∈ l, RowsAt 4 Lnk.cells w w.heap.size x.ka x.links ∧ RowsAt 1 icell w w.heap.size x.ma x.members) (hlens : ∀ x ∈ l, x.links.length ≤ 20 ∧ x.members.length ≤ 20) (hm : l.length ≤ 60) (nn : Nat) (hnn : nn = l.length) :
    Calls Tryz.prog 12 #[.slice A nn cap] w fun r w' => BothToK w r w' := by
  subst hnn
  have HL := Lib.hid hl
  have HE := Lib.hid he
  have Hlens := Lib.hid hlens
  have hm' : (l.length : Int) ≤ 9223372036854775807 := by omega
  clear hl he hlens
  go_enter Tryz.func12, Tryz.ntmps12
  go_wp2_with fail
  with_reducible refine Calls.mono (DbNew 40 _) ?_
  rintro r w3 ⟨rfl, hd3, hb3⟩
  obtain ⟨p, hp⟩ : ∃ p, w.heap.size + 1 = p := ⟨_, rfl⟩
  obtain ⟨b, hb⟩ : ∃ b, w.heap.size = b := ⟨_, rfl⟩
  rw [show min (max (40 : Int) 1) 40 = 40 by decide, hp, hb] at hd3
  rw [hp]
  have Hd3 := Lib.hid hd3
  have Hb3 := Lib.hid hb3
  have hbw : w.heap.size ≤ b := by omega
  clear hb3 hd3 hp hb
  go_wp2_with fail
  with_reducible refine Calls.mono (RdNew40 _) ?_
  rintro r w4 ⟨rfl, hr4, hb4⟩
  obtain ⟨q, hq⟩ : ∃ q, w3.heap.size = q := ⟨_, rfl⟩
  have hpq : p < q := by rw [← hq]; exact Hd3.out.ptr.lt
  rw [hq] at hr4
  rw [hq]
  have HB0 := Lib.hid (show BK w w4 p b q [] (.slice none 0 0) [] from ⟨below_trans Hb3.out Hb3.out.size hb4, Hd3.out.keep hb4, hr4, DEq.nil, by simp, hbw, by rw [← hq]; exact Hb3.out.size, by omega, by intro x hx; cases hx⟩)
  clear hr4 hb4 hq hpq hbw
  go_wp2
  go_loopw [12] (fun i wr => ∃ (k : Nat) (M L : List Lsa) (v : Value), i = .int .i64 k ∧ k ≤ l.length ∧ BK w wr p b q M v L ∧ DbOk M) (fun i _ => l.length - (intOf i).toNat)
  case atStart => exact ⟨0, [], [], _, rfl, Nat.zero_le _, HB0.out, DbOk.nil⟩
  case round =>
    obtain ⟨k, M, L, v, rfl, hk, hbk, hag⟩ := hrel
    have Hag := Lib.hid hag
    have HBk := Lib.hid hbk
    clear HB0
    by_cases hlt : k < l.length
    · obtain ⟨g, o, hA, -, x0, x1, x2, x3, x4, x5, x6, x7, x8⟩ := row_lsa9 (HL.out.below hbk.bel) k hlt
      have hok := HE.out l[k] (List.getElem_mem hlt)
      have hln := Hlens.out l[k] (List.getElem_mem hlt)
      have hkl : (k : Int) < (l.length : Int) := by omega
      have HA := Lib.hid hA
      rw [hA]
      have Hlt := Lib.hid hlt
      generalize l[k] = x at *
      obtain ⟨⟨y1, y2, y3, y4, y5, y6, y7⟩, ka, kc, ls, ma, mc, ms⟩ := x
      have hls := hok.1
      have hms := hok.2
      simp only at x0 x1 x2 x3 x4 x5 x6 x7 x8 hln hls hms
      obtain ⟨nl, hnl⟩ : ∃ nl, nl = ls.length := ⟨_, rfl⟩
      obtain ⟨nm, hnm⟩ : ∃ nm, nm = ms.length := ⟨_, rfl⟩
      rw [← hnl] at x7
      rw [← hnm] at x8
      obtain ⟨w8, hw8⟩ : ∃ w8, wr.alloc (.cells #[.int .i64 y1, .int .i64 y2, .int .i64 y3, .int .i64 y4, .int .i64 y5, .int .i64 y6, .int .i64 y7, .slice ka nl kc, .slice ma nm mc] 31) = w8 := ⟨_, rfl⟩
      have hb8 := below_new wr (.cells #[.int .i64 y1, .int .i64 y2, .int .i64 y3, .int .i64 y4, .int .i64 y5, .int .i64 y6, .int .i64 y7, .slice ka nl kc, .slice ma nm mc] 31)
      have hk8 := Blk.new wr 31 #[.int .i64 y1, .int .i64 y2, .int .i64 y3, .int .i64 y4, .int .i64 y5, .int .i64 y6, .int .i64 y7, .slice ka nl kc, .slice ma nm mc]
      rw [hw8] at hb8 hk8
      have hb8k := hbk.keep hb8
      have HB8 := Lib.hid hb8k
      have hl8 := hls.below hb8k.bel
      have hm8 := hms.below hb8k.bel
      have HP := Lib.hid (dbPut_any p b M y1 y2 y3 y4 y5 y6 y7 ka kc ls ma mc ms w8 hb8k.db (hl8.more hb8k.bel.size) (hm8.more hb8k.bel.size) (by omega) (by omega) nl nm hnl hnm)
      have HR := Lib.hid (fun W (hR : RdAt W q 40 v L) (hW : Below w.heap.size w W) => rdPut_any q v L y1 y2 y3 y4 y5 y6 y7 ka kc ls ma mc ms W hR w.heap.size hb8k.lq (hls.below hW) (hms.below hW) (by omega) (by omega) nl nm hnl hnm (by have := hb8k.eq.len; have := hb8k.le; omega) hb8k.eq.sorted)
      have Hk8 := Lib.hid hk8
      have hgx : ¬ wr.heap.size = b := by have := blk_nemap4 hk8 hb8k.db.map; exact this
      have hgx := Lib.hid hgx
      obtain ⟨z0, z1, z2, z3, z4, z5, z6, z7, z8, zf⟩ := blk9 hk8
      clear hls hms hln hok hnl hnm hA hlt hbk hk hb8 hk8 hb8k hl8 hm8 hag
      go_wp2_with fail
      with_reducible refine Calls.mono HP.out ?_
      rintro r w9 ⟨hr9, ⟨M', hP9, hd9⟩, hg9⟩
      obtain ⟨e9, rfl⟩ := hr9
      obtain ⟨hrd9, hnext⟩ := HB8.out.put hP9 hd9 hg9
      have HP9 := Lib.hid hP9
      have hk9 := Hk8.out.grown hg9 (fun e => hgx.out (by injection e))
      have hb9 : Below w.heap.size w w9 := HB8.out.bel.grown hg9 HB8.out.bel.size (fun k e => by injection e with e; subst e; exact HB8.out.lb)
      have HR9 := Lib.hid (HR.out w9 hrd9 hb9)
      have Hnext := Lib.hid hnext
      clear hP9 hd9 hg9 hrd9 hnext hb9 z0 z1 z2 z3 z4 z5 z6 z7 z8 zf
      obtain ⟨z0, z1, z2, z3, z4, z5, z6, z7, z8, zf⟩ := blk9 hk9
      clear hk9
      go_wp2_with fail
      with_reducible refine Calls.mono HR9.out ?_
      rintro r w10 ⟨hr10, ⟨L', v', hP10, hd10⟩, hg10⟩
      obtain ⟨e10, rfl⟩ := hr10
      have HB10 := Lib.hid (Hnext.out w10 v' L' hP10 hd10 hg10)
      have Hag10 := Lib.hid (DbOk.put Hag.out HP9.out)
      clear hP10 hd10 hg10 z0 z1 z2 z3 z4 z5 z6 z7 z8 zf
      go_wp2
      go_roundw
      case measure => have := Hlt.out; simp [intOf]; omega
      case rel => exact ⟨k + 1, M', L', v', by go_num, Hlt.out, HB10.out, Hag10.out⟩
    · have hkl : ¬ (k : Int) < (l.length : Int) := by omega
      clear hlt hbk hk hag
      go_wp2
      refine bodyPost_ret (v := .tuple #[.pointer (some ⟨p, 0, none⟩), .pointer (some ⟨q, 0, none⟩)]) (by simp [results, Tryz.results12, go_sem]) rfl ?_
      exact ⟨p, b, q, M, v, L, rfl, HBk.out, Hag.out⟩

end Go.Proofs.YtpnbibokddhheaaGreat

/-
  Two databases beside one another, in memory.
-/
namespace Go.Proofs.YtpnbibokddhheaaGreat
open Go.RowKit Go.Sort

section
variable {κ : Type} {enc : κ → Value} {S : List (κ × Value)} {w W W' : World} {b2 : Nat}
theorem DbAt.other {p b : Nat} {room : Int} {M : List Lsa} (h : DbAt W p b room M) (hm : MapAt enc W b2 S) (hne : b ≠ b2) (hg : W.grownBy W' (some b2)) : DbAt W' p b room M where
  ptr := h.ptr.grown hg (fun e => by injection e with e; exact blk_nemap4 h.ptr hm e)
  map := h.map.grown hg (fun e => by injection e with e; exact hne e)
  rows := fun x hx => ⟨rows_map (fun _ => rfl) (by decide) (h.rows x hx).1 hm hg, rows_map (fun _ => rfl) (by decide) (h.rows x hx).2 hm hg⟩
  lens := h.lens
theorem OwnR.other {α : Type} {e : TypeId} {C : Nat} {cells : α → List Value} {B : Nat} {v : Value} {L : List α} (h : OwnR e C cells W B v L) (hm : MapAt enc W b2 S) (hg : W.grownBy W' (some b2)) : OwnR e C cells W' B v L :=
  h.kept hg (.inr (own_nemap h hm))
theorem XsAt.other {B : Nat} {v : Value} {L : List Lsa} (h : XsAt W B v L) (hm : MapAt enc W b2 S) (hg : W.grownBy W' (some b2)) : XsAt W' B v L where
  own := h.own.other hm hg
  rows := fun x hx => ⟨rows_map (fun _ => rfl) (by decide) (h.rows x hx).1 hm hg, rows_map (fun _ => rfl) (by decide) (h.rows x hx).2 hm hg⟩
  far := h.far
  from_ := h.from_
  lens := h.lens
end
/-- two databases beside one another -/
structure TwoDb (w W : World) (p1 b1 p2 b2 : Nat) (F T : List Lsa) : Prop where
  bel : Below w.heap.size w W
  fr : DbAt W p1 b1 40 F
  dt : DbAt W p2 b2 40 T
  ne : b1 ≠ b2
  l1 : w.heap.size ≤ b1
  l2 : w.heap.size ≤ b2
  okF : DbOk F
  okT : DbOk T
section
variable {w W W' : World} {p1 b1 p2 b2 : Nat} {F T F' T' : List Lsa} {x : Lsa}
theorem TwoDb.keep (h : TwoDb w W p1 b1 p2 b2 F T) (hb : Below W.heap.size W W') : TwoDb w W' p1 b1 p2 b2 F T :=
  ⟨below_trans h.bel h.bel.size hb, h.fr.keep hb, h.dt.keep hb, h.ne, h.l1, h.l2, h.okF, h.okT⟩
theorem TwoDb.put1 (h : TwoDb w W p1 b1 p2 b2 F T) (hd : DbAt W' p1 b1 40 F') (hok : DbOk F') (hg : W.grownBy W' (some b1)) : TwoDb w W' p1 b1 p2 b2 F' T :=
  ⟨h.bel.grown hg h.bel.size (fun k e => by injection e with e; subst e; exact h.l1), hd, h.dt.other h.fr.map (fun e => h.ne e.symm) hg, h.ne, h.l1, h.l2, hok, h.okT⟩
theorem TwoDb.put2 (h : TwoDb w W p1 b1 p2 b2 F T) (hd : DbAt W' p2 b2 40 T') (hok : DbOk T') (hg : W.grownBy W' (some b2)) : TwoDb w W' p1 b1 p2 b2 F T' :=
  ⟨h.bel.grown hg h.bel.size (fun k e => by injection e with e; subst e; exact h.l2), h.fr.other h.dt.map h.ne hg, hd, h.ne, h.l1, h.l2, h.okF, hok⟩
theorem TwoDb.third {κ : Type} {enc : κ → Value} {S : List (κ × Value)} {b3 : Nat} (h : TwoDb w W p1 b1 p2 b2 F T) (hm : MapAt enc W b3 S) (h1 : b1 ≠ b3) (h2 : b2 ≠ b3) (h3 : w.heap.size ≤ b3) (hg : W.grownBy W' (some b3)) : TwoDb w W' p1 b1 p2 b2 F T :=
  ⟨h.bel.grown hg h.bel.size (fun k e => by injection e with e; subst e; exact h3), h.fr.other hm h1 hg, h.dt.other hm h2 hg, h.ne, h.l1, h.l2, h.okF, h.okT⟩
end

end Go.Proofs.YtpnbibokddhheaaGreat

/-
  A row of heads: a cell, or a head, of it set.
-/
namespace Go.Proofs.YtpnbibokddhheaaGreat
open Go.RowKit

theorem set_flatH13 (l : List Hd) (k : Nat) (c : Hd) (hk : k < l.length) :
    (l.set k c).flatMap Hd.cells = (((((((l.flatMap Hd.cells).set (k * 7) (.int .i64 c.age)).set (k * 7 + 1) (.int .i64 c.kind)).set (k * 7 + 2) (.int .i64 c.id)).set (k * 7 + 3) (.int .i64 c.adv)).set (k * 7 + 4) (.int .i64 c.seq)).set (k * 7 + 5) (.int .i64 c.sum)).set (k * 7 + 6) (.int .i64 c.long) := by
  induction l generalizing k with
  | nil => simp at hk
  | cons d l ih =>
    cases k with
    | zero => simp [Hd.cells]
    | succ k =>
      have h := ih k (by simpa using hk)
      simp only [List.set_cons_succ, List.flatMap_cons, h]
      have h4 : d.cells.length = 7 := rfl
      rw [List.set_append_right _ _ (by omega), List.set_append_right _ _ (by omega), List.set_append_right _ _ (by omega), List.set_append_right _ _ (by omega), List.set_append_right _ _ (by omega), List.set_append_right _ _ (by omega), List.set_append_right _ _ (by omega)]
      simp only [h4, show (k + 1) * 7 - 7 = k * 7 by omega, show (k + 1) * 7 + 1 - 7 = k * 7 + 1 by omega, show (k + 1) * 7 + 2 - 7 = k * 7 + 2 by omega, show (k + 1) * 7 + 3 - 7 = k * 7 + 3 by omega, show (k + 1) * 7 + 4 - 7 = k * 7 + 4 by omega, show (k + 1) * 7 + 5 - 7 = k * 7 + 5 by omega, show (k + 1) * 7 + 6 - 7 = k * 7 + 6 by omega]
section
variable {w : World} {B g cap n : Nat} {l : List Hd}
theorem OwnH13.set7 (h : OwnR 27 7 Hd.cells w B (.slice (some ⟨g, 0, none⟩) n cap) l) (hn : n = l.length) (k : Nat) (hk : k < l.length) (c : Hd) :
    OwnR 27 7 Hd.cells (((((((w.setCell ⟨g, k * 7, none⟩ (.int .i64 c.age)).setCell ⟨g, k * 7 + 1, none⟩ (.int .i64 c.kind)).setCell ⟨g, k * 7 + 2, none⟩ (.int .i64 c.id)).setCell ⟨g, k * 7 + 3, none⟩ (.int .i64 c.adv)).setCell ⟨g, k * 7 + 4, none⟩ (.int .i64 c.seq)).setCell ⟨g, k * 7 + 5, none⟩ (.int .i64 c.sum)).setCell ⟨g, k * 7 + 6, none⟩ (.int .i64 c.long)) B (.slice (some ⟨g, 0, none⟩) n cap) (l.set k c) := by
  subst hn
  unfold OwnR
  rw [set_flatH13 l k c hk, List.length_set]
  exact (((((((World.ownsRow.stored h (k * 7) (.int .i64 c.age)).1.stored (k * 7 + 1) (.int .i64 c.kind)).1.stored (k * 7 + 2) (.int .i64 c.id)).1.stored (k * 7 + 3) (.int .i64 c.adv)).1.stored (k * 7 + 4) (.int .i64 c.seq)).1.stored (k * 7 + 5) (.int .i64 c.sum)).1.stored (k * 7 + 6) (.int .i64 c.long)).1

end
section
variable {w w' : World} {B g cap n : Nat} {l : List Hd} {v0 : Value}
theorem OwnH13.frozen (h : OwnR 27 7 Hd.cells w B (.slice (some ⟨g, 0, none⟩) n cap) l) (i : Nat) : w.frozen? ⟨g, i, none⟩ = false := by
  rcases h.2 with ⟨hv, -⟩ | ⟨g', cap', cur, hv, -, hb, -⟩
  · cases hv
  · simp only [Value.slice.injEq, Option.some.injEq, Addr.mk.injEq, and_true] at hv
    obtain ⟨rfl, -, -⟩ := hv
    simp [World.frozen?, hb]
theorem grown7 (w : World) (g o : Nat) (a b c d e f x : Value) : w.grownBy (((((((w.setCell ⟨g, o, none⟩ a).setCell ⟨g, o + 1, none⟩ b).setCell ⟨g, o + 2, none⟩ c).setCell ⟨g, o + 3, none⟩ d).setCell ⟨g, o + 4, none⟩ e).setCell ⟨g, o + 5, none⟩ f).setCell ⟨g, o + 6, none⟩ x) (some g) :=
  (((((((World.grownBy.refl w (some g)).set rfl _).set rfl _).set rfl _).set rfl _).set rfl _).set rfl _).set rfl _
theorem below_set7k (h : Below B w w') (hg : B ≤ g) (o : Nat) (a b c d e f x : Value) : Below B w (((((((w'.setCell ⟨g, o, none⟩ a).setCell ⟨g, o + 1, none⟩ b).setCell ⟨g, o + 2, none⟩ c).setCell ⟨g, o + 3, none⟩ d).setCell ⟨g, o + 4, none⟩ e).setCell ⟨g, o + 5, none⟩ f).setCell ⟨g, o + 6, none⟩ x) :=
  ((((((h.setCell hg _).setCell hg _).setCell hg _).setCell hg _).setCell hg _).setCell hg _).setCell hg _
theorem row_own7 (h : OwnR 27 7 Hd.cells w B v0 l) (k : Nat) (hk : k < l.length) : ∃ g c, v0 = .slice (some ⟨g, 0, none⟩) l.length c ∧ w.cell? ⟨g, k * 7, none⟩ = some (.int .i64 l[k].age) ∧ w.cell? ⟨g, k * 7 + 1, none⟩ = some (.int .i64 l[k].kind) ∧ w.cell? ⟨g, k * 7 + 2, none⟩ = some (.int .i64 l[k].id) ∧ w.cell? ⟨g, k * 7 + 3, none⟩ = some (.int .i64 l[k].adv) ∧ w.cell? ⟨g, k * 7 + 4, none⟩ = some (.int .i64 l[k].seq) ∧ w.cell? ⟨g, k * 7 + 5, none⟩ = some (.int .i64 l[k].sum) ∧ w.cell? ⟨g, k * 7 + 6, none⟩ = some (.int .i64 l[k].long) := by
  rcases h.shape2 with ⟨-, hn⟩ | ⟨g, c, rfl, hc⟩
  · subst hn; simp at hk
  · obtain ⟨b, o, e, -, hcl⟩ := (OwnR.rows (C := 7) (cells := Hd.cells) (fun _ => rfl) h).2 (by omega)
    injection e with e
    injection e with e1 e2
    subst e1 e2
    have z := fun i u hi hu => hcl k hk i u hi hu
    simp only [Nat.zero_add] at z
    exact ⟨g, c, rfl, by simpa using z 0 _ (by omega) rfl, z 1 _ (by omega) rfl, z 2 _ (by omega) rfl, z 3 _ (by omega) rfl, z 4 _ (by omega) rfl, z 5 _ (by omega) rfl, z 6 _ (by omega) rfl⟩
theorem row_hd7 {A : Option Addr} (h : RowsAt 7 Hd.cells w B A l) (k : Nat) (hk : k < l.length) : ∃ b o, A = some ⟨b, o, none⟩ ∧ b < B ∧ w.cell? ⟨b, o + k * 7, none⟩ = some (.int .i64 l[k].age) ∧ w.cell? ⟨b, o + k * 7 + 1, none⟩ = some (.int .i64 l[k].kind) ∧ w.cell? ⟨b, o + k * 7 + 2, none⟩ = some (.int .i64 l[k].id) ∧ w.cell? ⟨b, o + k * 7 + 3, none⟩ = some (.int .i64 l[k].adv) ∧ w.cell? ⟨b, o + k * 7 + 4, none⟩ = some (.int .i64 l[k].seq) ∧ w.cell? ⟨b, o + k * 7 + 5, none⟩ = some (.int .i64 l[k].sum) ∧ w.cell? ⟨b, o + k * 7 + 6, none⟩ = some (.int .i64 l[k].long) := by
  obtain ⟨b, o, e, hb, hc⟩ := h (by omega)
  exact ⟨b, o, e, hb, by simpa using hc k hk 0 _ (by omega) rfl, hc k hk 1 _ (by omega) rfl, hc k hk 2 _ (by omega) rfl, hc k hk 3 _ (by omega) rfl, hc k hk 4 _ (by omega) rfl, hc k hk 5 _ (by omega) rfl, hc k hk 6 _ (by omega) rfl⟩
end

end Go.Proofs.YtpnbibokddhheaaGreat

/-
  Stable sorting in plain words: neighbors that change places, blocks that are merged.
-/
namespace Go.Proofs.YtpnbibokddhheaaGreat
open Go.Sort

section
variable {α : Type} {lt : α → α → Bool}
/-- neither is less -/
def eqvB (lt : α → α → Bool) (x y : α) : Bool := !lt x y && !lt y x
def SrtL (lt : α → α → Bool) (L : List α) : Prop := L.Pairwise fun x y => lt y x = false
/-- of each class the same, in the same order -/
def SameC (lt : α → α → Bool) (L M : List α) : Prop := ∀ x, L.filter (eqvB lt x) = M.filter (eqvB lt x)
/-- the second row is the first one, sorted stably -/
structure Stb (lt : α → α → Bool) (L M : List α) : Prop where
  srt : SrtL lt M
  cls : SameC lt L M
  prm : L.Perm M
theorem SameC.rfl' {L : List α} : SameC lt L L := fun _ => rfl
theorem SameC.trans {L M N : List α} (h : SameC lt L M) (g : SameC lt M N) : SameC lt L N := fun x => (h x).trans (g x)
theorem SameC.app {L M L' M' : List α} (h : SameC lt L M) (g : SameC lt L' M') : SameC lt (L ++ L') (M ++ M') := fun x => by rw [List.filter_append, List.filter_append, h x, g x]
theorem SameC.swap (hw : SWO lt) {U V : List α} (h : ∀ x ∈ U, ∀ y ∈ V, lt y x = true) : SameC lt (U ++ V) (V ++ U) := fun c => by
  rw [List.filter_append, List.filter_append]
  by_cases hu : U.filter (eqvB lt c) = []
  · rw [hu]; simp
  · have hv : V.filter (eqvB lt c) = [] := by
      rw [List.filter_eq_nil_iff]
      intro y hy hc
      obtain ⟨x, hx⟩ := List.exists_mem_of_ne_nil _ hu
      rw [List.mem_filter] at hx
      unfold eqvB at hx hc
      simp only [Bool.and_eq_true, Bool.not_eq_true'] at hx hc
      have := hw.ntrans _ _ _ hc.2 hx.2.1
      rw [h x hx.1 y hy] at this
      cases this
    rw [hv]; simp
theorem eqvB_self (hw : SWO lt) (x : α) : eqvB lt x x = true := by unfold eqvB; rw [hw.irrefl]; rfl
theorem SameC.mem (hw : SWO lt) {L M : List α} (h : SameC lt L M) {x : α} (hx : x ∈ L) : x ∈ M := by
  have : x ∈ L.filter (eqvB lt x) := List.mem_filter.2 ⟨hx, eqvB_self hw x⟩
  rw [h x] at this
  exact (List.mem_filter.1 this).1
theorem srt_unique (hw : SWO lt) : ∀ {M N : List α}, SrtL lt M → SrtL lt N → SameC lt M N → M = N
  | [], [], _, _, _ => rfl
  | [], y :: N, _, _, h => by have := SameC.mem hw (fun x => (h x).symm) (List.mem_cons_self (a := y) (l := N)); cases this
  | x :: M, [], _, _, h => by have := SameC.mem hw h (List.mem_cons_self (a := x) (l := M)); cases this
  | x :: M, y :: N, h1, h2, h => by
    obtain ⟨a1, a2⟩ := List.pairwise_cons.1 h1
    obtain ⟨b1, b2⟩ := List.pairwise_cons.1 h2
    have g1 : lt x y = false := by
      rcases List.mem_cons.1 (SameC.mem hw h (List.mem_cons_self (a := x) (l := M))) with e | e
      · rw [e]; exact hw.irrefl _
      · exact b1 _ e
    have g2 : lt y x = false := by
      rcases List.mem_cons.1 (SameC.mem hw (fun x => (h x).symm) (List.mem_cons_self (a := y) (l := N))) with e | e
      · rw [e]; exact hw.irrefl _
      · exact a1 _ e
    have hxy : eqvB lt x y = true := by unfold eqvB; rw [g1, g2]; rfl
    have e := h x
    rw [List.filter_cons_of_pos (eqvB_self hw x), List.filter_cons_of_pos hxy] at e
    injection e with e1 e2
    subst e1
    have ht : SameC lt M N := fun c => by
      have e := h c
      cases hc : eqvB lt c x with
      | true => rw [List.filter_cons_of_pos hc, List.filter_cons_of_pos hc] at e; injection e
      | false => rw [List.filter_cons_of_neg (by rw [hc]; decide), List.filter_cons_of_neg (by rw [hc]; decide)] at e; exact e
    rw [srt_unique hw a2 b2 ht]
theorem Stb.unique (hw : SWO lt) {L M N : List α} (h : Stb lt L M) (g : Stb lt L N) : M = N := srt_unique hw h.srt g.srt fun x => (h.cls x).symm.trans (g.cls x)
theorem Stb.refl {L : List α} (h : SrtL lt L) : Stb lt L L := ⟨h, SameC.rfl', List.Perm.refl _⟩
theorem Stb.from_ {L M N : List α} (h : Stb lt M N) (hc : SameC lt L M) (hp : L.Perm M) : Stb lt L N := ⟨h.srt, hc.trans h.cls, hp.trans h.prm⟩
theorem srt_app {L M : List α} (h1 : SrtL lt L) (h2 : SrtL lt M) (h : ∀ x ∈ L, ∀ y ∈ M, lt y x = false) : SrtL lt (L ++ M) := List.pairwise_append.2 ⟨h1, h2, h⟩
theorem SrtL.left {L M : List α} (h : SrtL lt (L ++ M)) : SrtL lt L := (List.pairwise_append.1 h).1
theorem SrtL.right {L M : List α} (h : SrtL lt (L ++ M)) : SrtL lt M := (List.pairwise_append.1 h).2.1
theorem SrtL.cross {L M : List α} (h : SrtL lt (L ++ M)) : ∀ x ∈ L, ∀ y ∈ M, lt y x = false := (List.pairwise_append.1 h).2.2
theorem srt_nil : SrtL lt [] := List.Pairwise.nil
theorem srt_one {x : α} : SrtL lt [x] := List.pairwise_singleton _ _
/-- two sorted rows, cut in two each, merged part by part -/
theorem merge_cut (hw : SWO lt) {X1 X2 Y1 Y2 Z1 Z2 : List α} (hx : SrtL lt (X1 ++ X2)) (hy : SrtL lt (Y1 ++ Y2)) (h1 : ∀ x ∈ X2, ∀ y ∈ Y1, lt y x = true) (h2 : ∀ x ∈ X1, ∀ y ∈ Y2, lt y x = false)
    (g1 : Stb lt (X1 ++ Y1) Z1) (g2 : Stb lt (X2 ++ Y2) Z2) : Stb lt ((X1 ++ X2) ++ (Y1 ++ Y2)) (Z1 ++ Z2) where
  srt := by
    refine srt_app g1.srt g2.srt fun x hx' y hy' => ?_
    rw [← g1.prm.mem_iff, List.mem_append] at hx'
    rw [← g2.prm.mem_iff, List.mem_append] at hy'
    rcases hx' with hx' | hx' <;> rcases hy' with hy' | hy'
    · exact hx.cross x hx' y hy'
    · exact h2 x hx' y hy'
    · have := h1 y hy' x hx'
      cases e : lt y x with
      | false => rfl
      | true => have g := hw.trans _ _ _ this e; rw [hw.irrefl] at g; cases g
    · exact hy.cross x hx' y hy'
  cls := by
    have h : SameC lt ((X1 ++ X2) ++ (Y1 ++ Y2)) ((X1 ++ Y1) ++ (X2 ++ Y2)) := by
      have e := SameC.app (SameC.rfl' (lt := lt) (L := X1)) (SameC.app (SameC.swap hw h1) (SameC.rfl' (L := Y2)))
      simpa only [List.append_assoc] using e
    exact h.trans (g1.cls.app g2.cls)
  prm := by
    have h : ((X1 ++ X2) ++ (Y1 ++ Y2)).Perm ((X1 ++ Y1) ++ (X2 ++ Y2)) := by
      have e := ((List.perm_append_comm (l₁ := X2) (l₂ := Y1)).append_right Y2).append_left X1
      simpa only [List.append_assoc] using e
    exact h.trans (g1.prm.append g2.prm)
/-- one more behind what is sorted, brought to its place -/
theorem stb_ins (hw : SWO lt) {X Z1 Z2 : List α} {x : α} (h : Stb lt X (Z1 ++ Z2)) (h1 : ∀ z ∈ Z2, lt x z = true) (h2 : Z1 = [] ∨ ∃ Z z, Z1 = Z ++ [z] ∧ lt x z = false) : Stb lt (X ++ [x]) (Z1 ++ [x] ++ Z2) where
  srt := by
    have hz : ∀ z ∈ Z1, lt x z = false := by
      rcases h2 with rfl | ⟨Z, z, rfl, hz⟩
      · simp
      · intro u hu
        rw [List.mem_append, List.mem_singleton] at hu
        rcases hu with hu | rfl
        · exact hw.ntrans _ _ _ hz (h.srt.left.cross u hu z (by simp))
        · exact hz
    refine srt_app (srt_app h.srt.left srt_one fun u hu y hy => by rw [List.mem_singleton] at hy; subst hy; exact hz u hu) h.srt.right fun u hu y hy => ?_
    rw [List.mem_append, List.mem_singleton] at hu
    rcases hu with hu | rfl
    · exact h.srt.cross u hu y hy
    · have := h1 y hy
      cases e : lt y u with
      | false => rfl
      | true => have g := hw.trans _ _ _ this e; rw [hw.irrefl] at g; cases g
  cls := by
    have e := (h.cls.app (SameC.rfl' (L := [x])))
    refine e.trans ?_
    have e2 := SameC.app (SameC.rfl' (lt := lt) (L := Z1)) (SameC.swap hw (U := Z2) (V := [x]) (fun z hz y hy => by rw [List.mem_singleton] at hy; subst hy; exact h1 z hz))
    simpa only [List.append_assoc] using e2
  prm := by
    refine (h.prm.append_right [x]).trans ?_
    have e := (List.perm_append_comm (l₁ := Z2) (l₂ := [x])).append_left Z1
    simpa only [List.append_assoc] using e
theorem cut_at (L : List α) (k : Nat) (hk : k ≤ L.length) : ∃ A B, L = A ++ B ∧ A.length = k := ⟨L.take k, L.drop k, (List.take_append_drop k L).symm, by rw [List.length_take]; omega⟩
/-- what a search finds: where both rows are cut -/
theorem search_cut (hw : SWO lt) {P X Y S : List α} {st en : Nat} (hx : SrtL lt X) (hy : SrtL lt Y) (h1 : P.length ≤ st) (h2 : st ≤ P.length + X.length) (h3 : P.length + X.length ≤ en) (h4 : en ≤ P.length + X.length + Y.length)
    (lo : st = P.length ∨ en = P.length + X.length + Y.length ∨ ∃ x y, (P ++ X ++ Y ++ S)[st - 1]? = some x ∧ (P ++ X ++ Y ++ S)[en]? = some y ∧ lt y x = false)
    (hi : st = P.length + X.length ∨ en = P.length + X.length ∨ ∃ x y, (P ++ X ++ Y ++ S)[st]? = some x ∧ (P ++ X ++ Y ++ S)[en - 1]? = some y ∧ lt y x = true) :
    ∃ X1 X2 Y1 Y2, X = X1 ++ X2 ∧ Y = Y1 ++ Y2 ∧ X1.length = st - P.length ∧ Y1.length = en - (P.length + X.length) ∧ (∀ x ∈ X2, ∀ y ∈ Y1, lt y x = true) ∧ (∀ x ∈ X1, ∀ y ∈ Y2, lt y x = false) := by
  obtain ⟨X1, X2, rfl, hX1⟩ := cut_at X (st - P.length) (by omega)
  obtain ⟨Y1, Y2, rfl, hY1⟩ := cut_at Y (en - (P.length + (X1 ++ X2).length)) (by omega)
  rw [List.length_append] at h2 h3 h4 hY1 lo hi
  refine ⟨X1, X2, Y1, Y2, rfl, rfl, hX1, by rw [List.length_append]; exact hY1, ?_, ?_⟩
  · intro u hu v hv
    rcases hi with e | e | ⟨x, y, ex, ey, hl⟩
    · have : X2 = [] := List.eq_nil_of_length_eq_zero (by omega)
      rw [this] at hu; cases hu
    · have : Y1 = [] := List.eq_nil_of_length_eq_zero (by omega)
      rw [this] at hv; cases hv
    · obtain ⟨x', X2', rfl⟩ := List.exists_cons_of_ne_nil (List.ne_nil_of_mem hu)
      obtain ⟨Y1', y', rfl⟩ : ∃ Y y, Y1 = Y ++ [y] := ⟨Y1.dropLast, Y1.getLast (List.ne_nil_of_mem hv), (List.dropLast_concat_getLast _).symm⟩
      have e1 : (P ++ (X1 ++ x' :: X2') ++ (Y1' ++ [y'] ++ Y2) ++ S)[st]? = some x' := by
        have : P ++ (X1 ++ x' :: X2') ++ (Y1' ++ [y'] ++ Y2) ++ S = (P ++ X1) ++ x' :: (X2' ++ (Y1' ++ [y'] ++ Y2) ++ S) := by simp
        rw [this, List.getElem?_append_right (by rw [List.length_append]; omega), List.length_append, show st - (P.length + X1.length) = 0 by omega]
        rfl
      have e2 : (P ++ (X1 ++ x' :: X2') ++ (Y1' ++ [y'] ++ Y2) ++ S)[en - 1]? = some y' := by
        have : P ++ (X1 ++ x' :: X2') ++ (Y1' ++ [y'] ++ Y2) ++ S = (P ++ (X1 ++ x' :: X2') ++ Y1') ++ y' :: (Y2 ++ S) := by simp
        rw [List.length_append, List.length_singleton] at hY1
        rw [this, List.getElem?_append_right (by rw [List.length_append, List.length_append, List.length_append]; omega)]
        simp only [List.length_append] at hY1 h3 ⊢
        rw [show en - 1 - (P.length + (X1.length + (x' :: X2').length) + Y1'.length) = 0 by omega]
        rfl
      rw [e1] at ex; rw [e2] at ey
      cases ex; cases ey
      have g1 : lt u x = false := by
        rcases List.mem_cons.1 hu with rfl | hu
        · exact hw.irrefl _
        · exact (List.pairwise_cons.1 hx.right).1 u hu
      have g2 : lt y v = false := by
        rw [List.mem_append, List.mem_singleton] at hv
        rcases hv with hv | rfl
        · exact hy.left.cross v hv y (by simp)
        · exact hw.irrefl _
      cases e : lt v u with
      | true => rfl
      | false =>
        have := hw.ntrans _ _ _ (hw.ntrans _ _ _ g2 e) g1
        rw [hl] at this
        cases this
  · intro u hu v hv
    rcases lo with e | e | ⟨x, y, ex, ey, hl⟩
    · have : X1 = [] := List.eq_nil_of_length_eq_zero (by omega)
      rw [this] at hu; cases hu
    · have : Y2 = [] := List.eq_nil_of_length_eq_zero (by rw [List.length_append] at e; omega)
      rw [this] at hv; cases hv
    · obtain ⟨X1', x', rfl⟩ : ∃ Y y, X1 = Y ++ [y] := ⟨X1.dropLast, X1.getLast (List.ne_nil_of_mem hu), (List.dropLast_concat_getLast _).symm⟩
      obtain ⟨y', Y2', rfl⟩ := List.exists_cons_of_ne_nil (List.ne_nil_of_mem hv)
      have e1 : (P ++ (X1' ++ [x'] ++ X2) ++ (Y1 ++ y' :: Y2') ++ S)[st - 1]? = some x' := by
        have : P ++ (X1' ++ [x'] ++ X2) ++ (Y1 ++ y' :: Y2') ++ S = (P ++ X1') ++ x' :: (X2 ++ (Y1 ++ y' :: Y2') ++ S) := by simp
        rw [List.length_append, List.length_singleton] at hX1
        rw [this, List.getElem?_append_right (by rw [List.length_append]; omega), List.length_append, show st - 1 - (P.length + X1'.length) = 0 by omega]
        rfl
      have e2 : (P ++ (X1' ++ [x'] ++ X2) ++ (Y1 ++ y' :: Y2') ++ S)[en]? = some y' := by
        have : P ++ (X1' ++ [x'] ++ X2) ++ (Y1 ++ y' :: Y2') ++ S = (P ++ (X1' ++ [x'] ++ X2) ++ Y1) ++ y' :: (Y2' ++ S) := by simp
        rw [this, List.getElem?_append_right (by simp only [List.length_append] at hY1 h3 ⊢; omega)]
        simp only [List.length_append] at hY1 h3 ⊢
        rw [show en - (P.length + (X1'.length + [x'].length + X2.length) + Y1.length) = 0 by omega]
        rfl
      rw [e1] at ex; rw [e2] at ey
      cases ex; cases ey
      have g1 : lt x u = false := by
        rw [List.mem_append, List.mem_singleton] at hu
        rcases hu with hu | rfl
        · exact hx.left.cross u hu x (by simp)
        · exact hw.irrefl _
      have g2 : lt v y = false := by
        rcases List.mem_cons.1 hv with rfl | hv
        · exact hw.irrefl _
        · exact (List.pairwise_cons.1 hy.right).1 v hv
      exact hw.ntrans _ _ _ (hw.ntrans _ _ _ g2 hl) g1
/-- the first of what changes places goes -/
theorem set_mid (A : List α) (x y : α) (B : List α) : (A ++ x :: B).set A.length y = A ++ y :: B := by simp
theorem get_mid (A : List α) (x : α) (B : List α) : (A ++ x :: B)[A.length]? = some x := by simp
/-- neighbors change places -/
theorem swap_two (A B C : List α) (x y : α) : ((A ++ x :: (B ++ y :: C)).set A.length y).set (A.length + (B.length + 1)) x = A ++ y :: (B ++ x :: C) := by
  rw [set_mid]
  simp
end

end Go.Proofs.YtpnbibokddhheaaGreat

/-
  The insertion sort is stable (plain).
-/
namespace Go.Proofs.YtpnbibokddhheaaGreat
open Go.Sort
section
variable {α : Type} [Inhabited α] {lt : α → α → Bool}
theorem arr_mid {d : Array α} {A B : List α} {x : α} (h : d.toList = A ++ x :: B) : d[A.length]! = x := by
  rw [← Array.getElem!_toList, h]
  simp
theorem arr_swp {d : Array α} {A B C : List α} {x y : α} (h : d.toList = A ++ x :: (B ++ y :: C)) (i j : Nat) (hi : i = A.length) (hj : j = A.length + (B.length + 1)) : (swp d j i).toList = A ++ y :: (B ++ x :: C) := by
  subst hi hj
  have e1 : d[A.length]! = x := arr_mid h
  have e2 : d[A.length + (B.length + 1)]! = y := by
    have := arr_mid (d := d) (A := A ++ x :: B) (x := y) (B := C) (by rw [h]; simp)
    simpa using this
  unfold swp
  rw [e1, e2, Array.toList_setIfInBounds, Array.toList_setIfInBounds, h, List.set_comm _ _ (by omega), swap_two]
theorem arr_swp' {d : Array α} {A B C : List α} {x y : α} (h : d.toList = A ++ x :: (B ++ y :: C)) (i j : Nat) (hi : i = A.length) (hj : j = A.length + (B.length + 1)) : (swp d i j).toList = A ++ y :: (B ++ x :: C) := by
  subst hi hj
  have e1 : d[A.length]! = x := arr_mid h
  have e2 : d[A.length + (B.length + 1)]! = y := by
    have := arr_mid (d := d) (A := A ++ x :: B) (x := y) (B := C) (by rw [h]; simp)
    simpa using this
  unfold swp
  rw [e1, e2, Array.toList_setIfInBounds, Array.toList_setIfInBounds, h, swap_two]
theorem insInner_cut (P S : List α) (x : α) (a : Nat) (ha : a = P.length) : ∀ (j : Nat) (Z1 Z2 : List α) (d : Array α), d.toList = P ++ (Z1 ++ x :: (Z2 ++ S)) → j = P.length + Z1.length → (∀ z ∈ Z2, lt x z = true) →
    ∃ W1 W2, W1 ++ W2 = Z1 ++ Z2 ∧ (insInner lt a j d).toList = P ++ (W1 ++ x :: (W2 ++ S)) ∧ (∀ z ∈ W2, lt x z = true) ∧ (W1 = [] ∨ ∃ Z z, W1 = Z ++ [z] ∧ lt x z = false)
  | 0, Z1, Z2, d, h, hj, h2 => ⟨Z1, Z2, rfl, by rw [insInner]; exact h, h2, .inl (List.length_eq_zero_iff.1 (by omega))⟩
  | j + 1, Z1, Z2, d, h, hj, h2 => by
    rcases List.eq_nil_or_concat Z1 with rfl | ⟨Y, y, rfl⟩
    · refine ⟨[], Z2, rfl, ?_, h2, .inl rfl⟩
      rw [insInner, if_neg (by simp at hj; simp; omega)]
      exact h
    · rw [List.concat_eq_append] at h hj
      have hl : j = P.length + Y.length := by simp at hj; omega
      have e1 : d[j + 1]! = x := by
        have := arr_mid (d := d) (A := P ++ (Y ++ [y])) (x := x) (B := Z2 ++ S) (by rw [h]; simp)
        rw [hj]; simpa using this
      have e2 : d[j]! = y := by
        have := arr_mid (d := d) (A := P ++ Y) (x := y) (B := x :: (Z2 ++ S)) (by rw [h]; simp)
        rw [hl]; simpa using this
      rw [insInner, e1, e2]
      cases hc : lt x y with
      | false =>
        rw [if_neg (by simp)]
        exact ⟨Y ++ [y], Z2, by simp, h, h2, .inr ⟨Y, y, rfl, hc⟩⟩
      | true =>
        rw [if_pos (by simp; omega)]
        obtain ⟨W1, W2, g1, g2, g3, g4⟩ := insInner_cut P S x a ha j Y (y :: Z2) (swp d (j + 1) j) (by
          have := arr_swp (d := d) (A := P ++ Y) (B := []) (x := y) (y := x) (C := Z2 ++ S) (by rw [h]; simp) j (j + 1) (by simp [hl]) (by simp [hl])
          rw [this]; simp) hl (fun z hz => by
            rcases List.mem_cons.1 hz with rfl | hz
            · exact hc
            · exact h2 z hz)
        exact ⟨W1, W2, by rw [g1]; simp, g2, g3, g4⟩
theorem insOuter_stb (hw : SWO lt) (P S : List α) (a b : Nat) (ha : a = P.length) : ∀ (n : Nat) (X Z Y : List α) (d : Array α), Y.length = n → Stb lt X Z → d.toList = P ++ (Z ++ (Y ++ S)) → b = P.length + (Z.length + Y.length) →
    ∃ M, (insOuter lt a b (P.length + Z.length) d).toList = P ++ (M ++ S) ∧ Stb lt (X ++ Y) M
  | 0, X, Z, Y, d, hn, h, hd, hb => by
    obtain rfl := List.length_eq_zero_iff.1 hn
    refine ⟨Z, ?_, by simpa using h⟩
    rw [insOuter, if_neg (by simp at hb; omega), hd]; simp
  | n + 1, X, Z, [], d, hn, h, hd, hb => by simp at hn
  | n + 1, X, Z, y :: Y, d, hn, h, hd, hb => by
    obtain ⟨W1, W2, g1, g2, g3, g4⟩ := insInner_cut (lt := lt) P (Y ++ S) y a ha (P.length + Z.length) Z [] d (by rw [hd]; simp) rfl (by simp)
    have hz : W1 ++ W2 = Z := by rw [g1]; simp
    have hl : (W1 ++ [y] ++ W2).length = Z.length + 1 := by rw [← hz]; simp; omega
    obtain ⟨M, m1, m2⟩ := insOuter_stb hw P S a b ha n (X ++ [y]) (W1 ++ [y] ++ W2) Y (insInner lt a (P.length + Z.length) d) (by simpa using hn) (stb_ins hw (hz ▸ h) g3 g4) (by rw [g2]; simp) (by rw [hl, hb]; simp; omega)
    refine ⟨M, ?_, by simpa using m2⟩
    rw [insOuter, if_pos (by rw [hb]; simp)]
    rw [hl] at m1
    exact m1
/-- the part from a to b is sorted stably, the others stay -/
theorem insertionSort_stb (hw : SWO lt) {P X S : List α} {a b : Nat} {d : Array α} (hd : d.toList = P ++ (X ++ S)) (ha : a = P.length) (hb : b = P.length + X.length) :
    ∃ M, (insertionSort lt d a b).toList = P ++ (M ++ S) ∧ Stb lt X M := by
  cases X with
  | nil =>
    refine ⟨[], ?_, Stb.refl srt_nil⟩
    unfold insertionSort
    rw [insOuter, if_neg (by simp at hb; omega)]
    exact hd
  | cons x X =>
    obtain ⟨M, h1, h2⟩ := insOuter_stb hw P S a b ha X.length [x] [x] X d rfl (Stb.refl srt_one) (by rw [hd]; simp) (by rw [hb]; simp; omega)
    refine ⟨M, ?_, h2⟩
    unfold insertionSort
    rw [ha]
    rw [ha] at h1
    exact h1
end
end Go.Proofs.YtpnbibokddhheaaGreat

/-
  Blocks that are sorted, each by itself, and how they are merged: plain words.
-/
namespace Go.Proofs.YtpnbibokddhheaaGreat
open Go.Sort
section
variable {α : Type} {lt : α → α → Bool}
theorem Stb.len {L M : List α} (h : Stb lt L M) : L.length = M.length := h.prm.length_eq
/-- blocks of a size, each sorted stably; the last one may be shorter -/
inductive BlkStb (lt : α → α → Bool) (bs : Nat) : List α → List α → Prop
  | last {X Z : List α} (h : X.length ≤ bs) (s : Stb lt X Z) : BlkStb lt bs X Z
  | cons {X Z L M : List α} (h : X.length = bs) (s : Stb lt X Z) (t : BlkStb lt bs L M) : BlkStb lt bs (X ++ L) (Z ++ M)
/-- whole blocks of a size, each sorted stably -/
inductive FullB (lt : α → α → Bool) (bs : Nat) : List α → List α → Prop
  | nil : FullB lt bs [] []
  | snoc {A M X Z : List α} (t : FullB lt bs A M) (h : X.length = bs) (s : Stb lt X Z) : FullB lt bs (A ++ X) (M ++ Z)
variable {bs : Nat} {A B L M : List α}
theorem BlkStb.len (h : BlkStb lt bs L M) : L.length = M.length := by
  induction h with
  | last _ s => exact s.len
  | cons _ s _ ih => rw [List.length_append, List.length_append, s.len, ih]
theorem FullB.len (h : FullB lt bs L M) : L.length = M.length := by
  induction h with
  | nil => rfl
  | snoc _ _ s ih => rw [List.length_append, List.length_append, s.len, ih]
theorem BlkStb.head (h : BlkStb lt bs L M) (hl : bs ≤ L.length) : ∃ X Z L' M', L = X ++ L' ∧ M = Z ++ M' ∧ X.length = bs ∧ Stb lt X Z ∧ BlkStb lt bs L' M' := by
  cases h with
  | last h s => exact ⟨L, M, [], [], by simp, by simp, by omega, s, .last (Nat.zero_le _) (Stb.refl srt_nil)⟩
  | cons h s t => exact ⟨_, _, _, _, rfl, rfl, h, s, t⟩
theorem BlkStb.one (h : BlkStb lt bs L M) (hl : L.length ≤ bs) : Stb lt L M := by
  cases h with
  | last h s => exact s
  | @cons X Z L M h s t =>
    rw [List.length_append] at hl
    have hL : L = [] := List.eq_nil_of_length_eq_zero (by omega)
    have hM : M = [] := List.eq_nil_of_length_eq_zero (by have := t.len; omega)
    subst hL hM
    simpa using s
theorem FullB.app (h : FullB lt bs L M) : ∀ {B C : List α}, BlkStb lt bs B C → BlkStb lt bs (L ++ B) (M ++ C) := by
  induction h with
  | nil => intro B C hB; exact hB
  | snoc t h s ih =>
    intro B C hB
    rw [List.append_assoc, List.append_assoc]
    exact ih (.cons h s hB)
theorem Stb.two {X1 X2 Z1 Z2 Z : List α} (h1 : Stb lt X1 Z1) (h2 : Stb lt X2 Z2) (h : Stb lt (Z1 ++ Z2) Z) : Stb lt (X1 ++ X2) Z :=
  h.from_ (h1.cls.app h2.cls) (h1.prm.append h2.prm)
/-- the first one goes behind those that are less -/
theorem stb_first (hw : SWO lt) {Y1 Y2 : List α} {x : α} (h : SrtL lt (Y1 ++ Y2)) (h1 : ∀ y ∈ Y1, lt y x = true) (h2 : ∀ y ∈ Y2, lt y x = false) : Stb lt ([x] ++ (Y1 ++ Y2)) (Y1 ++ ([x] ++ Y2)) where
  srt := by
    refine srt_app h.left (srt_app srt_one h.right fun u hu y hy => ?_) fun u hu y hy => ?_
    · rw [List.mem_singleton] at hu
      subst hu
      exact h2 y hy
    · rw [List.mem_append, List.mem_singleton] at hy
      rcases hy with rfl | hy
      · have := h1 u hu
        cases e : lt y u with
        | false => rfl
        | true => have g := hw.trans _ _ _ this e; rw [hw.irrefl] at g; cases g
      · exact h.cross u hu y hy
  cls := by
    have e := SameC.app (SameC.swap hw (U := [x]) (V := Y1) (fun z hz y hy => by rw [List.mem_singleton] at hz; subst hz; exact h1 y hy)) (SameC.rfl' (lt := lt) (L := Y2))
    simpa only [List.append_assoc] using e
  prm := by
    have e := (List.perm_append_comm (l₁ := [x]) (l₂ := Y1)).append_right Y2
    simpa only [List.append_assoc] using e
/-- the last one goes ahead of those that it is less than -/
theorem stb_last (hw : SWO lt) {X1 X2 : List α} {y : α} (h : SrtL lt (X1 ++ X2)) (h1 : ∀ z ∈ X1, lt y z = false) (h2 : ∀ z ∈ X2, lt y z = true) : Stb lt ((X1 ++ X2) ++ [y]) (X1 ++ ([y] ++ X2)) where
  srt := by
    refine srt_app h.left (srt_app srt_one h.right fun u hu z hz => ?_) fun u hu z hz => ?_
    · rw [List.mem_singleton] at hu
      subst hu
      have := h2 z hz
      cases e : lt z u with
      | false => rfl
      | true => have g := hw.trans _ _ _ this e; rw [hw.irrefl] at g; cases g
    · rw [List.mem_append, List.mem_singleton] at hz
      rcases hz with rfl | hz
      · exact h1 u hu
      · exact h.cross u hu z hz
  cls := by
    have e := SameC.app (SameC.rfl' (lt := lt) (L := X1)) (SameC.swap hw (U := X2) (V := [y]) (fun z hz u hu => by rw [List.mem_singleton] at hu; subst hu; exact h2 z hz))
    simpa only [List.append_assoc] using e
  prm := by
    have e := (List.perm_append_comm (l₁ := X2) (l₂ := [y])).append_left X1
    simpa only [List.append_assoc] using e
/-- where a row is cut by a search: those ahead are less than x, those behind aren't -/
theorem cut_less (hw : SWO lt) {P Y S : List α} {x : α} {i : Nat} (hy : SrtL lt Y) (h1 : P.length ≤ i) (h2 : i ≤ P.length + Y.length)
    (lo : i = P.length ∨ ∃ y, (P ++ (Y ++ S))[i - 1]? = some y ∧ lt y x = true) (hi : i = P.length + Y.length ∨ ∃ y, (P ++ (Y ++ S))[i]? = some y ∧ lt y x = false) :
    ∃ Y1 Y2, Y = Y1 ++ Y2 ∧ Y1.length = i - P.length ∧ (∀ y ∈ Y1, lt y x = true) ∧ (∀ y ∈ Y2, lt y x = false) := by
  obtain ⟨Y1, Y2, rfl, hY1⟩ := cut_at Y (i - P.length) (by omega)
  rw [List.length_append] at h2 hi
  refine ⟨Y1, Y2, rfl, hY1, fun u hu => ?_, fun u hu => ?_⟩
  · rcases lo with e | ⟨y, ey, hl⟩
    · have : Y1 = [] := List.eq_nil_of_length_eq_zero (by omega)
      rw [this] at hu; cases hu
    · obtain ⟨Y1', y', rfl⟩ : ∃ Y y, Y1 = Y ++ [y] := ⟨Y1.dropLast, Y1.getLast (List.ne_nil_of_mem hu), (List.dropLast_concat_getLast _).symm⟩
      rw [List.length_append, List.length_singleton] at hY1
      have e1 : (P ++ (Y1' ++ [y'] ++ Y2 ++ S))[i - 1]? = some y' := by
        have : P ++ (Y1' ++ [y'] ++ Y2 ++ S) = (P ++ Y1') ++ y' :: (Y2 ++ S) := by simp
        rw [this, List.getElem?_append_right (by rw [List.length_append]; omega), List.length_append, show i - 1 - (P.length + Y1'.length) = 0 by omega]
        rfl
      rw [e1] at ey
      cases ey
      rw [List.mem_append, List.mem_singleton] at hu
      rcases hu with hu | rfl
      · have g := hy.left.cross u hu y (by simp)
        cases e : lt u x with
        | true => rfl
        | false => have := hw.ntrans _ _ _ g e; rw [hl] at this; cases this
      · exact hl
  · rcases hi with e | ⟨y, ey, hl⟩
    · have : Y2 = [] := List.eq_nil_of_length_eq_zero (by omega)
      rw [this] at hu; cases hu
    · obtain ⟨y', Y2', rfl⟩ := List.exists_cons_of_ne_nil (List.ne_nil_of_mem hu)
      have e1 : (P ++ (Y1 ++ y' :: Y2' ++ S))[i]? = some y' := by
        have : P ++ (Y1 ++ y' :: Y2' ++ S) = (P ++ Y1) ++ y' :: (Y2' ++ S) := by simp
        rw [this, List.getElem?_append_right (by rw [List.length_append]; omega), List.length_append, show i - (P.length + Y1.length) = 0 by omega]
        rfl
      rw [e1] at ey
      cases ey
      rcases List.mem_cons.1 hu with rfl | hu
      · exact hl
      · exact hw.ntrans _ _ _ ((List.pairwise_cons.1 hy.right).1 u hu) hl
/-- where a row is cut by a search: x is not less than those ahead, and less than those behind -/
theorem cut_above (hw : SWO lt) {P X S : List α} {x : α} {i : Nat} (hx : SrtL lt X) (h1 : P.length ≤ i) (h2 : i ≤ P.length + X.length)
    (lo : i = P.length ∨ ∃ y, (P ++ (X ++ S))[i - 1]? = some y ∧ lt x y = false) (hi : i = P.length + X.length ∨ ∃ y, (P ++ (X ++ S))[i]? = some y ∧ lt x y = true) :
    ∃ X1 X2, X = X1 ++ X2 ∧ X1.length = i - P.length ∧ (∀ y ∈ X1, lt x y = false) ∧ (∀ y ∈ X2, lt x y = true) := by
  obtain ⟨Y1, Y2, rfl, hY1⟩ := cut_at X (i - P.length) (by omega)
  rw [List.length_append] at h2 hi
  refine ⟨Y1, Y2, rfl, hY1, fun u hu => ?_, fun u hu => ?_⟩
  · rcases lo with e | ⟨y, ey, hl⟩
    · have : Y1 = [] := List.eq_nil_of_length_eq_zero (by omega)
      rw [this] at hu; cases hu
    · obtain ⟨Y1', y', rfl⟩ : ∃ Y y, Y1 = Y ++ [y] := ⟨Y1.dropLast, Y1.getLast (List.ne_nil_of_mem hu), (List.dropLast_concat_getLast _).symm⟩
      rw [List.length_append, List.length_singleton] at hY1
      have e1 : (P ++ (Y1' ++ [y'] ++ Y2 ++ S))[i - 1]? = some y' := by
        have : P ++ (Y1' ++ [y'] ++ Y2 ++ S) = (P ++ Y1') ++ y' :: (Y2 ++ S) := by simp
        rw [this, List.getElem?_append_right (by rw [List.length_append]; omega), List.length_append, show i - 1 - (P.length + Y1'.length) = 0 by omega]
        rfl
      rw [e1] at ey
      cases ey
      rw [List.mem_append, List.mem_singleton] at hu
      rcases hu with hu | rfl
      · exact hw.ntrans _ _ _ hl (hx.left.cross u hu y (by simp))
      · exact hl
  · rcases hi with e | ⟨y, ey, hl⟩
    · have : Y2 = [] := List.eq_nil_of_length_eq_zero (by omega)
      rw [this] at hu; cases hu
    · obtain ⟨y', Y2', rfl⟩ := List.exists_cons_of_ne_nil (List.ne_nil_of_mem hu)
      have e1 : (P ++ (Y1 ++ y' :: Y2' ++ S))[i]? = some y' := by
        have : P ++ (Y1 ++ y' :: Y2' ++ S) = (P ++ Y1) ++ y' :: (Y2' ++ S) := by simp
        rw [this, List.getElem?_append_right (by rw [List.length_append]; omega), List.length_append, show i - (P.length + Y1.length) = 0 by omega]
        rfl
      rw [e1] at ey
      cases ey
      rcases List.mem_cons.1 hu with rfl | hu
      · exact hl
      · have g := (List.pairwise_cons.1 hx.right).1 u hu
        cases e : lt x u with
        | true => rfl
        | false => have := hw.ntrans _ _ _ e g; rw [hl] at this; cases this
end

end Go.Proofs.YtpnbibokddhheaaGreat

/-
  Layer 14: a summary of nothing.
-/
namespace Go.Proofs.YtpnbibokddhheaaGreat
open Go.RowKit Go.Sort

set_option maxHeartbeats 1000000 in
theorem insert0 (A : Option Addr) (c : Nat) (f : Value) (w : World) : Calls Tryz.prog 128 #[.slice A 0 c, .int .i64 0, .int .i64 0, f] w fun r w' => r = .returned (.tuple #[]) ∧ w' = w := by
  go_enter Tryz.func128, Tryz.ntmps128
  go_wp2
  go_loopw [8] (fun i wr => i = .int .i64 1 ∧ wr = w) (fun _ _ => 0)
  case atStart => exact ⟨rfl, rfl⟩
  case round =>
    obtain ⟨rfl, rfl⟩ := hrel
    go_wp2
    refine bodyPost_end (results_none rfl _ _ _) rfl ?_
    exact ⟨rfl, rfl⟩
set_option maxHeartbeats 1000000 in
theorem stable0 (A : Option Addr) (c : Nat) (f : Value) (w : World) : Calls Tryz.prog 83 #[.slice A 0 c, .int .i64 0, f] w fun r w' => r = .returned (.tuple #[]) ∧ w' = w := by
  go_enter Tryz.func83, Tryz.ntmps83
  go_wp2
  go_loopw [7, 8] (fun a b wr => a = .int .i64 0 ∧ b = .int .i64 20 ∧ wr = w) (fun _ _ _ => 0)
  case atStart => exact ⟨rfl, rfl, rfl⟩
  case round =>
    obtain ⟨rfl, rfl, rfl⟩ := hrel
    go_wp2_with fail
    with_reducible refine Calls.mono (insert0 _ _ _ _) ?_
    rintro r w2 ⟨rfl, rfl⟩
    obtain ⟨wo, hwo⟩ : ∃ wo : World, wo = w2 := ⟨_, rfl⟩
    go_wp2
    go_loopw [6] (fun a wx => a = .int .i64 20 ∧ wx = wo) (fun _ _ => 0)
    case atStart => exact ⟨rfl, hwo.symm⟩
    case round =>
      obtain ⟨rfl, rfl⟩ := hrel
      go_wp2
      refine bodyPost_end (results_none rfl _ _ _) rfl ?_
      exact ⟨rfl, rfl⟩
set_option maxHeartbeats 1000000 in
theorem sortStable0 (A : Option Addr) (c : Nat) (f : Value) (w : World) : Calls Tryz.prog 46 #[.slice A 0 c, f] w fun r w' => r = .returned (.tuple #[]) ∧ w' = w := by
  go_enter Tryz.func46, Tryz.ntmps46
  go_wp2_with fail
  with_reducible refine Calls.mono (stable0 _ _ _ _) ?_
  rintro r w2 ⟨rfl, rfl⟩
  go_wp2
  refine bodyPost_end (results_none rfl _ _ _) rfl ?_
  exact ⟨rfl, rfl⟩
theorem SuNew_none (w : World) : Calls Tryz.prog 18 #[.slice none 0 0] w fun r w' => r = .returned (.pointer (some ⟨w.heap.size, 0, none⟩)) ∧ (∃ v, SmAt w' w.heap.size v 0 []) ∧ Below w.heap.size w w' := by
  refine SuNew_any none 0 [] w w.heap.size RowsAt.nil (Nat.le_refl _) (by decide) 0 rfl [] (fun W' v hown => ?_)
  have hown2 : OwnR 27 7 Hd.cells W' (w.heap.size + 1) v [] := hown
  obtain ⟨A7, c7, hv⟩ := hown2.shape
  subst hv
  refine (sortStable0 A7 c7 _ W').mono ?_
  rintro r w' ⟨rfl, rfl⟩
  exact ⟨rfl, hown2, World.grownBy.refl _ _⟩
theorem app_none (w : World) (A : Option Addr) (c : Nat) : (Builtin.append_ #[58, 58] 58 #[.slice none 0 0, .slice A 0 c]).run Tryz.prog w = .ok (.slice none 0 0) w := by
  cases A <;> kernel_rfl
set_option maxHeartbeats 4000000 in
set_option maxRecDepth 100000 in
theorem SuPiece_none (s : Nat) (v : Value) (w : World) (h : SmAt w s v 0 []) : Calls Tryz.prog 19 #[.pointer (some ⟨s, 0, none⟩)] w fun r w' => r = .returned (.slice none 0 0) ∧ Below w.heap.size w w' := by
  have happ := app_none
  obtain ⟨c0, c1⟩ : _ ∧ _ := ⟨h.ptr.cell 0, h.ptr.cell 1⟩
  simp only [List.getElem?_toArray, List.getElem?_cons_zero, List.getElem?_cons_succ] at c0 c1
  rcases h.own.shape2 with ⟨hv, -⟩ | ⟨g, c5, hv, hc5⟩
  all_goals
    subst hv
    clear h
    try simp only [List.length_nil] at c0
    go_enter Tryz.func19, Tryz.ntmps19
    go_wp2_with fail
    refine wp_drew_tail 19 (by kernel_rfl) (by kernel_rfl) ?_
    simp only [List.take_succ_cons, List.take_zero, List.drop_succ_cons, List.drop_zero]
    repeat (go_big_quiet_step (fail))
    refine wpQuiet_nil ?_
    rintro w3 ⟨dq, rfl⟩
    go_wp2
    go_ret
    exact ⟨rfl, below_drewN (Below.refl _ _) dq⟩
set_option maxHeartbeats 4000000 in
set_option maxRecDepth 100000 in
theorem SuMore_none (s : Nat) (v : Value) (w : World) (h : SmAt w s v 0 []) : Calls Tryz.prog 48 #[.pointer (some ⟨s, 0, none⟩)] w fun r w' => r = .returned (.bool false) ∧ Below w.heap.size w w' := by
  obtain ⟨c0, c1⟩ : _ ∧ _ := ⟨h.ptr.cell 0, h.ptr.cell 1⟩
  simp only [List.getElem?_toArray, List.getElem?_cons_zero, List.getElem?_cons_succ] at c0 c1
  obtain ⟨A7, c7, hv⟩ := h.own.shape
  subst hv
  clear h
  simp only [List.length_nil] at c0
  go_enter Tryz.func48, Tryz.ntmps48
  go_wp2_with fail
  refine wp_drew_tail 15 (by kernel_rfl) (by kernel_rfl) ?_
  simp only [List.take_succ_cons, List.take_zero, List.drop_succ_cons, List.drop_zero]
  repeat (go_big_quiet_step (fail))
  refine wpQuiet_nil ?_
  rintro w3 ⟨dq, rfl⟩
  go_wp2
  go_ret
  exact ⟨rfl, below_drewN (Below.refl _ _) dq⟩

end Go.Proofs.YtpnbibokddhheaaGreat

/-
  Layer 13: a summary's pieces, one behind the other.
-/
namespace Go.Proofs.YtpnbibokddhheaaGreat
open Go.RowKit Go.Sort

/-- the place of the next piece -/
def nextAt (a n : Nat) : Nat := if a + 3 < n then a + 3 else n
def pieceAt (H : List Hd) (a : Nat) : List Hd := (H.drop a).take 3
theorem piece_len (H : List Hd) (a : Nat) (_ha : a ≤ H.length) : (pieceAt H a).length = nextAt a H.length - a := by
  unfold pieceAt nextAt
  rw [List.length_take, List.length_drop]
  split <;> omega
theorem next_ge {a n : Nat} (h : a ≤ n) : a ≤ nextAt a n ∧ nextAt a n ≤ n := by unfold nextAt; split <;> omega
theorem row_from {w : World} {B : Nat} {g : Nat} {H : List Hd} {a : Nat} (h : RowsAt 7 Hd.cells w B (some ⟨g, 0, none⟩) H) : RowsAt 7 Hd.cells w B (some ⟨g, a * 7, none⟩) (pieceAt H a) := by
  intro h0
  unfold pieceAt at h0 ⊢
  rw [List.length_take, List.length_drop] at h0
  obtain ⟨b, o, e, hb, hc⟩ := h (by omega)
  injection e with e
  injection e with e1 e2
  subst e1 e2
  refine ⟨g, a * 7, rfl, hb, fun k hk i u hi hu => ?_⟩
  have hk2 : a + k < H.length := by rw [List.length_take, List.length_drop] at hk; omega
  have := hc (a + k) hk2 i u hi (by rw [← hu, List.getElem_take, List.getElem_drop])
  rw [← this]
  congr 2
  omega
theorem more_nextB {a n : Nat} : decide (nextAt a n < n) = decide (a + 3 < n) := by unfold nextAt; split <;> simp_all
set_option maxHeartbeats 4000000 in
set_option maxRecDepth 100000 in
theorem SuPiece_any (s : Nat) (v : Value) (a : Nat) (H : List Hd) (w : World) (h : SmAt w s v a H) (ha : a ≤ H.length) (hl : H.length ≤ 2 ^ 20) : Calls Tryz.prog 19 #[.pointer (some ⟨s, 0, none⟩)] w fun r w' => (∃ u, r = .returned u ∧ OwnR 27 7 Hd.cells w' w.heap.size u (pieceAt H a)) ∧ Below w.heap.size w w' := by
  obtain ⟨n, hn⟩ : ∃ n, H.length = n := ⟨_, rfl⟩
  obtain ⟨e, he⟩ : ∃ e, nextAt a n = e := ⟨_, rfl⟩
  have hpl := piece_len H a ha
  rw [hn] at ha hl hpl
  have hge := next_ge ha
  rw [he] at hge hpl
  have HS := Lib.hid h
  obtain ⟨c0, c1⟩ : _ ∧ _ := ⟨h.ptr.cell 0, h.ptr.cell 1⟩
  simp only [List.getElem?_toArray, List.getElem?_cons_zero, List.getElem?_cons_succ] at c0 c1
  have hai : (a : Int) ≤ 1048576 := by omega
  have hni : (n : Int) ≤ 1048576 := by omega
  have hge1 : (a : Int) ≤ (e : Int) := by omega
  have hge2 : (e : Int) ≤ (n : Int) := by omega
  obtain ⟨k, hk⟩ : ∃ k, e - a = k := ⟨_, rfl⟩
  have hki : (e : Int) - (a : Int) = (k : Int) := by omega
  have HN := Lib.hid hn
  have HE := Lib.hid (fun q => OwnR.nil (e := 27) (C := 7) (cells := Hd.cells) (w.drewN q) w.heap.size)
  by_cases hz : a = n
  · have hp0 : pieceAt H a = [] := by unfold pieceAt; rw [hz, ← hn, List.drop_length]; rfl
    rw [hp0]
    have Hpl := Lib.hid (show ([] : List Hd).length = 0 from rfl)
    subst hz
    rcases h.own.shape2 with ⟨hv, h0⟩ | ⟨g, cap, hv, hcap⟩
    · subst h0
      obtain rfl : a = 0 := by simpa using hn.symm
      subst hv
      have HR := Lib.hid (fun q => (show RowsAt 7 Hd.cells (w.drewN q) (w.drewN q).heap.size none ([] : List Hd) from fun h0 => absurd h0 (by simp)))
      clear h hn he hpl hge ha hl hk hp0
      simp only [Int.ofNat_zero] at *
      go_enter Tryz.func19, Tryz.ntmps19
      go_wp2_with fail
      refine wp_drew_tail 19 (by kernel_rfl) (by kernel_rfl) ?_
      simp only [List.take_succ_cons, List.take_zero, List.drop_succ_cons, List.drop_zero]
      repeat (go_big_quiet_step (fail))
      refine wpQuiet_nil ?_
      rintro w3 ⟨dq, rfl⟩
      go_wp2
      go_ret
      exact ⟨⟨_, rfl, OwnR.nil _ _⟩, below_drewN (Below.refl _ _) dq⟩
    · subst hv
      rw [hn] at c0 hcap
      have hcm : (a : Int) ≤ (cap : Int) := by omega
      by_cases hca : cap = a
      · subst hca
        have HR := Lib.hid (fun q => (show RowsAt 7 Hd.cells (w.drewN q) (w.drewN q).heap.size (some ⟨g, 0, none⟩) ([] : List Hd) from fun h0 => absurd h0 (by simp)))
        clear h hn he hpl hge ha hl hk hp0 hcap
        go_enter Tryz.func19, Tryz.ntmps19
        go_wp2_with fail
        refine wp_drew_tail 19 (by kernel_rfl) (by kernel_rfl) ?_
        simp only [List.take_succ_cons, List.take_zero, List.drop_succ_cons, List.drop_zero]
        repeat (go_big_quiet_step (fail))
        refine wpQuiet_nil ?_
        rintro w3 ⟨dq, rfl⟩
        go_wp2
        go_ret
        exact ⟨⟨_, rfl, OwnR.nil _ _⟩, below_drewN (Below.refl _ _) dq⟩
      · have HR := Lib.hid (fun q => (show RowsAt 7 Hd.cells (w.drewN q) (w.drewN q).heap.size (some ⟨g, a * 7, none⟩) ([] : List Hd) from fun h0 => absurd h0 (by simp)))
        clear h hn he hpl hge ha hl hk hp0 hcap
        go_enter Tryz.func19, Tryz.ntmps19
        go_wp2_with fail
        refine wp_drew_tail 19 (by kernel_rfl) (by kernel_rfl) ?_
        simp only [List.take_succ_cons, List.take_zero, List.drop_succ_cons, List.drop_zero]
        repeat (go_big_quiet_step (fail))
        refine wpQuiet_nil ?_
        rintro w3 ⟨dq, rfl⟩
        go_wp2
        go_ret
        exact ⟨⟨_, rfl, OwnR.nil _ _⟩, below_drewN (Below.refl _ _) dq⟩
  · have Hpl := Lib.hid (show (pieceAt H a).length = e - a by omega)
    obtain ⟨g, cap, hv, hcap⟩ : ∃ g c, v = .slice (some ⟨g, 0, none⟩) H.length c ∧ H.length ≤ c := by
      rcases h.own.shape2 with ⟨hv, h0⟩ | h0
      · subst h0; simp at hn; omega
      · exact h0
    subst hv
    rw [hn] at c0 hcap
    have HR := Lib.hid (fun q => (show RowsAt 7 Hd.cells (w.drewN q) (w.drewN q).heap.size (some ⟨g, a * 7, none⟩) (pieceAt H a) from row_from (OwnR.rows (C := 7) (cells := Hd.cells) (fun _ => rfl) (HS.out.own.below (below_drewN (Below.refl _ _) q))).2))
    have hcm : (e : Int) ≤ (cap : Int) := by omega
    have hca : ¬ cap = a := by omega
    by_cases hc : a + 3 < n
    · have he2 : (a : Int) + 3 = (e : Int) := by rw [← he]; unfold nextAt; rw [if_pos hc]; omega
      have hci : (e : Int) < (n : Int) := by omega
      clear h hn he hpl hge ha hl hk hcap hc
      go_enter Tryz.func19, Tryz.ntmps19
      go_wp2_with fail
      refine wp_drew_tail 19 (by kernel_rfl) (by kernel_rfl) ?_
      simp only [List.take_succ_cons, List.take_zero, List.drop_succ_cons, List.drop_zero]
      repeat (go_big_quiet_step (fail))
      refine wpQuiet_nil ?_
      rintro w3 ⟨dq, rfl⟩
      go_wp2_with (at_builtin; (refine app_rows (e := 27) Hd.cells (fun _ => rfl) (by decide) (bytes := 56) (by decide) infoHd13 rfl Tryz.underlying58 onesHd13 (by rfl) _ _ (by rfl) w.heap.size _ [] (by rfl) (HE.out _) (some ⟨g, a * 7, none⟩) _ (e - a) (pieceAt H a) Hpl.out.symm (by rfl) (HR.out _) (by have := Hpl.out; simp; omega) (by simp [World.drewN]) ?_); intro v5 w5 hown5 hg5 hor5; have O5 := Lib.hid hown5; have G5 := Lib.hid hg5; clear hown5 hg5 hor5; obtain ⟨A5, c5, hv5⟩ := O5.out.shape; subst hv5)
      go_ret
      exact ⟨⟨_, rfl, by simpa using O5.out⟩, (below_drewN (Below.refl _ _) dq).grown G5.out (by simp [World.drewN]) (fun m e => by cases e)⟩
    · have he2 : e = n := by rw [← he]; unfold nextAt; rw [if_neg hc]
      subst he2
      by_cases hc2 : a + 3 = e
      · have he2 : (a : Int) + 3 = (e : Int) := by omega
        clear h hn he hpl hge ha hl hk hcap hc hc2
        go_enter Tryz.func19, Tryz.ntmps19
        go_wp2_with fail
        refine wp_drew_tail 19 (by kernel_rfl) (by kernel_rfl) ?_
        simp only [List.take_succ_cons, List.take_zero, List.drop_succ_cons, List.drop_zero]
        repeat (go_big_quiet_step (fail))
        refine wpQuiet_nil ?_
        rintro w3 ⟨dq, rfl⟩
        go_wp2_with (at_builtin; (refine app_rows (e := 27) Hd.cells (fun _ => rfl) (by decide) (bytes := 56) (by decide) infoHd13 rfl Tryz.underlying58 onesHd13 (by rfl) _ _ (by rfl) w.heap.size _ [] (by rfl) (HE.out _) (some ⟨g, a * 7, none⟩) _ (e - a) (pieceAt H a) Hpl.out.symm (by rfl) (HR.out _) (by have := Hpl.out; simp; omega) (by simp [World.drewN]) ?_); intro v5 w5 hown5 hg5 hor5; have O5 := Lib.hid hown5; have G5 := Lib.hid hg5; clear hown5 hg5 hor5; obtain ⟨A5, c5, hv5⟩ := O5.out.shape; subst hv5)
        go_ret
        exact ⟨⟨_, rfl, by simpa using O5.out⟩, (below_drewN (Below.refl _ _) dq).grown G5.out (by simp [World.drewN]) (fun m e => by cases e)⟩
      · have hci : (e : Int) < (a : Int) + 3 := by omega
        clear h hn he hpl hge ha hl hk hcap hc hc2
        go_enter Tryz.func19, Tryz.ntmps19
        go_wp2_with fail
        refine wp_drew_tail 19 (by kernel_rfl) (by kernel_rfl) ?_
        simp only [List.take_succ_cons, List.take_zero, List.drop_succ_cons, List.drop_zero]
        repeat (go_big_quiet_step (fail))
        refine wpQuiet_nil ?_
        rintro w3 ⟨dq, rfl⟩
        go_wp2_with (at_builtin; (refine app_rows (e := 27) Hd.cells (fun _ => rfl) (by decide) (bytes := 56) (by decide) infoHd13 rfl Tryz.underlying58 onesHd13 (by rfl) _ _ (by rfl) w.heap.size _ [] (by rfl) (HE.out _) (some ⟨g, a * 7, none⟩) _ (e - a) (pieceAt H a) Hpl.out.symm (by rfl) (HR.out _) (by have := Hpl.out; simp; omega) (by simp [World.drewN]) ?_); intro v5 w5 hown5 hg5 hor5; have O5 := Lib.hid hown5; have G5 := Lib.hid hg5; clear hown5 hg5 hor5; obtain ⟨A5, c5, hv5⟩ := O5.out.shape; subst hv5)
        go_ret
        exact ⟨⟨_, rfl, by simpa using O5.out⟩, (below_drewN (Below.refl _ _) dq).grown G5.out (by simp [World.drewN]) (fun m e => by cases e)⟩
set_option maxHeartbeats 4000000 in
set_option maxRecDepth 100000 in
theorem SuMore_any (s : Nat) (v : Value) (a : Nat) (H : List Hd) (w : World) (h : SmAt w s v a H) (ha : a ≤ H.length) (hl : H.length ≤ 2 ^ 20) : Calls Tryz.prog 48 #[.pointer (some ⟨s, 0, none⟩)] w fun r w' => r = .returned (.bool (decide (a + 3 < H.length))) ∧ Below w.heap.size w w' := by
  obtain ⟨A, cap, hv⟩ := h.own.shape
  obtain ⟨c0, c1⟩ : _ ∧ _ := ⟨h.ptr.cell 0, h.ptr.cell 1⟩
  simp only [List.getElem?_toArray, List.getElem?_cons_zero, List.getElem?_cons_succ] at c0 c1
  subst hv
  obtain ⟨n, hn⟩ : ∃ n, H.length = n := ⟨_, rfl⟩
  rw [hn] at ha hl c0 ⊢
  have hai : (a : Int) ≤ 1048576 := by omega
  have hni : (n : Int) ≤ 1048576 := by omega
  clear h hn
  go_enter Tryz.func48, Tryz.ntmps48
  go_wp2
  go_quiet (fail)
  go_wp2
  go_ret
  refine ⟨?_, below_drewN (Below.refl _ _) _⟩
  have e : decide ((a : Int) + 3 < (n : Int)) = decide (a + 3 < n) := by by_cases h : a + 3 < n <;> simp [h] <;> omega
  rw [← e]
  rfl
set_option maxHeartbeats 4000000 in
set_option maxRecDepth 100000 in
theorem SuStep_any (s : Nat) (v : Value) (a : Nat) (H : List Hd) (w : World) (h : SmAt w s v a H) (ha : a ≤ H.length) (hl : H.length ≤ 2 ^ 20) : Calls Tryz.prog 20 #[.pointer (some ⟨s, 0, none⟩)] w fun r w' => r = .returned (.bool (decide (a + 3 < H.length))) ∧ SmAt w' s v (nextAt a H.length : Nat) H ∧ w.grownBy w' (some s) := by
  have HM := Lib.hid (SuMore_any s v a H w h ha hl)
  obtain ⟨A, cap, hv⟩ := h.own.shape
  obtain ⟨n, hn⟩ : ∃ n, H.length = n := ⟨_, rfl⟩
  obtain ⟨e, he⟩ : ∃ e, nextAt a n = e := ⟨_, rfl⟩
  rw [hn] at ha hl HM ⊢
  rw [he]
  have HS := Lib.hid h
  have Hv := Lib.hid hv
  have hai : (a : Int) ≤ 1048576 := by omega
  have hni : (n : Int) ≤ 1048576 := by omega
  have Hn := Lib.hid hn
  clear h hv
  go_enter Tryz.func20, Tryz.ntmps20
  go_wp2_with fail
  with_reducible refine Calls.mono HM.out ?_
  rintro r w1 ⟨rfl, hb1⟩
  have hs1 := HS.out.keep hb1
  have hsv := Hv.out
  rw [hn] at hsv
  obtain ⟨c0, c1⟩ : _ ∧ _ := ⟨hs1.ptr.cell 0, hs1.ptr.cell 1⟩
  simp only [List.getElem?_toArray, List.getElem?_cons_zero, List.getElem?_cons_succ] at c0 c1
  rw [hsv] at c0
  have hf := hs1.ptr.frozen 1
  have hK := Lib.hid (fun q => hs1.keep (below_drewN (Below.refl _ _) q))
  have hG := Lib.hid (fun q (u : Value) => grown_trans (a := w) (c := w1.drewN q) (d := (w1.drewN q).setCell ⟨s, 1, none⟩ u) (row := some s) (grown_below (World.grownBy.refl w (some s)) (below_trans hb1 hb1.size (below_drewN (Below.refl _ _) q))) (grown_set _ _ _ _))
  by_cases hc : a + 3 < n
  · have he2 : (a : Int) + 3 = (e : Int) := by rw [← he]; unfold nextAt; rw [if_pos hc]; omega
    have hci : (e : Int) < (n : Int) := by omega
    have hcd : decide (a + 3 < n) = true := decide_eq_true hc
    rw [hcd]
    clear hn hsv hs1 hb1 he ha hl hc
    go_wp2_with fail
    refine wp_drew_tail 14 (by kernel_rfl) (by kernel_rfl) ?_
    simp only [List.take_succ_cons, List.take_zero, List.drop_succ_cons, List.drop_zero]
    repeat (go_big_quiet_step (fail))
    refine wpQuiet_nil ?_
    rintro w3 ⟨dq, rfl⟩
    go_wp2
    go_ret
    refine ⟨by first | rfl | (rw [hcd]; rfl), ⟨?_, ?_⟩, ?_⟩
    · have := ((hK.out dq).ptr.set_ 1 (.int .i64 (e : Int))).to (cs' := #[v, .int .i64 (e : Int)]) (by simp)
      exact this
    · exact (hK.out dq).own.set_ (by simp) _
    · exact hG.out dq _
  · have he2 : e = n := by rw [← he]; unfold nextAt; rw [if_neg hc]
    subst he2
    have hcd : decide (a + 3 < e) = false := decide_eq_false hc
    rw [hcd]
    by_cases hc2 : a + 3 = e
    · have he3 : (a : Int) + 3 = (e : Int) := by omega
      clear hn hsv hs1 hb1 he ha hl hc hc2
      go_wp2_with fail
      refine wp_drew_tail 14 (by kernel_rfl) (by kernel_rfl) ?_
      simp only [List.take_succ_cons, List.take_zero, List.drop_succ_cons, List.drop_zero]
      repeat (go_big_quiet_step (fail))
      refine wpQuiet_nil ?_
      rintro w3 ⟨dq, rfl⟩
      go_wp2
      go_ret
      refine ⟨by first | rfl | (rw [hcd]; rfl), ⟨?_, ?_⟩, ?_⟩
      · have := ((hK.out dq).ptr.set_ 1 (.int .i64 (e : Int))).to (cs' := #[v, .int .i64 (e : Int)]) (by simp)
        exact this
      · exact (hK.out dq).own.set_ (by simp) _
      · exact hG.out dq _
    · have hci : (e : Int) < (a : Int) + 3 := by omega
      clear hn hsv hs1 hb1 he ha hl hc hc2
      go_wp2_with fail
      refine wp_drew_tail 14 (by kernel_rfl) (by kernel_rfl) ?_
      simp only [List.take_succ_cons, List.take_zero, List.drop_succ_cons, List.drop_zero]
      repeat (go_big_quiet_step (fail))
      refine wpQuiet_nil ?_
      rintro w3 ⟨dq, rfl⟩
      go_wp2
      go_ret
      refine ⟨by first | rfl | (rw [hcd]; rfl), ⟨?_, ?_⟩, ?_⟩
      · have := ((hK.out dq).ptr.set_ 1 (.int .i64 (e : Int))).to (cs' := #[v, .int .i64 (e : Int)]) (by simp)
        exact this
      · exact (hK.out dq).own.set_ (by simp) _
      · exact hG.out dq _

end Go.Proofs.YtpnbibokddhheaaGreat

/-
  A row in order, each once: plain words.
-/
namespace Go.Proofs.YtpnbibokddhheaaGreat

/-- the first n of a row, but those that are like the one ahead -/
def cptN {α : Type} [DecidableEq α] (L : List α) : Nat → List α
  | 0 => []
  | 1 => L.take 1
  | n + 2 => if L[n + 1]? = L[n]? then cptN L (n + 1) else cptN L (n + 1) ++ (L[n + 1]?).toList
def cptL {α : Type} [DecidableEq α] (L : List α) : List α := cptN L L.length
section
variable {α : Type} [DecidableEq α] {L : List α}
theorem cptN_len : ∀ n, (cptN L n).length ≤ n
  | 0 => Nat.le_refl _
  | 1 => by show (L.take 1).length ≤ 1; rw [List.length_take]; omega
  | n + 2 => by
    have ih := cptN_len (n + 1)
    unfold cptN
    split
    · omega
    · rw [List.length_append]
      have : (L[n + 1]?).toList.length ≤ 1 := by cases L[n + 1]? <;> simp
      omega
theorem cptN_pos (h0 : 0 < L.length) : ∀ n, 0 < n → 0 < (cptN L n).length
  | 0, h => absurd h (by omega)
  | 1, _ => by show 0 < (L.take 1).length; rw [List.length_take]; omega
  | n + 2, _ => by
    have ih := cptN_pos h0 (n + 1) (by omega)
    unfold cptN
    split
    · exact ih
    · rw [List.length_append]; omega
theorem cptN_same {n : Nat} (h : n + 1 < L.length) (e : L[n + 1] = L[n]) : cptN L (n + 2) = cptN L (n + 1) := by
  conv => lhs; unfold cptN
  rw [if_pos (by rw [List.getElem?_eq_getElem h, List.getElem?_eq_getElem (by omega), e])]
theorem cptN_new {n : Nat} (h : n + 1 < L.length) (e : L[n + 1] ≠ L[n]) : cptN L (n + 2) = cptN L (n + 1) ++ [L[n + 1]] := by
  conv => lhs; unfold cptN
  rw [if_neg (by rw [List.getElem?_eq_getElem h, List.getElem?_eq_getElem (by omega)]; intro e'; injection e' with e'; exact e e'), List.getElem?_eq_getElem h]
  rfl
theorem cptN_take : ∀ n, n ≤ L.length → (∀ i (h : i + 1 < n) (hn : n ≤ L.length), L[i + 1]'(by omega) ≠ L[i]'(by omega)) → cptN L n = L.take n
  | 0, _, _ => rfl
  | 1, _, _ => rfl
  | n + 2, hn, h => by
    rw [cptN_new (by omega) (h n (by omega) hn), cptN_take (n + 1) (by omega) (fun i hi _ => h i (by omega) hn)]
    exact (List.take_succ_eq_append_getElem (by omega)).symm
/-- the last of them is the last one -/
theorem cptN_last : ∀ n (hn : n < L.length), (cptN L (n + 1)).getLast? = some L[n]
  | 0, hn => by
    show (L.take 1).getLast? = _
    cases L with
    | nil => simp at hn
    | cons a l => simp
  | n + 1, hn => by
    by_cases e : L[n + 1] = L[n]
    · rw [cptN_same hn e, cptN_last n (by omega), e]
    · rw [cptN_new hn e]; simp
theorem cptN_mem : ∀ n, n ≤ L.length → ∀ x, x ∈ cptN L n ↔ x ∈ L.take n
  | 0, _, x => by simp [cptN]
  | 1, _, x => by simp [cptN]
  | n + 2, hn, x => by
    have ih := cptN_mem (n + 1) (by omega) x
    rw [List.take_succ_eq_append_getElem (by omega : n + 1 < L.length), List.mem_append, List.mem_singleton, ← ih]
    by_cases e : L[n + 1] = L[n]
    · rw [cptN_same (by omega) e]
      constructor
      · exact .inl
      · rintro (h | h)
        · exact h
        · rw [h, e]
          exact List.mem_of_getLast? (cptN_last n (by omega))
    · rw [cptN_new (by omega) e, List.mem_append, List.mem_singleton]
/-- of a row in order: each once -/
theorem cptN_sorted {R : α → α → Prop} (tri : ∀ a b, R a b ∨ a = b ∨ R b a) (tr : ∀ a b c, R a b → R b c → R a c) (hs : L.Pairwise fun a b => ¬ R b a) : ∀ n, n ≤ L.length → (cptN L n).Pairwise R
  | 0, _ => List.Pairwise.nil
  | 1, _ => by
    show (L.take 1).Pairwise R
    cases L <;> simp
  | n + 2, hn => by
    have ih := cptN_sorted tri tr hs (n + 1) (by omega)
    by_cases e : L[n + 1] = L[n]
    · rw [cptN_same (by omega) e]; exact ih
    · rw [cptN_new (by omega) e]
      have hlt : R L[n] L[n + 1] := by
        rcases tri L[n] L[n + 1] with g | g | g
        · exact g
        · exact absurd g.symm e
        · exact absurd g (List.pairwise_iff_getElem.1 hs n (n + 1) (by omega) (by omega) (by omega))
      refine List.pairwise_append.2 ⟨ih, List.pairwise_singleton _ _, fun a ha b hb => ?_⟩
      rw [List.mem_singleton] at hb
      subst hb
      have hm := (cptN_mem (n + 1) (by omega) a).1 ha
      rw [List.mem_take_iff_getElem] at hm
      obtain ⟨i, hi, rfl⟩ := hm
      by_cases hin : i = n
      · subst hin; exact hlt
      · have h1 := List.pairwise_iff_getElem.1 hs i n (by omega) (by omega) (by omega)
        rcases tri L[i] L[n] with g | g | g
        · exact tr _ _ _ g hlt
        · rw [g]; exact hlt
        · exact absurd g h1
theorem cptL_mem (x : α) : x ∈ cptL L ↔ x ∈ L := by
  unfold cptL
  rw [cptN_mem _ (Nat.le_refl _), List.take_length]
end

end Go.Proofs.YtpnbibokddhheaaGreat
