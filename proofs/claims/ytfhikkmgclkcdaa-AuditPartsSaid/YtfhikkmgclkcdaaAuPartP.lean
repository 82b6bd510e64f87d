/-
  Layer 27 in plain Lean: parts by labels, and parts by going on, are the same.
-/
import Derived.Test.YtfhikkmgclkcdaaAuCands
import Derived.Test.YtfhikkmgclkcdaaAuLeads
namespace Go.Proofs.Ytfhikkmgclkcdaa

section
variable (on : Nat → List Nat) (lead : Nat → Bool)
/-- two are joined by one of the first n networks -/
def Jn (n : Nat) (a b : Nat) : Prop := ∃ lan, lan < n ∧ lead lan = true ∧ a ∈ on lan ∧ b ∈ on lan
def ClosedJ (n : Nat) (T : Nat → Prop) : Prop := ∀ a b, Jn on lead n a b → T a → T b
end
def unionF (f : Nat → Nat) (p q : Nat) : Nat → Nat := fun k => if f k = max (f p) (f q) then min (f p) (f q) else f k
structure InvF (on : Nat → List Nat) (lead : Nat → Bool) (f : Nat → Nat) : Prop where
  le : ∀ k, f k ≤ k
  idem : ∀ k, f (f k) = f k
  cross : ∀ T, ClosedJ on lead 4 T → ∀ a b, f a = f b → T a → T b
section
variable {on : Nat → List Nat} {lead : Nat → Bool} {f : Nat → Nat}
theorem Jn.symm {n a b : Nat} (h : Jn on lead n a b) : Jn on lead n b a := by
  obtain ⟨lan, h1, h2, h3, h4⟩ := h
  exact ⟨lan, h1, h2, h4, h3⟩
theorem inv_id : InvF on lead id := ⟨fun _ => Nat.le_refl _, fun _ => rfl, fun T _ a b e h => by have : a = b := e; rwa [← this]⟩
theorem union_same {p q a b : Nat} (h : f a = f b) : unionF f p q a = unionF f p q b := by unfold unionF; rw [h]
theorem union_join (p q : Nat) : unionF f p q p = unionF f p q q := by
  unfold unionF
  by_cases h : f p ≤ f q
  · rw [Nat.max_eq_right h, Nat.min_eq_left h]
    by_cases e : f p = f q
    · rw [e]
    · rw [if_neg e, if_pos rfl]
  · have h' : f q ≤ f p := by omega
    rw [Nat.max_eq_left h', Nat.min_eq_right h', if_pos rfl, if_neg (by omega)]
theorem inv_union (h : InvF on lead f) {p q : Nat} (hj : Jn on lead 4 p q) : InvF on lead (unionF f p q) where
  le k := by
    unfold unionF
    have := h.le k
    split
    · rename_i e; omega
    · exact this
  idem k := by
    have hp := h.idem p
    have hq := h.idem q
    have hk := h.idem k
    unfold unionF
    by_cases e : f k = max (f p) (f q)
    · simp only [if_pos e]
      rcases Nat.le_total (f p) (f q) with hle | hle
      · rw [Nat.min_eq_left hle, hp, Nat.max_eq_right hle]
        split <;> omega
      · rw [Nat.min_eq_right hle, hq, Nat.max_eq_left hle]
        split <;> omega
    · simp only [if_neg e]
      rw [hk, if_neg e]
  cross T hT a b e hab := by
    have key : ∀ x y, f x = f p → f y = f q → T x → T y := fun x y hx hy ht => h.cross T hT q y hy.symm (hT p q hj (h.cross T hT x p hx ht))
    have key2 : ∀ x y, f x = f q → f y = f p → T x → T y := fun x y hx hy ht => h.cross T hT p y hy.symm (hT q p hj.symm (h.cross T hT x q hx ht))
    unfold unionF at e
    rcases Nat.le_total (f p) (f q) with hle | hle
    · rw [Nat.max_eq_right hle, Nat.min_eq_left hle] at e
      by_cases ha : f a = f q
      · by_cases hb : f b = f q
        · exact h.cross T hT a b (ha.trans hb.symm) hab
        · rw [if_pos ha, if_neg hb] at e
          exact key2 a b ha e.symm hab
      · by_cases hb : f b = f q
        · rw [if_neg ha, if_pos hb] at e
          exact key a b e hb hab
        · rw [if_neg ha, if_neg hb] at e
          exact h.cross T hT a b e hab
    · rw [Nat.max_eq_left hle, Nat.min_eq_right hle] at e
      by_cases ha : f a = f p
      · by_cases hb : f b = f p
        · exact h.cross T hT a b (ha.trans hb.symm) hab
        · rw [if_pos ha, if_neg hb] at e
          exact key a b ha e.symm hab
      · by_cases hb : f b = f p
        · rw [if_neg ha, if_pos hb] at e
          exact key2 a b e hb hab
        · rw [if_neg ha, if_neg hb] at e
          exact h.cross T hT a b e hab
/-- one network's unions: all with the first one -/
def lanF (on : Nat → List Nat) (lead : Nat → Bool) (f : Nat → Nat) (lan : Nat) (k : Nat) : Nat → Nat :=
  if lead lan = true then ((on lan).tail.take k).foldl (fun f id => unionF f ((on lan).headD 0) id) f else f
theorem fold_same {p : Nat} (L : List Nat) {a b : Nat} (h : f a = f b) : (L.foldl (fun f id => unionF f p id) f) a = (L.foldl (fun f id => unionF f p id) f) b := by
  induction L generalizing f with
  | nil => exact h
  | cons x L ih => rw [List.foldl_cons]; exact ih (union_same h)
theorem fold_all {p : Nat} (L : List Nat) : ∀ x ∈ L, (L.foldl (fun f id => unionF f p id) f) p = (L.foldl (fun f id => unionF f p id) f) x := by
  induction L generalizing f with
  | nil => simp
  | cons y L ih =>
    intro x hx
    rw [List.foldl_cons]
    rcases List.mem_cons.1 hx with rfl | hx
    · exact fold_same L (union_join p x)
    · exact ih x hx
theorem fold_inv {p : Nat} (L : List Nat) (h : InvF on lead f) (hL : ∀ x ∈ L, Jn on lead 4 p x) : InvF on lead (L.foldl (fun f id => unionF f p id) f) := by
  induction L generalizing f with
  | nil => exact h
  | cons x L ih =>
    rw [List.foldl_cons]
    exact ih (inv_union h (hL x List.mem_cons_self)) (fun y hy => hL y (List.mem_cons_of_mem _ hy))
/-- the labels behind the first n networks -/
def labF (on : Nat → List Nat) (lead : Nat → Bool) : Nat → Nat → Nat
  | 0 => id
  | n + 1 => lanF on lead (labF on lead n) n (on n).tail.length
theorem lanF_same {lan k a b : Nat} (h : f a = f b) : lanF on lead f lan k a = lanF on lead f lan k b := by
  unfold lanF
  split
  · exact fold_same _ h
  · exact h
theorem lanF_all {lan : Nat} (hl : lead lan = true) {a b : Nat} (ha : a ∈ on lan) (hb : b ∈ on lan) : lanF on lead f lan (on lan).tail.length a = lanF on lead f lan (on lan).tail.length b := by
  unfold lanF
  rw [if_pos hl, List.take_length]
  rcases ho : on lan with _ | ⟨p, L⟩
  · rw [ho] at ha; cases ha
  · rw [ho] at ha hb
    simp only [List.tail_cons, List.headD_cons]
    have key : ∀ x ∈ p :: L, (L.foldl (fun f id => unionF f p id) f) p = (L.foldl (fun f id => unionF f p id) f) x := by
      intro x hx
      rcases List.mem_cons.1 hx with rfl | hx
      · rfl
      · exact fold_all L x hx
    rw [← key a ha, key b hb]
theorem lanF_inv {lan k : Nat} (hlan : lan < 4) (h : InvF on lead f) : InvF on lead (lanF on lead f lan k) := by
  unfold lanF
  split
  · rename_i hl
    rcases ho : on lan with _ | ⟨p, L⟩
    · simpa using h
    · refine fold_inv _ h fun x hx => ?_
      have hx' : x ∈ L := List.mem_of_mem_take hx
      exact ⟨lan, hlan, hl, by rw [ho]; exact List.mem_cons_self, by rw [ho]; exact List.mem_cons_of_mem _ hx'⟩
  · exact h
theorem lab_inv : ∀ n, n ≤ 4 → InvF on lead (labF on lead n)
  | 0, _ => inv_id
  | n + 1, h => lanF_inv (by omega) (lab_inv n (by omega))
theorem lab_join : ∀ n, ∀ a b, Jn on lead n a b → labF on lead n a = labF on lead n b
  | 0, a, b, ⟨_, h, _⟩ => absurd h (Nat.not_lt_zero _)
  | n + 1, a, b, ⟨lan, h, hl, ha, hb⟩ => by
    rw [labF]
    by_cases e : lan = n
    · subst e; exact lanF_all hl ha hb
    · exact lanF_same (lab_join n a b ⟨lan, by omega, hl, ha, hb⟩)
/-- of the same label are just those that every closed set holds together -/
theorem lab_iff (a b : Nat) : labF on lead 4 a = labF on lead 4 b ↔ ∀ T, ClosedJ on lead 4 T → T a → T b :=
  ⟨fun h T hT ha => (lab_inv 4 (Nat.le_refl _)).cross T hT a b h ha, fun h => (h (fun x => labF on lead 4 x = labF on lead 4 a) (fun x y hj hx => (lab_join 4 x y hj).symm.trans hx) rfl).symm⟩
end

/-! ## going on -/
def setS (s : Nat → Bool) (b : Nat) : Nat → Bool := fun k => if k = b then true else s k
def stepS (j : Nat → Nat → Bool) (a : Nat) (s : Nat → Bool) (b : Nat) : Nat → Bool := if (s a && j a b) = true then setS s b else s
def rowS (j : Nat → Nat → Bool) (ids : List Nat) (s : Nat → Bool) (a : Nat) : Nat → Bool := ids.foldl (stepS j a) s
def roundS (j : Nat → Nat → Bool) (ids : List Nat) (s : Nat → Bool) : Nat → Bool := ids.foldl (rowS j ids) s
def iterS (j : Nat → Nat → Bool) (ids : List Nat) (s : Nat → Bool) : Nat → Nat → Bool
  | 0 => s
  | n + 1 => roundS j ids (iterS j ids s n)
section
variable {j : Nat → Nat → Bool} {ids : List Nat} {s : Nat → Bool}
theorem set_mono {b k : Nat} (h : s k = true) : setS s b k = true := by
  unfold setS
  split
  · rfl
  · exact h
theorem step_mono {a b k : Nat} (h : s k = true) : stepS j a s b k = true := by
  unfold stepS
  split
  · exact set_mono h
  · exact h
theorem row_mono {a k : Nat} (L : List Nat) (h : s k = true) : (L.foldl (stepS j a) s) k = true := by
  induction L generalizing s with
  | nil => exact h
  | cons x L ih => rw [List.foldl_cons]; exact ih (step_mono h)
theorem round_mono {k : Nat} (L : List Nat) (h : s k = true) : (L.foldl (rowS j ids) s) k = true := by
  induction L generalizing s with
  | nil => exact h
  | cons x L ih => rw [List.foldl_cons]; exact ih (row_mono ids h)
theorem row_hit {a b : Nat} (L : List Nat) (hb : b ∈ L) (ha : s a = true) (hj : j a b = true) : (L.foldl (stepS j a) s) b = true := by
  induction L generalizing s with
  | nil => cases hb
  | cons x L ih =>
    rw [List.foldl_cons]
    rcases List.mem_cons.1 hb with rfl | hb
    · refine row_mono L ?_
      unfold stepS
      rw [ha, hj]
      simp [setS]
    · exact ih hb (step_mono ha)
theorem round_hit {a b : Nat} (L : List Nat) (ha' : a ∈ L) (hb : b ∈ ids) (ha : s a = true) (hj : j a b = true) : (L.foldl (rowS j ids) s) b = true := by
  induction L generalizing s with
  | nil => cases ha'
  | cons x L ih =>
    rw [List.foldl_cons]
    rcases List.mem_cons.1 ha' with rfl | ha'
    · exact round_mono L (row_hit ids hb ha hj)
    · exact ih ha' (row_mono ids ha)
theorem step_sound {T : Nat → Prop} (hT : ∀ a b, j a b = true → T a → T b) {a b : Nat} (h : ∀ k, s k = true → T k) : ∀ k, stepS j a s b k = true → T k := by
  intro k hk
  unfold stepS at hk
  split at hk
  · rename_i hc
    simp only [Bool.and_eq_true] at hc
    unfold setS at hk
    split at hk
    · rename_i e; rw [e]; exact hT a b hc.2 (h a hc.1)
    · exact h k hk
  · exact h k hk
theorem row_sound {T : Nat → Prop} (hT : ∀ a b, j a b = true → T a → T b) {a : Nat} (L : List Nat) (h : ∀ k, s k = true → T k) : ∀ k, (L.foldl (stepS j a) s) k = true → T k := by
  induction L generalizing s with
  | nil => exact h
  | cons x L ih => rw [List.foldl_cons]; exact ih (step_sound hT h)
theorem round_sound {T : Nat → Prop} (hT : ∀ a b, j a b = true → T a → T b) (L : List Nat) (h : ∀ k, s k = true → T k) : ∀ k, (L.foldl (rowS j ids) s) k = true → T k := by
  induction L generalizing s with
  | nil => exact h
  | cons x L ih => rw [List.foldl_cons]; exact ih (row_sound hT ids h)
theorem iter_sound {T : Nat → Prop} (hT : ∀ a b, j a b = true → T a → T b) (h : ∀ k, s k = true → T k) : ∀ n k, iterS j ids s n k = true → T k
  | 0, k, hk => h k hk
  | n + 1, k, hk => round_sound hT ids (iter_sound hT h n) k hk
theorem iter_mono {k : Nat} (h : s k = true) : ∀ n, iterS j ids s n k = true
  | 0 => h
  | n + 1 => round_mono ids (iter_mono h n)
theorem count_le {s t : Nat → Bool} (L : List Nat) (h : ∀ k, s k = true → t k = true) : L.countP s ≤ L.countP t := List.countP_mono_left fun k _ hk => h k hk
theorem count_lt {s t : Nat → Bool} {b : Nat} (L : List Nat) (hb : b ∈ L) (h : ∀ k, s k = true → t k = true) (hs : s b = false) (ht : t b = true) : L.countP s < L.countP t := by
  induction L with
  | nil => cases hb
  | cons x L ih =>
    rw [List.countP_cons, List.countP_cons]
    rcases List.mem_cons.1 hb with rfl | hb
    · rw [hs, ht]
      have := count_le L h
      simp only [Bool.false_eq_true, if_false, if_true]
      omega
    · have := ih hb
      have hx : (if s x = true then 1 else 0) ≤ (if t x = true then 1 else 0) := by
        by_cases e : s x = true
        · rw [if_pos e, if_pos (h x e)]; exact Nat.le_refl _
        · rw [if_neg e]; exact Nat.zero_le _
      omega
/-- behind sixteen rounds nothing is missing -/
theorem iter_closed (hids : ∀ x ∈ ids, x < 16) (hj : ∀ a b, j a b = true → a ∈ ids ∧ b ∈ ids) {id : Nat} (hid : id < 16) (hs : s id = true) : ∀ a b, j a b = true → iterS j ids s 16 a = true → iterS j ids s 16 b = true := by
  have key : ∀ n, (∀ a b, j a b = true → iterS j ids s n a = true → iterS j ids s n b = true) ∨ n + 1 ≤ (List.range 16).countP (iterS j ids s n) := by
    intro n
    induction n with
    | zero =>
      refine .inr ?_
      have := count_lt (s := fun _ => false) (t := s) (List.range 16) (List.mem_range.2 hid) (fun k h => by cases h) rfl hs
      simp only [List.countP_false] at this
      exact this
    | succ n ih =>
      by_cases hc : ∀ a b, j a b = true → iterS j ids s n a = true → iterS j ids s n b = true
      · refine .inl fun a b hab ha => ?_
        have hback := round_sound (j := j) (ids := ids) (T := fun k => iterS j ids s n k = true) hc ids (fun k h => h) a ha
        exact round_mono ids (hc a b hab hback)
      · refine .inr ?_
        rcases ih with ih | ih
        · exact absurd ih hc
        · simp only [Classical.not_forall] at hc
          obtain ⟨a, b, hab, ha, hb⟩ := hc
          have hb' : iterS j ids s n b = false := by simpa using hb
          have := count_lt (s := iterS j ids s n) (t := iterS j ids s (n + 1)) (List.range 16) (List.mem_range.2 (hids b (hj a b hab).2)) (fun k h => round_mono ids h) hb' (round_hit ids (hj a b hab).1 (hj a b hab).2 ha hab)
          omega
  rcases key 16 with h | h
  · exact h
  · have := List.countP_le_length (p := iterS j ids s 16) (l := List.range 16)
    rw [List.length_range] at this
    omega
end

end Go.Proofs.Ytfhikkmgclkcdaa
