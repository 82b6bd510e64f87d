/-
  Layer 16: lists of two neighbors, in plain words.
-/
import Derived.Test.YtfhikkmgclkcdaaRxRoundsP
namespace Go.Proofs.Ytfhikkmgclkcdaa

def addK (L : List K3) (k : K3) : List K3 := if k ∈ L then L else L ++ [k]
def addKs (L : List K3) (ks : List K3) : List K3 := ks.foldl addK L
theorem keysOf_addR (R : List E5) (lan id : Int) (k : K3) : keysOf (addR R ⟨lan, id, k⟩) lan id = addK (keysOf R lan id) k := by
  unfold addR addK
  by_cases h : (⟨lan, id, k⟩ : E5) ∈ R
  · rw [if_pos h, if_pos (mem_keysOf.2 h)]
  · rw [if_neg h, if_neg (fun h2 => h (mem_keysOf.1 h2)), keys_snoc]
    simp [hereB]
theorem keysOf_addR_other (R : List E5) (e : E5) {lan id : Int} (h : hereB lan id e = false) : keysOf (addR R e) lan id = keysOf R lan id := by
  unfold addR
  split
  · rfl
  · rw [keys_snoc, h]; simp
theorem keysOf_addAll (R : List E5) (lan id : Int) (ks : List K3) : keysOf (addAll R lan id ks) lan id = addKs (keysOf R lan id) ks := by
  induction ks generalizing R with
  | nil => rfl
  | cons k ks ih =>
    have := ih (addR R ⟨lan, id, k⟩)
    rw [keysOf_addR] at this
    exact this
theorem keysOf_addAll_other {lan id a b : Int} (h : ¬(a = lan ∧ b = id)) (ks : List K3) : ∀ (R : List E5), keysOf (addAll R lan id ks) a b = keysOf R a b := by
  induction ks with
  | nil => intro R; rfl
  | cons k ks ih =>
    intro R
    refine (ih (addR R ⟨lan, id, k⟩)).trans (keysOf_addR_other R _ ?_)
    unfold hereB
    rw [Bool.eq_false_iff]
    simp only [ne_eq, Bool.and_eq_true, beq_iff_eq]
    exact fun ⟨h1, h2⟩ => h ⟨h1.symm, h2.symm⟩
theorem mem_addKs {ks : List K3} {x : K3} : ∀ {L : List K3}, x ∈ addKs L ks ↔ x ∈ L ∨ x ∈ ks := by
  induction ks with
  | nil => intro L; simp [addKs]
  | cons k ks ih =>
    intro L
    refine (ih (L := addK L k)).trans ?_
    have : x ∈ addK L k ↔ x ∈ L ∨ x = k := by
      unfold addK
      split
      · constructor
        · exact .inl
        · rintro (h | h)
          · exact h
          · subst h; assumption
      · simp
    rw [this, List.mem_cons, or_assoc]
theorem addKs_len (ks : List K3) : ∀ L : List K3, (addKs L ks).length ≤ L.length + ks.length := by
  induction ks with
  | nil => intro L; exact Nat.le_refl _
  | cons k ks ih =>
    intro L
    have h1 := ih (addK L k)
    have h2 : (addK L k).length ≤ L.length + 1 := by unfold addK; split <;> simp
    simp only [addKs, List.foldl_cons, List.length_cons] at h1 ⊢
    omega
theorem listK_len2 (R : List E5) (lan id : Int) : (listK R lan id).length = (keysOf R lan id).length := by
  unfold listK; rw [sortK_len]
theorem here_len (R : List E5) (lan id : Int) : (R.filter (hereB lan id)).length = (keysOf R lan id).length := by
  unfold keysOf; rw [List.length_map]; rfl
theorem keysOf_ack_other {R : List E5} {lan id a b : Int} (h : ¬(a = lan ∧ b = id)) (x : K3) : keysOf (ackR R lan id x) a b = keysOf R a b := by
  unfold keysOf ackR
  rw [List.filter_filter]
  congr 1
  refine List.filter_congr fun e _ => ?_
  obtain ⟨c, d, k⟩ := e
  by_cases h1 : c = a
  · by_cases h2 : d = b
    · subst h1 h2
      have : (⟨c, d, k⟩ : E5) ≠ ⟨lan, id, x⟩ := fun e => by injection e with e1 e2; exact h ⟨e1, e2⟩
      simp [this]
    · simp [h2]
  · simp [h1]
theorem keysOf_forget (R : List E5) (lan id : Int) : keysOf (R.filter fun x => !hereB lan id x) lan id = [] := by
  unfold keysOf
  rw [List.filter_filter]
  have : (R.filter fun e => (e.lan == lan && e.id == id) && !hereB lan id e) = [] := by
    rw [List.filter_eq_nil_iff]
    intro e _
    unfold hereB
    cases (e.lan == lan && e.id == id) <;> simp
  rw [this]; rfl
theorem keysOf_forget_other {R : List E5} {lan id a b : Int} (h : ¬(a = lan ∧ b = id)) : keysOf (R.filter fun x => !hereB lan id x) a b = keysOf R a b := by
  unfold keysOf
  rw [List.filter_filter]
  congr 1
  refine List.filter_congr fun e _ => ?_
  obtain ⟨c, d, k⟩ := e
  unfold hereB
  by_cases h1 : c = a
  · by_cases h2 : d = b
    · subst h1 h2
      have : (c == lan && d == id) = false := by
        rw [Bool.eq_false_iff]; simp only [ne_eq, Bool.and_eq_true, beq_iff_eq]; exact h
      simp [this]
    · simp [h2]
  · simp [h1]

/-- what holds of two neighbors' lists behind i keys acknowledged by the first one -/
structure Oth (t0 t1 o0 o1 : Int) (ks : List K3) (i : Nat) (R : List E5) : Prop where
  other : keysOf R o0 o1 = addKs [] ks
  to : ∀ k ∈ keysOf R t0 t1, k ∈ ks ∧ k ∉ ks.take i
  len : R.length ≤ 120
section
variable {t0 t1 o0 o1 : Int} {ks : List K3} {R : List E5}
theorem oth_start (hne : ¬(o0 = t0 ∧ o1 = t1)) (h60 : ks.length ≤ 60) : Oth t0 t1 o0 o1 ks 0 (addAll (addAll [] t0 t1 ks) o0 o1 ks) := by
  have hne' : ¬(t0 = o0 ∧ t1 = o1) := fun ⟨a, b⟩ => hne ⟨a.symm, b.symm⟩
  refine ⟨?_, ?_, ?_⟩
  · rw [keysOf_addAll, keysOf_addAll_other hne]; rfl
  · intro k hk
    rw [keysOf_addAll_other hne', keysOf_addAll] at hk
    refine ⟨?_, by simp⟩
    have := mem_addKs.1 hk
    simpa [keysOf] using this
  · have h1 := addAll_len (addAll [] t0 t1 ks) o0 o1 ks
    have h2 := addAll_len [] t0 t1 ks
    simp at h2
    omega
theorem oth_step {i : Nat} (hne : ¬(o0 = t0 ∧ o1 = t1)) (h : Oth t0 t1 o0 o1 ks i R) (hi : i < ks.length) :
    Oth t0 t1 o0 o1 ks (i + 1) (ackR R t0 t1 ks[i]) ∧ onB16 (ackR R t0 t1 ks[i]) ⟨t0, t1, ks[i]⟩ = false ∧ onB16 (ackR R t0 t1 ks[i]) ⟨o0, o1, ks[i]⟩ = true := by
  refine ⟨⟨?_, ?_, ?_⟩, ?_, ?_⟩
  · rw [keysOf_ack_other hne, h.other]
  · intro k hk
    rw [keysOf_ack] at hk
    have h1 := List.mem_filter.1 hk
    have h2 := h.to k h1.1
    refine ⟨h2.1, ?_⟩
    rw [List.take_succ_eq_append_getElem hi]
    simp only [List.mem_append, List.mem_singleton, not_or]
    exact ⟨h2.2, by simpa using h1.2⟩
  · exact Nat.le_trans (List.length_filter_le _ _) h.len
  · unfold onB16 ackR
    simp
  · unfold onB16
    rw [decide_eq_true_iff, ← mem_keysOf, keysOf_ack_other hne, h.other]
    exact mem_addKs.2 (.inr (List.getElem_mem hi))
theorem oth_end (hne : ¬(o0 = t0 ∧ o1 = t1)) (h60 : ks.length ≤ 60) (h : Oth t0 t1 o0 o1 ks ks.length R) :
    ((addAll R t0 t1 ks).filter (hereB t0 t1)).length = (addKs [] ks).length ∧ (listK ((addAll R t0 t1 ks).filter fun x => !hereB t0 t1 x) t0 t1).length = 0 ∧
      (listK ((addAll R t0 t1 ks).filter fun x => !hereB t0 t1 x) o0 o1).length = (addKs [] ks).length ∧ (addAll R t0 t1 ks).length ≤ 2 ^ 20 := by
  have hnil : keysOf R t0 t1 = [] := by
    rw [List.eq_nil_iff_forall_not_mem]
    intro k hk
    have := h.to k hk
    rw [List.take_length] at this
    exact this.2 this.1
  refine ⟨?_, ?_, ?_, ?_⟩
  · rw [here_len, keysOf_addAll, hnil]
  · rw [listK_len2, keysOf_forget]; rfl
  · rw [listK_len2, keysOf_forget_other hne, keysOf_addAll_other hne, h.other]
  · have := addAll_len R t0 t1 ks
    have := h.len
    omega
end

end Go.Proofs.Ytfhikkmgclkcdaa
