/-
  Layer 16: what acknowledging the first key of a list does, in plain words.
-/
import Derived.Test.YtfhikkmgclkcdaaRxWakes
namespace Go.Proofs.Ytfhikkmgclkcdaa

def ackR (R : List E5) (lan id : Int) (x : K3) : List E5 := R.filter fun e => decide (e ≠ ⟨lan, id, x⟩)
theorem mem_keysOf {R : List E5} {lan id : Int} {x : K3} : x ∈ keysOf R lan id ↔ (⟨lan, id, x⟩ : E5) ∈ R := by
  unfold keysOf
  simp only [List.mem_map, List.mem_filter, Bool.and_eq_true, beq_iff_eq]
  constructor
  · rintro ⟨⟨a, b, c⟩, ⟨h1, h2, h3⟩, h4⟩
    simp only at h2 h3 h4
    subst h2 h3 h4
    exact h1
  · intro h
    exact ⟨_, ⟨h, rfl, rfl⟩, rfl⟩
theorem mem_listK {R : List E5} {lan id : Int} {x : K3} : x ∈ listK R lan id ↔ (⟨lan, id, x⟩ : E5) ∈ R := by
  unfold listK
  rw [(sortK_perm _).mem_iff, mem_keysOf]
theorem keysOf_nodup {R : List E5} (h : R.Nodup) (lan id : Int) : (keysOf R lan id).Nodup := by
  unfold keysOf
  refine (List.pairwise_map).2 ?_
  refine (h.filter _).imp_of_mem ?_
  intro a b ha hb hab e
  simp only [List.mem_filter, Bool.and_eq_true, beq_iff_eq] at ha hb
  refine hab ?_
  obtain ⟨a1, a2, a3⟩ := a
  obtain ⟨b1, b2, b3⟩ := b
  simp only at ha hb e
  simp [ha, hb, e]
theorem listK_nodup {R : List E5} (h : R.Nodup) (lan id : Int) : (listK R lan id).Nodup := (sortK_perm _).nodup_iff.2 (keysOf_nodup h lan id)
theorem keysOf_ack (R : List E5) (lan id : Int) (x : K3) : keysOf (ackR R lan id x) lan id = (keysOf R lan id).filter fun y => decide (y ≠ x) := by
  unfold keysOf ackR
  rw [List.filter_filter, List.filter_map, List.filter_filter]
  congr 1
  refine List.filter_congr fun e _ => ?_
  obtain ⟨a, b, c⟩ := e
  simp only [Function.comp]
  by_cases h1 : a = lan <;> by_cases h2 : b = id <;> simp [h1, h2]
theorem sortK_filter (L : List K3) (q : K3 → Bool) : sortK (L.filter q) = (sortK L).filter q :=
  sorted_one ((sortK_perm _).trans ((sortK_perm L).filter q).symm) (sortK_sorted _) ((sortK_sorted L).filter q)
theorem listK_ack (R : List E5) (lan id : Int) (x : K3) : listK (ackR R lan id x) lan id = (listK R lan id).filter fun y => decide (y ≠ x) := by
  unfold listK
  rw [keysOf_ack, sortK_filter]
theorem ack_step {R : List E5} {lan id : Int} {x : K3} {T : List K3} (hn : R.Nodup) (hall : ∀ e ∈ R, e.lan = lan ∧ e.id = id) (hL : listK R lan id = x :: T) :
    listK (ackR R lan id x) lan id = T ∧ onB16 R ⟨lan, id, x⟩ = true ∧ hasB16 (ackR R lan id x) x = false ∧ (∀ e ∈ ackR R lan id x, e.lan = lan ∧ e.id = id) := by
  refine ⟨?_, ?_, ?_, fun e he => hall e (List.mem_filter.1 he).1⟩
  · rw [listK_ack, hL]
    have hnd := listK_nodup hn lan id
    rw [hL, List.nodup_cons] at hnd
    rw [List.filter_cons]
    simp only [ne_eq, not_true_eq_false, decide_false, Bool.false_eq_true, if_false]
    exact List.filter_eq_self.2 fun y hy => by simpa using fun e => hnd.1 (by rw [← e]; exact hy)
  · unfold onB16
    rw [decide_eq_true_iff]
    exact mem_listK.1 (by rw [hL]; simp)
  · unfold hasB16
    rw [List.any_eq_false]
    intro e he
    have h1 := List.mem_filter.1 he
    have h2 := hall e h1.1
    simp only [dropB, decide_eq_true_eq]
    intro hk
    have h3 := h1.2
    obtain ⟨a, b, c⟩ := e
    simp only at h2 hk
    simp [h2, hk] at h3
theorem addAll_all (lan id : Int) (ks : List K3) : ∀ (R : List E5), (∀ e ∈ R, e.lan = lan ∧ e.id = id) → ∀ e ∈ addAll R lan id ks, e.lan = lan ∧ e.id = id := by
  induction ks with
  | nil => intro R h; exact h
  | cons k ks ih =>
    intro R h
    refine ih (addR R ⟨lan, id, k⟩) ?_
    intro e he
    unfold addR at he
    split at he
    · exact h e he
    · rcases List.mem_append.1 he with he | he
      · exact h e he
      · rw [List.mem_singleton] at he
        subst he
        exact ⟨rfl, rfl⟩
theorem mem_addAll {lan id : Int} {ks : List K3} {e : E5} : ∀ {R : List E5}, e ∈ addAll R lan id ks ↔ e ∈ R ∨ ∃ k ∈ ks, e = ⟨lan, id, k⟩ := by
  induction ks with
  | nil => intro R; simp [addAll]
  | cons k ks ih =>
    intro R
    have h := ih (R := addR R ⟨lan, id, k⟩)
    simp only [addAll, List.foldl_cons] at h ⊢
    rw [h]
    have h2 : e ∈ addR R ⟨lan, id, k⟩ ↔ e ∈ R ∨ e = ⟨lan, id, k⟩ := by
      unfold addR
      split
      · constructor
        · exact .inl
        · rintro (h | h)
          · exact h
          · subst h; assumption
      · simp
    rw [h2]
    simp only [List.mem_cons]
    constructor
    · rintro ((h | h) | ⟨k', hk, rfl⟩)
      · exact .inl h
      · exact .inr ⟨k, .inl rfl, h⟩
      · exact .inr ⟨k', .inr hk, rfl⟩
    · rintro (h | ⟨k', hk | hk, rfl⟩)
      · exact .inl (.inl h)
      · subst hk; exact .inl (.inr rfl)
      · exact .inr ⟨k', hk, rfl⟩
theorem listK_all_len {R : List E5} {lan id : Int} (h : ∀ e ∈ R, e.lan = lan ∧ e.id = id) : (listK R lan id).length = R.length := by
  unfold listK keysOf
  rw [sortK_len, List.length_map, List.filter_eq_self.2 fun e he => by simp [h e he]]

end Go.Proofs.Ytfhikkmgclkcdaa
