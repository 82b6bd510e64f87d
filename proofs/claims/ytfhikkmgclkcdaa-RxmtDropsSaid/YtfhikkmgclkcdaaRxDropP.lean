/-
  Layer 16: a key that is put on lists, and dropped, in plain words.
-/
import Derived.Test.YtfhikkmgclkcdaaRxOthP
namespace Go.Proofs.Ytfhikkmgclkcdaa

/-- the neighbors on whose list a key was put, each once -/
def addT (T : List (Int × Int)) (x : Int × Int) : List (Int × Int) := if x ∈ T then T else T ++ [x]
def tosK (l : List (Int × Int)) (i : Nat) : List (Int × Int) := (l.take i).foldl addT []
theorem tosK_succ (l : List (Int × Int)) (i : Nat) (hi : i < l.length) : tosK l (i + 1) = addT (tosK l i) l[i] := by
  unfold tosK
  rw [List.take_succ_eq_append_getElem hi, List.foldl_append]
  rfl
theorem mem_addT {T : List (Int × Int)} {x y : Int × Int} : y ∈ addT T x ↔ y ∈ T ∨ y = x := by
  unfold addT
  split
  · constructor
    · exact .inl
    · rintro (h | h)
      · exact h
      · subst h; assumption
  · simp
theorem mem_tosK (l : List (Int × Int)) : ∀ (i : Nat) (y : Int × Int), i ≤ l.length → (y ∈ tosK l i ↔ y ∈ l.take i)
  | 0, y, _ => by simp [tosK]
  | i + 1, y, h => by
    rw [tosK_succ l i h, mem_addT, mem_tosK l i y (by omega), List.take_succ_eq_append_getElem h, List.mem_append, List.mem_singleton]
theorem tosK_len (l : List (Int × Int)) : ∀ i, i ≤ l.length → (tosK l i).length ≤ i
  | 0, _ => by simp [tosK]
  | i + 1, h => by
    rw [tosK_succ l i h]
    have := tosK_len l i (by omega)
    unfold addT
    split
    · omega
    · simp; omega
theorem tosK_nodup (l : List (Int × Int)) : ∀ i, i ≤ l.length → (tosK l i).Nodup
  | 0, _ => by simp [tosK]
  | i + 1, h => by
    rw [tosK_succ l i h]
    have := tosK_nodup l i (by omega)
    unfold addT
    split
    · exact this
    · rename_i hm
      rw [List.nodup_append]
      exact ⟨this, by simp, fun a ha b hb e => by rw [List.mem_singleton] at hb; subst hb; subst e; exact hm ha⟩

/-- just these entries -/
def both (T : List (Int × Int)) (k o : K3) : List E5 := T.flatMap fun t => [⟨t.1, t.2, k⟩, ⟨t.1, t.2, o⟩]
theorem mem_both {T : List (Int × Int)} {k o : K3} {e : E5} : e ∈ both T k o ↔ (e.lan, e.id) ∈ T ∧ (e.k = k ∨ e.k = o) := by
  unfold both
  simp only [List.mem_flatMap, List.mem_cons, List.not_mem_nil, or_false]
  constructor
  · rintro ⟨t, ht, rfl | rfl⟩
    · exact ⟨ht, .inl rfl⟩
    · exact ⟨ht, .inr rfl⟩
  · rintro ⟨h, h2⟩
    refine ⟨_, h, ?_⟩
    obtain ⟨a, b, c⟩ := e
    rcases h2 with h2 | h2 <;> simp only at h2 <;> subst h2
    · exact .inl rfl
    · exact .inr rfl
theorem both_len (T : List (Int × Int)) (k o : K3) : (both T k o).length = 2 * T.length := by
  induction T with
  | nil => rfl
  | cons t T ih =>
    have e : both (t :: T) k o = ⟨t.1, t.2, k⟩ :: ⟨t.1, t.2, o⟩ :: both T k o := rfl
    rw [e, List.length_cons, List.length_cons, ih, List.length_cons]
    omega
theorem both_step (T : List (Int × Int)) (x : Int × Int) {k o : K3} (hne : k ≠ o) : addAll (both T k o) x.1 x.2 [k, o] = both (addT T x) k o := by
  have hk : (⟨x.1, x.2, k⟩ : E5) ∈ both T k o ↔ x ∈ T := by rw [mem_both]; simp
  have ho : (⟨x.1, x.2, o⟩ : E5) ∈ both T k o ↔ x ∈ T := by rw [mem_both]; simp
  unfold addAll
  simp only [List.foldl_cons, List.foldl_nil]
  by_cases h : x ∈ T
  · have h1 : addR (both T k o) ⟨x.1, x.2, k⟩ = both T k o := by unfold addR; rw [if_pos (hk.2 h)]
    rw [h1]
    unfold addR addT
    rw [if_pos (ho.2 h), if_pos h]
  · have h1 : addR (both T k o) ⟨x.1, x.2, k⟩ = both T k o ++ [⟨x.1, x.2, k⟩] := by unfold addR; rw [if_neg (fun h2 => h (hk.1 h2))]
    rw [h1]
    have h2 : (⟨x.1, x.2, o⟩ : E5) ∉ both T k o ++ [⟨x.1, x.2, k⟩] := by
      simp only [List.mem_append, List.mem_singleton, not_or]
      exact ⟨fun h2 => h (ho.1 h2), fun e => by injection e with _ _ e; exact hne e.symm⟩
    unfold addR addT
    rw [if_neg h2, if_neg h]
    simp [both]
theorem both_on (T : List (Int × Int)) (x : Int × Int) (k o : K3) : onB16 (both T k o) ⟨x.1, x.2, k⟩ = decide (x ∈ T) := by
  unfold onB16
  refine decide_eq_decide.2 ?_
  rw [mem_both]; simp
theorem both_has_k (T : List (Int × Int)) (k o : K3) : hasB16 (both T k o) k = decide (0 < T.length) := by
  unfold hasB16
  cases T with
  | nil => simp [both]
  | cons t T => simp [both, dropB]
/-- the entries behind a drop -/
def lone (T : List (Int × Int)) (o : K3) : List E5 := T.map fun t => ⟨t.1, t.2, o⟩
theorem both_drop (T : List (Int × Int)) {k o : K3} (hne : k ≠ o) : ((both T k o).filter (dropB k)).length = T.length ∧ (both T k o).filter (fun x => !dropB k x) = lone T o := by
  induction T with
  | nil => exact ⟨rfl, rfl⟩
  | cons t T ih =>
    have e : both (t :: T) k o = ⟨t.1, t.2, k⟩ :: ⟨t.1, t.2, o⟩ :: both T k o := rfl
    have h1 : dropB k ⟨t.1, t.2, k⟩ = true := by simp [dropB]
    have h2 : dropB k ⟨t.1, t.2, o⟩ = false := by simp [dropB, Ne.symm hne]
    rw [e]
    constructor
    · simp [h1, h2, ih.1]
    · simp only [List.filter_cons, h1, h2, Bool.not_true, Bool.not_false, Bool.false_eq_true, if_false, if_true, ih.2]
      rfl
theorem lone_has (T : List (Int × Int)) (o x : K3) : hasB16 (lone T o) x = (decide (0 < T.length) && decide (o = x)) := by
  unfold hasB16 lone
  cases T with
  | nil => simp
  | cons t T =>
    by_cases h : o = x <;> simp [dropB, h]
theorem lone_drop (T : List (Int × Int)) {k o : K3} (hne : k ≠ o) : (lone T o).filter (dropB k) = [] ∧ (lone T o).filter (fun x => !dropB k x) = lone T o := by
  have h : ∀ e ∈ lone T o, dropB k e = false := by
    intro e he
    obtain ⟨t, _, rfl⟩ := List.mem_map.1 he
    simp [dropB, Ne.symm hne]
  exact ⟨List.filter_eq_nil_iff.2 fun e he => by simp [h e he], List.filter_eq_self.2 fun e he => by simp [h e he]⟩
theorem lone_on (T : List (Int × Int)) (x : Int × Int) (o y : K3) : onB16 (lone T o) ⟨x.1, x.2, y⟩ = (decide (x ∈ T) && decide (o = y)) := by
  unfold onB16 lone
  have : (⟨x.1, x.2, y⟩ : E5) ∈ T.map (fun t => (⟨t.1, t.2, o⟩ : E5)) ↔ x ∈ T ∧ o = y := by
    rw [List.mem_map]
    constructor
    · rintro ⟨t, ht, e⟩
      injection e with e1 e2 e3
      exact ⟨by rw [← Prod.ext e1 e2]; exact ht, e3⟩
    · rintro ⟨h, rfl⟩
      exact ⟨x, h, rfl⟩
  rw [decide_eq_decide.2 this, Bool.decide_and]
theorem lone_list {T : List (Int × Int)} (hn : T.Nodup) {x : Int × Int} (hx : x ∈ T) (o : K3) : (listK (lone T o) x.1 x.2).length = 1 := by
  rw [listK_len2]
  have h : ∀ T : List (Int × Int), T.Nodup → (keysOf (lone T o) x.1 x.2).length = if x ∈ T then 1 else 0 := by
    intro T
    induction T with
    | nil => intro _; rfl
    | cons t T ih =>
      intro hn
      rw [List.nodup_cons] at hn
      have e : keysOf (lone (t :: T) o) x.1 x.2 = if (t.1 == x.1 && t.2 == x.2) = true then o :: keysOf (lone T o) x.1 x.2 else keysOf (lone T o) x.1 x.2 := by
        unfold keysOf lone
        rw [List.map_cons, List.filter_cons]
        split <;> rfl
      rw [e]
      by_cases ht : t = x
      · subst ht
        simp [ih hn.2, hn.1]
      · have : (t.1 == x.1 && t.2 == x.2) = false := by
          rw [Bool.eq_false_iff]; simp only [ne_eq, Bool.and_eq_true, beq_iff_eq]
          exact fun ⟨h1, h2⟩ => ht (Prod.ext h1 h2)
        rw [this]
        simp only [Bool.false_eq_true, if_false, ih hn.2, List.mem_cons, Ne.symm ht, false_or]
  rw [h T hn, if_pos hx]

end Go.Proofs.Ytfhikkmgclkcdaa
