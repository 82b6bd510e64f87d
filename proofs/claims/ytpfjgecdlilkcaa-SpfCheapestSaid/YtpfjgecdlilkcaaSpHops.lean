/-
  Layer 21 in plain words: a hop into hops in order; a row in order, each once.
-/
import Derived.Test.YtpfjgecdlilkcaaSpTree
namespace Go.Proofs.Ytpfjgecdlilkcaa

/-- one more, where it belongs -/
def insHp (h : Hp) : List Hp → List Hp
  | [] => [h]
  | a :: l => if h.lan < a.lan ∨ (h.lan = a.lan ∧ h.id < a.id) then h :: a :: l else a :: insHp h l
def addHp (h : Hp) (L : List Hp) : List Hp := if h ∈ L then L else insHp h L
theorem mem_ins {h x : Hp} : ∀ {L : List Hp}, x ∈ insHp h L ↔ x = h ∨ x ∈ L
  | [] => by simp [insHp]
  | a :: l => by
    unfold insHp
    split
    · simp
    · rw [List.mem_cons, mem_ins (L := l), List.mem_cons]
      constructor
      · rintro (h | h | h)
        · exact .inr (.inl h)
        · exact .inl h
        · exact .inr (.inr h)
      · rintro (h | h | h)
        · exact .inr (.inl h)
        · exact .inl h
        · exact .inr (.inr h)
theorem ins_sorted {h : Hp} : ∀ {L : List Hp}, L.Pairwise ltH → h ∉ L → (insHp h L).Pairwise ltH
  | [], _, _ => List.pairwise_singleton _ _
  | a :: l, hs, hn => by
    obtain ⟨h1, h2⟩ := List.pairwise_cons.1 hs
    unfold insHp
    split
    · rename_i hlt
      refine List.pairwise_cons.2 ⟨fun x hx => ?_, hs⟩
      rcases List.mem_cons.1 hx with rfl | hx
      · exact hlt
      · exact ltH_trans hlt (h1 x hx)
    · rename_i hlt
      refine List.pairwise_cons.2 ⟨fun x hx => ?_, ins_sorted h2 (fun hm => hn (List.mem_cons_of_mem _ hm))⟩
      rcases mem_ins.1 hx with rfl | hx
      · rcases ltH_tri a x with g | g | g
        · exact g
        · exact absurd (g ▸ List.mem_cons_self) hn
        · exact absurd g hlt
      · exact h1 x hx
theorem mem_add {h x : Hp} {L : List Hp} : x ∈ addHp h L ↔ x = h ∨ x ∈ L := by
  unfold addHp
  split
  · rename_i hm
    constructor
    · exact .inr
    · rintro (rfl | h)
      · exact hm
      · exact h
  · exact mem_ins
theorem add_sorted {h : Hp} {L : List Hp} (hs : L.Pairwise ltH) : (addHp h L).Pairwise ltH := by
  unfold addHp
  split
  · exact hs
  · rename_i hm
    exact ins_sorted hs hm
theorem ins_len (h : Hp) : ∀ L : List Hp, (insHp h L).length = L.length + 1
  | [] => rfl
  | a :: l => by
    unfold insHp
    split
    · simp
    · rw [List.length_cons, ins_len h l, List.length_cons]
theorem ins_none {h : Hp} : ∀ {L : List Hp}, (∀ p ∈ L, ¬ ltH h p) → insHp h L = L ++ [h]
  | [], _ => rfl
  | a :: l, hn => by
    unfold insHp
    rw [if_neg (show ¬ (h.lan < a.lan ∨ (h.lan = a.lan ∧ h.id < a.id)) from hn a List.mem_cons_self), ins_none (fun p hp => hn p (List.mem_cons_of_mem _ hp))]
    rfl
theorem ins_app {h : Hp} {M : List Hp} : ∀ {L : List Hp}, (∀ p ∈ L, ¬ ltH h p) → insHp h (L ++ M) = L ++ insHp h M
  | [], _ => rfl
  | a :: l, hn => by
    rw [List.cons_append]
    conv => lhs; unfold insHp
    rw [if_neg (show ¬ (h.lan < a.lan ∨ (h.lan = a.lan ∧ h.id < a.id)) from hn a List.mem_cons_self), ins_app (fun p hp => hn p (List.mem_cons_of_mem _ hp))]
    rfl
theorem ins_done {h : Hp} {M : List Hp} : ∀ {L : List Hp}, (∃ p ∈ L, ltH h p) → insHp h (L ++ M) = insHp h L ++ M
  | [], hn => by obtain ⟨p, hp, -⟩ := hn; cases hp
  | a :: l, hn => by
    rw [List.cons_append]
    unfold insHp
    by_cases ha : h.lan < a.lan ∨ (h.lan = a.lan ∧ h.id < a.id)
    · rw [if_pos ha, if_pos ha]; rfl
    · rw [if_neg ha, if_neg ha, List.cons_append]
      obtain ⟨p, hp, hl⟩ := hn
      rcases List.mem_cons.1 hp with rfl | hp
      · exact absurd hl ha
      · rw [ins_done ⟨p, hp, hl⟩]

/-- the first n of a row, but those that are like the one ahead -/
def cptN {α : Type} [DecidableEq α] (L : List α) : Nat → List α
  | 0 => []
  | 1 => L.take 1
  | n + 2 => if L[n + 1]? = L[n]? then cptN L (n + 1) else cptN L (n + 1) ++ (L[n + 1]?).toList
def cptL {α : Type} [DecidableEq α] (L : List α) : List α := cptN L L.length
section
variable {α : Type} [DecidableEq α] {L : List α}
theorem cptN_len : ∀ n, (cptN L n).length ≤ n
  | 0 => Nat.le_refl _
  | 1 => by show (L.take 1).length ≤ 1; rw [List.length_take]; omega
  | n + 2 => by
    have ih := cptN_len (n + 1)
    unfold cptN
    split
    · omega
    · rw [List.length_append]
      have : (L[n + 1]?).toList.length ≤ 1 := by cases L[n + 1]? <;> simp
      omega
theorem cptN_pos (h0 : 0 < L.length) : ∀ n, 0 < n → 0 < (cptN L n).length
  | 0, h => absurd h (by omega)
  | 1, _ => by show 0 < (L.take 1).length; rw [List.length_take]; omega
  | n + 2, _ => by
    have ih := cptN_pos h0 (n + 1) (by omega)
    unfold cptN
    split
    · exact ih
    · rw [List.length_append]; omega
theorem cptN_same {n : Nat} (h : n + 1 < L.length) (e : L[n + 1] = L[n]) : cptN L (n + 2) = cptN L (n + 1) := by
  conv => lhs; unfold cptN
  rw [if_pos (by rw [List.getElem?_eq_getElem h, List.getElem?_eq_getElem (by omega), e])]
theorem cptN_new {n : Nat} (h : n + 1 < L.length) (e : L[n + 1] ≠ L[n]) : cptN L (n + 2) = cptN L (n + 1) ++ [L[n + 1]] := by
  conv => lhs; unfold cptN
  rw [if_neg (by rw [List.getElem?_eq_getElem h, List.getElem?_eq_getElem (by omega)]; intro e'; injection e' with e'; exact e e'), List.getElem?_eq_getElem h]
  rfl
theorem cptN_take : ∀ n, n ≤ L.length → (∀ i (h : i + 1 < n) (hn : n ≤ L.length), L[i + 1]'(by omega) ≠ L[i]'(by omega)) → cptN L n = L.take n
  | 0, _, _ => rfl
  | 1, _, _ => rfl
  | n + 2, hn, h => by
    rw [cptN_new (by omega) (h n (by omega) hn), cptN_take (n + 1) (by omega) (fun i hi _ => h i (by omega) hn)]
    exact (List.take_succ_eq_append_getElem (by omega)).symm
/-- the last of them is the last one -/
theorem cptN_last : ∀ n (hn : n < L.length), (cptN L (n + 1)).getLast? = some L[n]
  | 0, hn => by
    show (L.take 1).getLast? = _
    cases L with
    | nil => simp at hn
    | cons a l => simp
  | n + 1, hn => by
    by_cases e : L[n + 1] = L[n]
    · rw [cptN_same hn e, cptN_last n (by omega), e]
    · rw [cptN_new hn e]; simp
theorem cptN_mem : ∀ n, n ≤ L.length → ∀ x, x ∈ cptN L n ↔ x ∈ L.take n
  | 0, _, x => by simp [cptN]
  | 1, _, x => by simp [cptN]
  | n + 2, hn, x => by
    have ih := cptN_mem (n + 1) (by omega) x
    rw [List.take_succ_eq_append_getElem (by omega : n + 1 < L.length), List.mem_append, List.mem_singleton, ← ih]
    by_cases e : L[n + 1] = L[n]
    · rw [cptN_same (by omega) e]
      constructor
      · exact .inl
      · rintro (h | h)
        · exact h
        · rw [h, e]
          exact List.mem_of_getLast? (cptN_last n (by omega))
    · rw [cptN_new (by omega) e, List.mem_append, List.mem_singleton]
/-- of a row in order: each once -/
theorem cptN_sorted {R : α → α → Prop} (tri : ∀ a b, R a b ∨ a = b ∨ R b a) (tr : ∀ a b c, R a b → R b c → R a c) (hs : L.Pairwise fun a b => ¬ R b a) : ∀ n, n ≤ L.length → (cptN L n).Pairwise R
  | 0, _ => List.Pairwise.nil
  | 1, _ => by
    show (L.take 1).Pairwise R
    cases L <;> simp
  | n + 2, hn => by
    have ih := cptN_sorted tri tr hs (n + 1) (by omega)
    by_cases e : L[n + 1] = L[n]
    · rw [cptN_same (by omega) e]; exact ih
    · rw [cptN_new (by omega) e]
      have hlt : R L[n] L[n + 1] := by
        rcases tri L[n] L[n + 1] with g | g | g
        · exact g
        · exact absurd g.symm e
        · exact absurd g (List.pairwise_iff_getElem.1 hs n (n + 1) (by omega) (by omega) (by omega))
      refine List.pairwise_append.2 ⟨ih, List.pairwise_singleton _ _, fun a ha b hb => ?_⟩
      rw [List.mem_singleton] at hb
      subst hb
      have hm := (cptN_mem (n + 1) (by omega) a).1 ha
      rw [List.mem_take_iff_getElem] at hm
      obtain ⟨i, hi, rfl⟩ := hm
      by_cases hin : i = n
      · subst hin; exact hlt
      · have h1 := List.pairwise_iff_getElem.1 hs i n (by omega) (by omega) (by omega)
        rcases tri L[i] L[n] with g | g | g
        · exact tr _ _ _ g hlt
        · rw [g]; exact hlt
        · exact absurd g h1
theorem cptL_mem (x : α) : x ∈ cptL L ↔ x ∈ L := by
  unfold cptL
  rw [cptN_mem _ (Nat.le_refl _), List.take_length]
end
/-- hops of both, sorted, each once -/
theorem join_cpt {A B M : List Hp} (hp : ∀ x, x ∈ M ↔ x ∈ A ∨ x ∈ B) (hs : M.Pairwise fun a b => ¬ ltH b a) : JoinH A B (cptL M) :=
  ⟨cptN_sorted ltH_tri (fun _ _ _ => ltH_trans) hs _ (Nat.le_refl _), fun h => by rw [cptL_mem, hp]⟩

/-- all that might be, in order -/
def ordV : List Vx := (List.range 64).map (fun i : Nat => ⟨1, (i : Int)⟩) ++ (List.range 64).map (fun i : Nat => ⟨2, (i : Int)⟩)
theorem ordV_sorted : ordV.Pairwise ltX := by
  unfold ordV
  have hp : ∀ k : Int, ((List.range 64).map fun i : Nat => (⟨k, (i : Int)⟩ : Vx)).Pairwise ltX := by
    intro k
    rw [List.pairwise_map]
    refine List.pairwise_lt_range.imp ?_
    intro a b h
    right
    exact ⟨rfl, by simp only; omega⟩
  refine List.pairwise_append.2 ⟨hp 1, hp 2, ?_⟩
  intro a ha b hb
  obtain ⟨i, -, rfl⟩ := List.mem_map.1 ha
  obtain ⟨j, -, rfl⟩ := List.mem_map.1 hb
  left
  show (1 : Int) < 2
  decide
theorem ordV_mem {v : Vx} (h : mayV v = true) : v ∈ ordV := by
  obtain ⟨k, i⟩ := v
  unfold ordV
  rw [List.mem_append, List.mem_map, List.mem_map]
  rcases mayV_iff.1 h with ⟨h1, h2, h3⟩ | ⟨h1, h2, h3⟩
  · simp only at h1 h2 h3
    exact .inl ⟨i.toNat, by rw [List.mem_range]; omega, by rw [h1, Int.toNat_of_nonneg (by omega)]⟩
  · simp only at h1 h2 h3
    exact .inr ⟨i.toNat, by rw [List.mem_range]; omega, by rw [h1, Int.toNat_of_nonneg (by omega)]⟩
def nodeO (T : Vx → Option (Val2 × List Hp)) (v : Vx) : List Nk := match T v with
  | some x => [⟨v, x.1, x.2⟩]
  | none => []
def nodesO (T : Vx → Option (Val2 × List Hp)) (L : List Vx) : List Nk := L.flatMap (nodeO T)
theorem mem_nodeO {T : Vx → Option (Val2 × List Hp)} {v : Vx} {n : Nk} : n ∈ nodeO T v ↔ n.v = v ∧ T v = some (n.a, n.next) := by
  unfold nodeO
  cases h : T v with
  | none => simp
  | some x =>
    obtain ⟨a, l⟩ := x
    simp only [List.mem_singleton, Option.some.injEq, Prod.mk.injEq]
    constructor
    · rintro rfl; exact ⟨rfl, rfl, rfl⟩
    · rintro ⟨rfl, rfl, rfl⟩; rfl
theorem mem_nodesO {T : Vx → Option (Val2 × List Hp)} {L : List Vx} {n : Nk} : n ∈ nodesO T L ↔ n.v ∈ L ∧ T n.v = some (n.a, n.next) := by
  unfold nodesO
  rw [List.mem_flatMap]
  constructor
  · rintro ⟨v, hv, hn⟩
    obtain ⟨rfl, h⟩ := mem_nodeO.1 hn
    exact ⟨hv, h⟩
  · rintro ⟨hv, h⟩
    exact ⟨_, hv, mem_nodeO.2 ⟨rfl, h⟩⟩
theorem nodesO_sorted {T : Vx → Option (Val2 × List Hp)} : ∀ {L : List Vx}, L.Pairwise ltX → (nodesO T L).Pairwise fun x y => ltX x.v y.v
  | [], _ => List.Pairwise.nil
  | v :: L, h => by
    obtain ⟨h1, h2⟩ := List.pairwise_cons.1 h
    have ih := nodesO_sorted (T := T) h2
    show (nodeO T v ++ nodesO T L).Pairwise _
    refine List.pairwise_append.2 ⟨?_, ih, fun a ha b hb => ?_⟩
    · unfold nodeO
      cases T v <;> simp
    · obtain ⟨rfl, -⟩ := mem_nodeO.1 ha
      exact h1 _ (mem_nodesO.1 hb).1
/-- what the document lists is the tree -/
theorem tree_of_ord {E : List Ed} {r : Vx} {DD : Vx → Vx → Option Val2} {T : Vx → Option (Val2 × List Hp)} (hD : Dists E DD) (hm : mayV r = true) (h1 : ∀ v, (T v).map (·.1) = DD r v) (h2 : ∀ v a n, T v = some (a, n) → n.Pairwise ltH ∧ ∀ h, h ∈ n ↔ isHop E DD r v h) : TreeIs E DD r (nodesO T ordV) where
  sorted := nodesO_sorted ordV_sorted
  has := fun v a ha => by
    have := (hD r).may hm v a ha
    rw [← h1] at ha
    obtain ⟨x, hx, -⟩ := Option.map_eq_some_iff.1 ha
    exact ⟨⟨v, x.1, x.2⟩, mem_nodesO.2 ⟨ordV_mem this, hx⟩, rfl⟩
  val := fun n hn => by
    rw [← h1, (mem_nodesO.1 hn).2]
    rfl
  next := fun n hn => h2 _ _ _ (mem_nodesO.1 hn).2

end Go.Proofs.Ytpfjgecdlilkcaa
