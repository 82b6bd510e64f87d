/-
  Layer 20 in plain words: the maps of costs, and what is laid out of them.
-/
import Derived.Test.YtpfjgecdlilkcaaGrPlain
import Derived.Test.YtpfjgecdlilkcaaGrKeys
namespace Go.Proofs.Ytpfjgecdlilkcaa

def intL {κ : Type} (M : List (κ × Int)) : List (κ × Value) := M.map fun e => (e.1, Value.int .i64 e.2)
def setI {κ : Type} [DecidableEq κ] (k : κ) (v : Int) : List (κ × Int) → List (κ × Int)
  | [] => [(k, v)]
  | e :: M => if e.1 = k then (k, v) :: M else e :: setI k v M
theorem intL_split {κ : Type} {R : List (κ × Int)} {pre post : List (κ × Value)} {e : κ × Value} (h : intL R = pre ++ e :: post) : ∃ P x Q, R = P ++ x :: Q ∧ pre = intL P ∧ post = intL Q ∧ e = (x.1, .int .i64 x.2) := by
  unfold intL at h
  obtain ⟨P, q, rfl, h1, h2⟩ := List.map_eq_append_iff.1 h
  obtain ⟨h', Q, rfl, h3, h4⟩ := List.map_eq_cons_iff.1 h2
  exact ⟨P, h', Q, rfl, h1.symm, h4.symm, h3.symm⟩
theorem intL_append {κ : Type} (P Q : List (κ × Int)) : intL P ++ intL Q = intL (P ++ Q) := by simp [intL]
theorem intL_keys {κ : Type} (M : List (κ × Int)) : (intL M).map (·.1) = M.map (·.1) := by unfold intL; rw [List.map_map]; rfl
section
variable {κ : Type} [DecidableEq κ]
theorem setL_int (k : κ) (v : Int) : ∀ M : List (κ × Int), setL k (.int .i64 v) (intL M) = intL (setI k v M)
  | [] => rfl
  | e :: M => by
    have ih := setL_int k v M
    unfold intL at ih ⊢
    rw [List.map_cons, setL, setI]
    by_cases h : e.1 = k
    · simp [h]
    · simp [h, ih]
theorem setI_len (k : κ) (v : Int) : ∀ M : List (κ × Int), (setI k v M).length ≤ M.length + 1
  | [] => by simp [setI]
  | e :: M => by
    have ih := setI_len k v M
    unfold setI
    split
    · simp
    · simp only [List.length_cons]; omega
/-- a map of costs is what of so many costs the least are -/
structure CostM (W : κ → List (Int × Int × Int) → Option Int) (M : List (κ × Int)) (T : List (Int × Int × Int)) : Prop where
  get : ∀ k, getL k (intL M) = (W k T).map (Value.int .i64)
  len : M.length ≤ T.length
theorem CostM.set_ {W : κ → List (Int × Int × Int) → Option Int} {M : List (κ × Int)} {T : List (Int × Int × Int)} (h : CostM W M T) {x : Int × Int × Int} {key : κ} {c : Int} (hW : ∀ k, W k (T ++ [x]) = if k = key then minO (W k T) c else W k T) (hno : W key T = none ∨ ∃ b, W key T = some b ∧ c < b) : CostM W (setI key c M) (T ++ [x]) := by
  refine ⟨fun k => ?_, by have := setI_len key c M; have := h.len; simp; omega⟩
  rw [← setL_int, getL_set, hW]
  by_cases hk : k = key
  · subst hk
    rw [if_pos rfl, if_pos rfl]
    rcases hno with h1 | ⟨b, h1, h2⟩
    · rw [h1]; rfl
    · rw [h1, minO, if_pos h2]; rfl
  · rw [if_neg hk, if_neg hk, h.get]
theorem CostM.keep {W : κ → List (Int × Int × Int) → Option Int} {M : List (κ × Int)} {T : List (Int × Int × Int)} (h : CostM W M T) {x : Int × Int × Int} {key : κ} {c : Int} (hW : ∀ k, W k (T ++ [x]) = if k = key then minO (W k T) c else W k T) (hno : ∃ b, W key T = some b ∧ ¬ c < b) : CostM W M (T ++ [x]) := by
  refine ⟨fun k => ?_, by have := h.len; simp; omega⟩
  rw [h.get, hW]
  by_cases hk : k = key
  · subst hk
    rw [if_pos rfl]
    obtain ⟨b, h1, h2⟩ := hno
    rw [h1, minO, if_neg h2]
  · rw [if_neg hk]
theorem CostM.mem {W : κ → List (Int × Int × Int) → Option Int} {M : List (κ × Int)} {T : List (Int × Int × Int)} (h : CostM W M T) (hn : (M.map (·.1)).Nodup) {k : κ} {c : Int} : (k, c) ∈ M ↔ W k T = some c := by
  rw [← intL_keys] at hn
  have hg := h.get k
  constructor
  · intro hm
    have hm2 : (k, Value.int .i64 c) ∈ intL M := List.mem_map.2 ⟨_, hm, rfl⟩
    rw [getL_of_mem hn hm2] at hg
    cases hw : W k T with
    | none => rw [hw] at hg; cases hg
    | some b =>
      rw [hw] at hg
      simp only [Option.map_some, Option.some.injEq, Value.int.injEq, true_and] at hg
      rw [hg]
  · intro hw
    rw [hw] at hg
    have := getL_mem hg
    obtain ⟨e, he, h2⟩ := List.mem_map.1 this
    simp only [Prod.mk.injEq, Value.int.injEq, true_and] at h2
    rw [← h2.1, ← h2.2]
    exact he
end
def wantE (k : P4) (T : List (Int × Int × Int)) : Option Int := if k.fk = 1 ∧ k.tk = 2 then bestL (pick k.fi k.ti T) else none
def wantF (k : Hp) (T : List (Int × Int × Int)) : Option Int := bestL (pick k.id k.lan T)
theorem wantE_snoc (r n c : Int) (T : List (Int × Int × Int)) (k : P4) : wantE k (T ++ [(r, n, c)]) = if k = ⟨1, r, 2, n⟩ then minO (wantE k T) c else wantE k T := by
  obtain ⟨a, b, d, e⟩ := k
  unfold wantE
  simp only
  rw [pick_snoc]
  by_cases h : a = 1 ∧ d = 2
  · obtain ⟨rfl, rfl⟩ := h
    by_cases h2 : r = b ∧ n = e
    · obtain ⟨rfl, rfl⟩ := h2
      simp [bestL_snoc]
    · rw [if_neg h2, if_neg (c := _ = _)]
      intro e2
      simp only [P4.mk.injEq, true_and] at e2
      exact h2 ⟨e2.1.symm, e2.2.symm⟩
  · rw [if_neg h, if_neg h, if_neg (c := _ = _)]
    intro e2
    simp only [P4.mk.injEq] at e2
    exact h ⟨e2.1, e2.2.2.1⟩
theorem wantF_snoc (r n c : Int) (T : List (Int × Int × Int)) (k : Hp) : wantF k (T ++ [(r, n, c)]) = if k = ⟨n, r⟩ then minO (wantF k T) c else wantF k T := by
  obtain ⟨a, b⟩ := k
  unfold wantF
  simp only
  rw [pick_snoc]
  by_cases h2 : r = b ∧ n = a
  · obtain ⟨rfl, rfl⟩ := h2
    simp [bestL_snoc]
  · rw [if_neg h2, if_neg (c := _ = _)]
    intro e2
    simp only [Hp.mk.injEq] at e2
    exact h2 ⟨e2.2.symm, e2.1.symm⟩
theorem costM_nil {κ : Type} [DecidableEq κ] {W : κ → List (Int × Int × Int) → Option Int} (h : ∀ k, W k [] = none) : CostM W ([] : List (κ × Int)) [] := ⟨fun k => by rw [h]; rfl, Nat.le_refl _⟩
theorem wantE_nil (k : P4) : wantE k [] = none := by unfold wantE; split <;> rfl
theorem wantF_nil (k : Hp) : wantF k [] = none := rfl

/-- what one more link gives -/
theorem candL_more (C : List VX) (x : VX) {ys : List Lnk} {j : Nat} (hj : j < ys.length) : candL C x (ys.take (j + 1)) = candL C x (ys.take j) ++ if ys[j].kind = 2 ∧ x.1.adv ∈ memV C ys[j].id then [(x.1.adv, ys[j].id, ys[j].cost)] else [] := by
  unfold candL
  rw [List.take_succ_eq_append_getElem hj, List.filterMap_append]
  congr 1
  by_cases h : ys[j].kind = 2 ∧ x.1.adv ∈ memV C ys[j].id <;> simp [h]
theorem leafX_more (x : VX) {ys : List Lnk} {j : Nat} (hj : j < ys.length) : leafX x (ys.take (j + 1)) = leafX x (ys.take j) ++ if ys[j].kind = 3 then [(x.1.adv, ys[j].id / 16, ys[j].cost)] else [] := by
  unfold leafX
  rw [List.take_succ_eq_append_getElem hj, List.filterMap_append]
  congr 1
  by_cases h : ys[j].kind = 3 <;> simp [h]
theorem candC_more (C T : List VX) {k : Nat} (hk : k < T.length) : candC C (T.take (k + 1)) = candC C (T.take k) ++ candL C T[k] T[k].2.1 := by
  unfold candC
  rw [List.take_succ_eq_append_getElem hk, List.flatMap_append, List.flatMap_singleton]
theorem leafC_more (T : List VX) {k : Nat} (hk : k < T.length) : leafC (T.take (k + 1)) = leafC (T.take k) ++ leafX T[k] T[k].2.1 := by
  unfold leafC
  rw [List.take_succ_eq_append_getElem hk, List.flatMap_append, List.flatMap_singleton]
theorem candL_len (C : List VX) (x : VX) (ys : List Lnk) : (candL C x ys).length ≤ ys.length := List.length_filterMap_le _ _
theorem leafX_len (x : VX) (ys : List Lnk) : (leafX x ys).length ≤ ys.length := List.length_filterMap_le _ _
theorem candC_len (C : List VX) {m : Nat} : ∀ T : List VX, (∀ x ∈ T, x.2.1.length ≤ m) → (candC C T).length ≤ T.length * m
  | [], _ => Nat.zero_le _
  | x :: T, h => by
    have ih := candC_len C T fun y hy => h y (by simp [hy])
    have h1 := candL_len C x x.2.1
    have h2 := h x (by simp)
    unfold candC at ih ⊢
    rw [List.flatMap_cons, List.length_append, List.length_cons, Nat.add_mul, Nat.one_mul]
    omega
theorem leafC_len {m : Nat} : ∀ T : List VX, (∀ x ∈ T, x.2.1.length ≤ m) → (leafC T).length ≤ T.length * m
  | [], _ => Nat.zero_le _
  | x :: T, h => by
    have ih := leafC_len T fun y hy => h y (by simp [hy])
    have h1 := leafX_len x x.2.1
    have h2 := h x (by simp)
    unfold leafC at ih ⊢
    rw [List.flatMap_cons, List.length_append, List.length_cons, Nat.add_mul, Nat.one_mul]
    omega

/-- an entry's two edges -/
def two (e : P4 × Int) : List Ed := [⟨e.1.fk, e.1.fi, e.1.tk, e.1.ti, e.2⟩, ⟨e.1.tk, e.1.ti, e.1.fk, e.1.fi, 0⟩]
def one (e : Hp × Int) : Lf := ⟨e.1.id, e.1.lan, e.2⟩
theorem two_len (D : List (P4 × Int)) : (D.flatMap two).length = 2 * D.length := by
  induction D with
  | nil => rfl
  | cons x D ih => rw [List.flatMap_cons, List.length_append, ih, List.length_cons]; simp [two]; omega
theorem edge_keys {M : List (P4 × Int)} {T : List (Int × Int × Int)} (h : CostM wantE M T) (hn : (M.map (·.1)).Nodup) : ∀ e ∈ M, e.1.fk = 1 ∧ e.1.tk = 2 := by
  rintro ⟨k, c⟩ he
  have := (h.mem hn).1 he
  unfold wantE at this
  split at this
  · assumption
  · cases this
theorem edges_apart {M : List (P4 × Int)} (hk : ∀ e ∈ M, e.1.fk = 1 ∧ e.1.tk = 2) (hn : (M.map (·.1)).Nodup) : (M.flatMap two).Pairwise fun x y => ltE x y ∨ ltE y x := by
  rw [List.pairwise_flatMap]
  constructor
  · intro e he
    have h1 := hk e he
    unfold two
    simp only [List.pairwise_cons, List.mem_singleton, forall_eq, List.not_mem_nil, false_imp_iff, implies_true, List.Pairwise.nil, and_true]
    refine .inl (.inl ?_)
    show e.1.fk < e.1.tk
    omega
  · rw [List.Nodup, List.pairwise_map] at hn
    refine List.Pairwise.imp_of_mem (fun {a b} ha hb hab x hx y hy => ?_) hn
    have h1 := hk a ha
    have h2 := hk b hb
    obtain ⟨⟨a1, a2, a3, a4⟩, ac⟩ := a
    obtain ⟨⟨b1, b2, b3, b4⟩, bc⟩ := b
    simp only at h1 h2
    obtain ⟨rfl, rfl⟩ := h1
    obtain ⟨rfl, rfl⟩ := h2
    have hne : ¬ (a2 = b2 ∧ a4 = b4) := fun h => hab (by simp [h])
    simp only [two, List.mem_cons, List.not_mem_nil, or_false] at hx hy
    rcases hx with rfl | rfl <;> rcases hy with rfl | rfl
    · unfold ltE; simp only [true_and, Int.lt_irrefl, false_or]; omega
    · exact .inl (.inl (show (1 : Int) < 2 by decide))
    · exact .inr (.inl (show (1 : Int) < 2 by decide))
    · unfold ltE; simp only [true_and, Int.lt_irrefl, false_or]; omega
theorem edges_laid {C : List VX} (h : CntOk C) {M D : List (P4 × Int)} (hM : CostM wantE M (candC C C)) (hn : (M.map (·.1)).Nodup) (hp : D.Perm M) {N : List Ed} (hN : N.Perm (D.flatMap two)) (hs : N.Pairwise ltE) : N = edgesC (costC C) := by
  refine sorted_ext ltE_irr ltE_asy hs (edgesC_sorted _) fun e => ?_
  rw [hN.mem_iff, mem_edges, List.mem_flatMap]
  constructor
  · rintro ⟨⟨⟨a, r, b, n⟩, c⟩, hm, he⟩
    have hm2 := (hp.mem_iff).1 hm
    have hk := edge_keys hM hn _ hm2
    have hw := (hM.mem hn).1 hm2
    simp only at hk
    obtain ⟨rfl, rfl⟩ := hk
    have hc : costC C r n = some c := by
      unfold wantE at hw
      simpa [costC] using hw
    have hb := cand_bounds h (cost_is h hc)
    refine ⟨r, n, c, hb.1, hb.2.1, hc, ?_⟩
    simpa [two] using he
  · rintro ⟨r, n, c, -, -, hc, he⟩
    refine ⟨(⟨1, r, 2, n⟩, c), (hp.mem_iff).2 ((hM.mem hn).2 ?_), ?_⟩
    · unfold wantE
      rw [if_pos ⟨rfl, rfl⟩]
      exact hc
    · simpa [two] using he
theorem leaves_apart {M : List (Hp × Int)} (hn : (M.map (·.1)).Nodup) : (M.map one).Pairwise fun x y => ltF x y ∨ ltF y x := by
  rw [List.pairwise_map]
  rw [List.Nodup, List.pairwise_map] at hn
  refine hn.imp fun {a b} hab => ?_
  obtain ⟨⟨a1, a2⟩, ac⟩ := a
  obtain ⟨⟨b1, b2⟩, bc⟩ := b
  have hne : ¬ (a1 = b1 ∧ a2 = b2) := fun h => hab (by simp [h])
  unfold ltF one
  simp only
  omega
theorem leaves_laid {C : List VX} (h : CntOk C) {M D : List (Hp × Int)} (hM : CostM wantF M (leafC C)) (hn : (M.map (·.1)).Nodup) (hp : D.Perm M) {N : List Lf} (hN : N.Perm (D.map one)) (hs : N.Pairwise ltF) : N = leavesC (leafCost C) := by
  refine sorted_ext ltF_irr ltF_asy hs (leavesC_sorted _) fun e => ?_
  rw [hN.mem_iff, mem_leaves, List.mem_map]
  constructor
  · rintro ⟨⟨⟨n, r⟩, c⟩, hm, he⟩
    have hm2 := (hp.mem_iff).1 hm
    have hw : leafCost C r n = some c := (hM.mem hn).1 hm2
    have hb := leaf_bounds h (leaf_is hw)
    exact ⟨r, n, c, hb.1, hb.2.1, hw, he.symm⟩
  · rintro ⟨r, n, c, -, -, hc, he⟩
    exact ⟨(⟨n, r⟩, c), (hp.mem_iff).2 ((hM.mem hn).2 hc), he.symm⟩

/-- networks and who is on them, as a map has it -/
def netL (O : List Lsa) : List (Int × Value) := (O.filter fun x => decide (x.head.kind = 2)).map fun x => (x.head.id, Value.slice x.ma x.members.length x.mcap)
theorem net_more {O : List Lsa} {k : Nat} (hk : k < O.length) : netL (O.take (k + 1)) = netL (O.take k) ++ if O[k].head.kind = 2 then [(O[k].head.id, Value.slice O[k].ma O[k].members.length O[k].mcap)] else [] := by
  unfold netL
  rw [List.take_succ_eq_append_getElem hk, List.filter_append, List.map_append]
  congr 1
  by_cases h : O[k].head.kind = 2 <;> simp [h]
theorem net_get (n : Int) : ∀ O : List Lsa, getL n (netL O) = (O.find? fun x => isNet n (vX x)).map fun x => Value.slice x.ma x.members.length x.mcap
  | [] => rfl
  | x :: O => by
    have ih := net_get n O
    unfold netL at ih ⊢
    by_cases h2 : x.head.kind = 2
    · rw [List.filter_cons_of_pos (by simpa using h2), List.map_cons, getL]
      by_cases hn : x.head.id = n
      · rw [if_pos hn, List.find?_cons_of_pos (by simp [isNet, vX, h2, hn])]
        rfl
      · rw [if_neg hn, List.find?_cons_of_neg (by simp [isNet, vX, hn]), ih]
    · rw [List.filter_cons_of_neg (by simpa using h2), List.find?_cons_of_neg (by simp [isNet, vX, h2]), ih]
theorem memV_of (n : Int) (O : List Lsa) : memV (O.map vX) n = ((O.find? fun x => isNet n (vX x)).map fun x => x.members).getD [] := by
  unfold memV
  rw [List.find?_map]
  cases h : O.find? (isNet n ∘ vX) with
  | none =>
    have h2 : (O.find? fun x => isNet n (vX x)) = none := h
    rw [h2]; rfl
  | some x =>
    have h2 : (O.find? fun x => isNet n (vX x)) = some x := h
    rw [h2]; rfl
/-- no network twice -/
theorem net_new {O : List Lsa} (h : CntOk (O.map vX)) {k : Nat} (hk : k < O.length) (h2 : O[k].head.kind = 2) (v : Value) : setL O[k].head.id v (netL (O.take k)) = netL (O.take k) ++ [(O[k].head.id, v)] := by
  cases hl : look O[k].head.id (netL (O.take k)) 0 with
  | none => exact (look_none hl).2.2 _
  | some jv =>
    obtain ⟨j, v'⟩ := jv
    obtain ⟨n, -, -, h1, -⟩ := look_some hl
    rw [net_get] at h1
    cases hf : (O.take k).find? fun x => isNet O[k].head.id (vX x) with
    | none => rw [hf] at h1; cases h1
    | some x =>
      exfalso
      have hx := List.find?_some hf
      obtain ⟨i, hi, e⟩ := List.getElem_of_mem (List.mem_of_find?_eq_some hf)
      rw [List.length_take] at hi
      rw [List.getElem_take] at e
      have hxy : vX x = vX O[k] := net_one h (List.mem_map_of_mem (by rw [← e]; exact List.getElem_mem _)) (List.mem_map_of_mem (List.getElem_mem hk)) hx (by simp [isNet, vX, h2])
      have hn := h.keys
      rw [List.map_map, List.Nodup, List.pairwise_map, List.pairwise_iff_getElem] at hn
      have := hn i k (by omega) hk (by omega)
      rw [e] at this
      exact this (congrArg keyV hxy)

end Go.Proofs.Ytpfjgecdlilkcaa
