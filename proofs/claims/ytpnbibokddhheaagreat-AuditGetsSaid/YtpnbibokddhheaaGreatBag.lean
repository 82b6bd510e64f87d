/-
  Layer 20 in plain words: the maps of costs, and what is laid out of them.
-/
import Derived.Test.YtpnbibokddhheaaGreatProg
import Derived.Test.YtpnbibokddhheaaGreatBaa
import Derived.Test.YtpnbibokddhheaaGreatBab
import Derived.Test.YtpnbibokddhheaaGreatBae
import Derived.Test.YtpnbibokddhheaaGreatBaf
namespace Go.Proofs.YtpnbibokddhheaaGreat

def intL {κ : Type} (M : List (κ × Int)) : List (κ × Value) := M.map fun e => (e.1, Value.int .i64 e.2)
def setI {κ : Type} [DecidableEq κ] (k : κ) (v : Int) : List (κ × Int) → List (κ × Int)
  | [] => [(k, v)]
  | e :: M => if e.1 = k then (k, v) :: M else e :: setI k v M
theorem intL_split {κ : Type} {R : List (κ × Int)} {pre post : List (κ × Value)} {e : κ × Value} (h : intL R = pre ++ e :: post) : ∃ P x Q, R = P ++ x :: Q ∧ pre = intL P ∧ post = intL Q ∧ e = (x.1, .int .i64 x.2) := by
  unfold intL at h
  obtain ⟨P, q, rfl, h1, h2⟩ := List.map_eq_append_iff.1 h
  obtain ⟨h', Q, rfl, h3, h4⟩ := List.map_eq_cons_iff.1 h2
  exact ⟨P, h', Q, rfl, h1.symm, h4.symm, h3.symm⟩
theorem intL_append {κ : Type} (P Q : List (κ × Int)) : intL P ++ intL Q = intL (P ++ Q) := by simp [intL]
theorem intL_keys {κ : Type} (M : List (κ × Int)) : (intL M).map (·.1) = M.map (·.1) := by unfold intL; rw [List.map_map]; rfl
section
variable {κ : Type} [DecidableEq κ]
theorem setL_int (k : κ) (v : Int) : ∀ M : List (κ × Int), setL k (.int .i64 v) (intL M) = intL (setI k v M)
  | [] => rfl
  | e :: M => by
    have ih := setL_int k v M
    unfold intL at ih ⊢
    rw [List.map_cons, setL, setI]
    by_cases h : e.1 = k
    · simp [h]
    · simp [h, ih]
theorem setI_len (k : κ) (v : Int) : ∀ M : List (κ × Int), (setI k v M).length ≤ M.length + 1
  | [] => by simp [setI]
  | e :: M => by
    have ih := setI_len k v M
    unfold setI
    split
    · simp
    · simp only [List.length_cons]; omega
/-- a map of costs is what of so many costs the least are -/
structure CostM (W : κ → List (Int × Int × Int) → Option Int) (M : List (κ × Int)) (T : List (Int × Int × Int)) : Prop where
  get : ∀ k, getL k (intL M) = (W k T).map (Value.int .i64)
  len : M.length ≤ T.length
theorem CostM.set_ {W : κ → List (Int × Int × Int) → Option Int} {M : List (κ × Int)} {T : List (Int × Int × Int)} (h : CostM W M T) {x : Int × Int × Int} {key : κ} {c : Int} (hW : ∀ k, W k (T ++ [x]) = if k = key then minO (W k T) c else W k T) (hno : W key T = none ∨ ∃ b, W key T = some b ∧ c < b) : CostM W (setI key c M) (T ++ [x]) := by
  refine ⟨fun k => ?_, by have := setI_len key c M; have := h.len; simp; omega⟩
  rw [← setL_int, getL_set, hW]
  by_cases hk : k = key
  · subst hk
    rw [if_pos rfl, if_pos rfl]
    rcases hno with h1 | ⟨b, h1, h2⟩
    · rw [h1]; rfl
    · rw [h1, minO, if_pos h2]; rfl
  · rw [if_neg hk, if_neg hk, h.get]
theorem CostM.keep {W : κ → List (Int × Int × Int) → Option Int} {M : List (κ × Int)} {T : List (Int × Int × Int)} (h : CostM W M T) {x : Int × Int × Int} {key : κ} {c : Int} (hW : ∀ k, W k (T ++ [x]) = if k = key then minO (W k T) c else W k T) (hno : ∃ b, W key T = some b ∧ ¬ c < b) : CostM W M (T ++ [x]) := by
  refine ⟨fun k => ?_, by have := h.len; simp; omega⟩
  rw [h.get, hW]
  by_cases hk : k = key
  · subst hk
    rw [if_pos rfl]
    obtain ⟨b, h1, h2⟩ := hno
    rw [h1, minO, if_neg h2]
  · rw [if_neg hk]
theorem CostM.mem {W : κ → List (Int × Int × Int) → Option Int} {M : List (κ × Int)} {T : List (Int × Int × Int)} (h : CostM W M T) (hn : (M.map (·.1)).Nodup) {k : κ} {c : Int} : (k, c) ∈ M ↔ W k T = some c := by
  rw [← intL_keys] at hn
  have hg := h.get k
  constructor
  · intro hm
    have hm2 : (k, Value.int .i64 c) ∈ intL M := List.mem_map.2 ⟨_, hm, rfl⟩
    rw [getL_of_mem hn hm2] at hg
    cases hw : W k T with
    | none => rw [hw] at hg; cases hg
    | some b =>
      rw [hw] at hg
      simp only [Option.map_some, Option.some.injEq, Value.int.injEq, true_and] at hg
      rw [hg]
  · intro hw
    rw [hw] at hg
    have := getL_mem hg
    obtain ⟨e, he, h2⟩ := List.mem_map.1 this
    simp only [Prod.mk.injEq, Value.int.injEq, true_and] at h2
    rw [← h2.1, ← h2.2]
    exact he
end
def wantE (k : P4) (T : List (Int × Int × Int)) : Option Int := if k.fk = 1 ∧ k.tk = 2 then bestL (pick k.fi k.ti T) else none
def wantF (k : Hp) (T : List (Int × Int × Int)) : Option Int := bestL (pick k.id k.lan T)
theorem wantE_snoc (r n c : Int) (T : List (Int × Int × Int)) (k : P4) : wantE k (T ++ [(r, n, c)]) = if k = ⟨1, r, 2, n⟩ then minO (wantE k T) c else wantE k T := by
  obtain ⟨a, b, d, e⟩ := k
  unfold wantE
  simp only
  rw [pick_snoc]
  by_cases h : a = 1 ∧ d = 2
  · obtain ⟨rfl, rfl⟩ := h
    by_cases h2 : r = b ∧ n = e
    · obtain ⟨rfl, rfl⟩ := h2
      simp [bestL_snoc]
    · rw [if_neg h2, if_neg (c := _ = _)]
      intro e2
      simp only [P4.mk.injEq, true_and] at e2
      exact h2 ⟨e2.1.symm, e2.2.symm⟩
  · rw [if_neg h, if_neg h, if_neg (c := _ = _)]
    intro e2
    simp only [P4.mk.injEq] at e2
    exact h ⟨e2.1, e2.2.2.1⟩
theorem wantF_snoc (r n c : Int) (T : List (Int × Int × Int)) (k : Hp) : wantF k (T ++ [(r, n, c)]) = if k = ⟨n, r⟩ then minO (wantF k T) c else wantF k T := by
  obtain ⟨a, b⟩ := k
  unfold wantF
  simp only
  rw [pick_snoc]
  by_cases h2 : r = b ∧ n = a
  · obtain ⟨rfl, rfl⟩ := h2
    simp [bestL_snoc]
  · rw [if_neg h2, if_neg (c := _ = _)]
    intro e2
    simp only [Hp.mk.injEq] at e2
    exact h2 ⟨e2.2.symm, e2.1.symm⟩
theorem costM_nil {κ : Type} [DecidableEq κ] {W : κ → List (Int × Int × Int) → Option Int} (h : ∀ k, W k [] = none) : CostM W ([] : List (κ × Int)) [] := ⟨fun k => by rw [h]; rfl, Nat.le_refl _⟩
theorem wantE_nil (k : P4) : wantE k [] = none := by unfold wantE; split <;> rfl
theorem wantF_nil (k : Hp) : wantF k [] = none := rfl

/-- what one more link gives -/
theorem candL_more (C : List VX) (x : VX) {ys : List Lnk} {j : Nat} (hj : j < ys.length) : candL C x (ys.take (j + 1)) = candL C x (ys.take j) ++ if ys[j].kind = 2 ∧ x.1.adv ∈ memV C ys[j].id then [(x.1.adv, ys[j].id, ys[j].cost)] else [] := by
  unfold candL
  rw [List.take_succ_eq_append_getElem hj, List.filterMap_append]
  congr 1
  by_cases h : ys[j].kind = 2 ∧ x.1.adv ∈ memV C ys[j].id <;> simp [h]
theorem leafX_more (x : VX) {ys : List Lnk} {j : Nat} (hj : j < ys.length) : leafX x (ys.take (j + 1)) = leafX x (ys.take j) ++ if ys[j].kind = 3 then [(x.1.adv, ys[j].id / 16, ys[j].cost)] else [] := by
  unfold leafX
  rw [List.take_succ_eq_append_getElem hj, List.filterMap_append]
  congr 1
  by_cases h : ys[j].kind = 3 <;> simp [h]
theorem candC_more (C T : List VX) {k : Nat} (hk : k < T.length) : candC C (T.take (k + 1)) = candC C (T.take k) ++ candL C T[k] T[k].2.1 := by
  unfold candC
  rw [List.take_succ_eq_append_getElem hk, List.flatMap_append, List.flatMap_singleton]
theorem leafC_more (T : List VX) {k : Nat} (hk : k < T.length) : leafC (T.take (k + 1)) = leafC (T.take k) ++ leafX T[k] T[k].2.1 := by
  unfold leafC
  rw [List.take_succ_eq_append_getElem hk, List.flatMap_append, List.flatMap_singleton]
theorem candL_len (C : List VX) (x : VX) (ys : List Lnk) : (candL C x ys).length ≤ ys.length := List.length_filterMap_le _ _
theorem leafX_len (x : VX) (ys : List Lnk) : (leafX x ys).length ≤ ys.length := List.length_filterMap_le _ _
theorem candC_len (C : List VX) {m : Nat} : ∀ T : List VX, (∀ x ∈ T, x.2.1.length ≤ m) → (candC C T).length ≤ T.length * m
  | [], _ => Nat.zero_le _
  | x :: T, h => by
    have ih := candC_len C T fun y hy => h y (by simp [hy])
    have h1 := candL_len C x x.2.1
    have h2 := h x (by simp)
    unfold candC at ih ⊢
    rw [List.flatMap_cons, List.length_append, List.length_cons, Nat.add_mul, Nat.one_mul]
    omega
theorem leafC_len {m : Nat} : ∀ T : List VX, (∀ x ∈ T, x.2.1.length ≤ m) → (leafC T).length ≤ T.length * m
  | [], _ => Nat.zero_le _
  | x :: T, h => by
    have ih := leafC_len T fun y hy => h y (by simp [hy])
    have h1 := leafX_len x x.2.1
    have h2 := h x (by simp)
    unfold leafC at ih ⊢
    rw [List.flatMap_cons, List.length_append, List.length_cons, Nat.add_mul, Nat.one_mul]
    omega

/-- an entry's two edges -/
def two (e : P4 × Int) : List Ed := [⟨e.1.fk, e.1.fi, e.1.tk, e.1.ti, e.2⟩, ⟨e.1.tk, e.1.ti, e.1.fk, e.1.fi, 0⟩]
def one (e : Hp × Int) : Lf := ⟨e.1.id, e.1.lan, e.2⟩
theorem two_len (D : List (P4 × Int)) : (D.flatMap two).length = 2 * D.length := by
  induction D with
  | nil => rfl
  | cons x D ih => rw [List.flatMap_cons, List.length_append, ih, List.length_cons]; simp [two]; omega
theorem edge_keys {M : List (P4 × Int)} {T : List (Int × Int × Int)} (h : CostM wantE M T) (hn : (M.map (·.1)).Nodup) : ∀ e ∈ M, e.1.fk = 1 ∧ e.1.tk = 2 := by
  rintro ⟨k, c⟩ he
  have := (h.mem hn).1 he
  unfold wantE at this
  split at this
  · assumption
  · cases this
theorem edges_apart {M : List (P4 × Int)} (hk : ∀ e ∈ M, e.1.fk = 1 ∧ e.1.tk = 2) (hn : (M.map (·.1)).Nodup) : (M.flatMap two).Pairwise fun x y => ltE x y ∨ ltE y x := by
  rw [List.pairwise_flatMap]
  constructor
  · intro e he
    have h1 := hk e he
    unfold two
    simp only [List.pairwise_cons, List.mem_singleton, forall_eq, List.not_mem_nil, false_imp_iff, implies_true, List.Pairwise.nil, and_true]
    refine .inl (.inl ?_)
    show e.1.fk < e.1.tk
    omega
  · rw [List.Nodup, List.pairwise_map] at hn
    refine List.Pairwise.imp_of_mem (fun {a b} ha hb hab x hx y hy => ?_) hn
    have h1 := hk a ha
    have h2 := hk b hb
    obtain ⟨⟨a1, a2, a3, a4⟩, ac⟩ := a
    obtain ⟨⟨b1, b2, b3, b4⟩, bc⟩ := b
    simp only at h1 h2
    obtain ⟨rfl, rfl⟩ := h1
    obtain ⟨rfl, rfl⟩ := h2
    have hne : ¬ (a2 = b2 ∧ a4 = b4) := fun h => hab (by simp [h])
    simp only [two, List.mem_cons, List.not_mem_nil, or_false] at hx hy
    rcases hx with rfl | rfl <;> rcases hy with rfl | rfl
    · unfold ltE; simp only [true_and, Int.lt_irrefl, false_or]; omega
    · exact .inl (.inl (show (1 : Int) < 2 by decide))
    · exact .inr (.inl (show (1 : Int) < 2 by decide))
    · unfold ltE; simp only [true_and, Int.lt_irrefl, false_or]; omega
theorem edges_laid {C : List VX} (h : CntOk C) {M D : List (P4 × Int)} (hM : CostM wantE M (candC C C)) (hn : (M.map (·.1)).Nodup) (hp : D.Perm M) {N : List Ed} (hN : N.Perm (D.flatMap two)) (hs : N.Pairwise ltE) : N = edgesC (costC C) := by
  refine sorted_ext ltE_irr ltE_asy hs (edgesC_sorted _) fun e => ?_
  rw [hN.mem_iff, mem_edges, List.mem_flatMap]
  constructor
  · rintro ⟨⟨⟨a, r, b, n⟩, c⟩, hm, he⟩
    have hm2 := (hp.mem_iff).1 hm
    have hk := edge_keys hM hn _ hm2
    have hw := (hM.mem hn).1 hm2
    simp only at hk
    obtain ⟨rfl, rfl⟩ := hk
    have hc : costC C r n = some c := by
      unfold wantE at hw
      simpa [costC] using hw
    have hb := cand_bounds h (cost_is h hc)
    refine ⟨r, n, c, hb.1, hb.2.1, hc, ?_⟩
    simpa [two] using he
  · rintro ⟨r, n, c, -, -, hc, he⟩
    refine ⟨(⟨1, r, 2, n⟩, c), (hp.mem_iff).2 ((hM.mem hn).2 ?_), ?_⟩
    · unfold wantE
      rw [if_pos ⟨rfl, rfl⟩]
      exact hc
    · simpa [two] using he
theorem leaves_apart {M : List (Hp × Int)} (hn : (M.map (·.1)).Nodup) : (M.map one).Pairwise fun x y => ltF x y ∨ ltF y x := by
  rw [List.pairwise_map]
  rw [List.Nodup, List.pairwise_map] at hn
  refine hn.imp fun {a b} hab => ?_
  obtain ⟨⟨a1, a2⟩, ac⟩ := a
  obtain ⟨⟨b1, b2⟩, bc⟩ := b
  have hne : ¬ (a1 = b1 ∧ a2 = b2) := fun h => hab (by simp [h])
  unfold ltF one
  simp only
  omega
theorem leaves_laid {C : List VX} (h : CntOk C) {M D : List (Hp × Int)} (hM : CostM wantF M (leafC C)) (hn : (M.map (·.1)).Nodup) (hp : D.Perm M) {N : List Lf} (hN : N.Perm (D.map one)) (hs : N.Pairwise ltF) : N = leavesC (leafCost C) := by
  refine sorted_ext ltF_irr ltF_asy hs (leavesC_sorted _) fun e => ?_
  rw [hN.mem_iff, mem_leaves, List.mem_map]
  constructor
  · rintro ⟨⟨⟨n, r⟩, c⟩, hm, he⟩
    have hm2 := (hp.mem_iff).1 hm
    have hw : leafCost C r n = some c := (hM.mem hn).1 hm2
    have hb := leaf_bounds h (leaf_is hw)
    exact ⟨r, n, c, hb.1, hb.2.1, hw, he.symm⟩
  · rintro ⟨r, n, c, -, -, hc, he⟩
    exact ⟨(⟨n, r⟩, c), (hp.mem_iff).2 ((hM.mem hn).2 hc), he.symm⟩

/-- networks and who is on them, as a map has it -/
def netL (O : List Lsa) : List (Int × Value) := (O.filter fun x => decide (x.head.kind = 2)).map fun x => (x.head.id, Value.slice x.ma x.members.length x.mcap)
theorem net_more {O : List Lsa} {k : Nat} (hk : k < O.length) : netL (O.take (k + 1)) = netL (O.take k) ++ if O[k].head.kind = 2 then [(O[k].head.id, Value.slice O[k].ma O[k].members.length O[k].mcap)] else [] := by
  unfold netL
  rw [List.take_succ_eq_append_getElem hk, List.filter_append, List.map_append]
  congr 1
  by_cases h : O[k].head.kind = 2 <;> simp [h]
theorem net_get (n : Int) : ∀ O : List Lsa, getL n (netL O) = (O.find? fun x => isNet n (vX x)).map fun x => Value.slice x.ma x.members.length x.mcap
  | [] => rfl
  | x :: O => by
    have ih := net_get n O
    unfold netL at ih ⊢
    by_cases h2 : x.head.kind = 2
    · rw [List.filter_cons_of_pos (by simpa using h2), List.map_cons, getL]
      by_cases hn : x.head.id = n
      · rw [if_pos hn, List.find?_cons_of_pos (by simp [isNet, vX, h2, hn])]
        rfl
      · rw [if_neg hn, List.find?_cons_of_neg (by simp [isNet, vX, hn]), ih]
    · rw [List.filter_cons_of_neg (by simpa using h2), List.find?_cons_of_neg (by simp [isNet, vX, h2]), ih]
theorem memV_of (n : Int) (O : List Lsa) : memV (O.map vX) n = ((O.find? fun x => isNet n (vX x)).map fun x => x.members).getD [] := by
  unfold memV
  rw [List.find?_map]
  cases h : O.find? (isNet n ∘ vX) with
  | none =>
    have h2 : (O.find? fun x => isNet n (vX x)) = none := h
    rw [h2]; rfl
  | some x =>
    have h2 : (O.find? fun x => isNet n (vX x)) = some x := h
    rw [h2]; rfl
/-- no network twice -/
theorem net_new {O : List Lsa} (h : CntOk (O.map vX)) {k : Nat} (hk : k < O.length) (h2 : O[k].head.kind = 2) (v : Value) : setL O[k].head.id v (netL (O.take k)) = netL (O.take k) ++ [(O[k].head.id, v)] := by
  cases hl : look O[k].head.id (netL (O.take k)) 0 with
  | none => exact (look_none hl).2.2 _
  | some jv =>
    obtain ⟨j, v'⟩ := jv
    obtain ⟨n, -, -, h1, -⟩ := look_some hl
    rw [net_get] at h1
    cases hf : (O.take k).find? fun x => isNet O[k].head.id (vX x) with
    | none => rw [hf] at h1; cases h1
    | some x =>
      exfalso
      have hx := List.find?_some hf
      obtain ⟨i, hi, e⟩ := List.getElem_of_mem (List.mem_of_find?_eq_some hf)
      rw [List.length_take] at hi
      rw [List.getElem_take] at e
      have hxy : vX x = vX O[k] := net_one h (List.mem_map_of_mem (by rw [← e]; exact List.getElem_mem _)) (List.mem_map_of_mem (List.getElem_mem hk)) hx (by simp [isNet, vX, h2])
      have hn := h.keys
      rw [List.map_map, List.Nodup, List.pairwise_map, List.pairwise_iff_getElem] at hn
      have := hn i k (by omega) hk (by omega)
      rw [e] at this
      exact this (congrArg keyV hxy)

end Go.Proofs.YtpnbibokddhheaaGreat

/-
  Layer 20: who is on networks: the program's way; is a number in a list.
-/
namespace Go.Proofs.YtpnbibokddhheaaGreat
open Go.RowKit Go.Sort

theorem mem_take_succ {l : List Int} {k : Nat} (hk : k < l.length) (x : Int) : x ∈ l.take (k + 1) ↔ x ∈ l.take k ∨ x = l[k] := by
  rw [List.take_succ_eq_append_getElem hk, List.mem_append, List.mem_singleton]
set_option maxHeartbeats 1000000 in
theorem indexI (A : Option Addr) (c : Nat) (l : List Int) (x : Int) (w : World) (B : Nat) (h : RowsAt 1 icell w B A l) (hB : B ≤ w.heap.size) (hm : l.length ≤ 2 ^ 20) (n : Nat) (hn : n = l.length) :
    Calls Tryz.prog 101 #[.slice A n c, .int .i64 x] w fun r w' => (∃ i : Int, r = .returned (.int .i64 i) ∧ (0 ≤ i ↔ x ∈ l)) ∧ w' = w := by
  subst hn
  have H := Lib.hid (h.more hB)
  have hm' : (l.length : Int) ≤ 9223372036854775807 := by omega
  clear h hB
  go_enter Tryz.func101, Tryz.ntmps101
  go_wp2
  go_loopw [8] (fun i wr => ∃ k : Nat, i = .int .i64 k ∧ k ≤ l.length ∧ x ∉ l.take k ∧ wr = w) (fun i _ => l.length - (intOf i).toNat)
  case atStart => exact ⟨0, rfl, Nat.zero_le _, by simp, rfl⟩
  case round =>
    obtain ⟨k, rfl, hk, hno, rfl⟩ := hrel
    by_cases hlt : k < l.length
    · obtain ⟨g, o, hA, -, x0⟩ := row_int H.out k hlt
      have hkl : (k : Int) < (l.length : Int) := by omega
      have hts := mem_take_succ hlt x
      have hin := List.getElem_mem hlt
      have HA := Lib.hid hA
      rw [hA]
      obtain ⟨y, hy⟩ : ∃ y, l[k] = y := ⟨_, rfl⟩
      rw [hy] at x0 hts hin
      clear hA hy
      by_cases hxy : x = y
      · subst hxy
        have Hin := Lib.hid hin
        clear hts hin hno
        go_wp2
        go_ret
        exact ⟨⟨_, rfl, fun _ => Hin.out, fun _ => by omega⟩, rfl⟩
      · have Hno := Lib.hid (show x ∉ l.take (k + 1) by rw [hts]; exact fun h => h.elim hno hxy)
        clear hts hin hno
        go_wp2
        go_roundw
        case measure => simp [intOf]; omega
        case rel => exact ⟨k + 1, by go_num, hlt, Hno.out, trivial⟩
    · have hke : k = l.length := by omega
      subst hke
      rw [List.take_length] at hno
      have Hno := Lib.hid hno
      clear hno
      have hkl : ¬ (l.length : Int) < (l.length : Int) := by omega
      go_wp2
      go_ret
      exact ⟨⟨_, rfl, fun h => absurd h (by decide), fun h => absurd h Hno.out⟩, rfl⟩
theorem containsI (A : Option Addr) (c : Nat) (l : List Int) (x : Int) (w : World) (B : Nat) (h : RowsAt 1 icell w B A l) (hB : B ≤ w.heap.size) (hm : l.length ≤ 2 ^ 20) (n : Nat) (hn : n = l.length) {t : Bool} (ht : decide (x ∈ l) = t) :
    Calls Tryz.prog 63 #[.slice A n c, .int .i64 x] w fun r w' => r = .returned (.bool t) ∧ w' = w := by
  have H := Lib.hid (indexI A c l x w B h hB hm n hn)
  have Ht := Lib.hid ht
  clear h hB hm hn ht
  go_enter Tryz.func63, Tryz.ntmps63
  go_wp2_with fail
  with_reducible refine Calls.mono H.out ?_
  rintro r w2 ⟨⟨i, rfl, hi⟩, rfl⟩
  have hd : decide (0 ≤ i) = t := by rw [← Ht.out]; exact decide_eq_decide.2 hi
  clear hi
  go_wp2
  go_ret
  exact ⟨rfl, rfl⟩
set_option maxHeartbeats 4000000 in
set_option maxRecDepth 100000 in
theorem on_any (A : Option Addr) (cap : Nat) (O : List Lsa) (w : World) (hO : RowsAt 9 Lsa.cells w w.heap.size A O) (hc : CntOk (O.map vX)) (hm : O.length ≤ 2 ^ 16) (nn : Nat) (hnn : nn = O.length) :
    Calls Tryz.prog 62 #[.slice A nn cap] w fun r w' => r = .returned (.map (some w.heap.size)) ∧ MapAt encI w' w.heap.size (netL O) ∧ Below w.heap.size w w' := by
  subst hnn
  obtain ⟨b, hb⟩ : ∃ b, w.heap.size = b := ⟨_, rfl⟩
  have HO := Lib.hid hO
  have Hc := Lib.hid hc
  have Hb0 := Lib.hid hb
  have hmm := @run_makeMap Tryz.prog
  have hm' : (O.length : Int) ≤ 9223372036854775807 := by omega
  have HS0 := Lib.hid (show MapAt encI (w.alloc (.map #[] 0)) b (netL (O.take 0)) ∧ Below w.heap.size w (w.alloc (.map #[] 0)) from ⟨by rw [← hb]; exact MapAt.new w, (Below.refl _ _).alloc (Nat.le_refl _) _⟩)
  clear hO hc
  go_enter Tryz.func62, Tryz.ntmps62
  go_wp2
  clear hmm
  go_loopw [9] (fun i wr => ∃ k : Nat, i = .int .i64 k ∧ k ≤ O.length ∧ MapAt encI wr b (netL (O.take k)) ∧ Below w.heap.size w wr) (fun i _ => O.length - (intOf i).toNat)
  case atStart => exact ⟨0, rfl, Nat.zero_le _, HS0.out⟩
  case round =>
    obtain ⟨k, rfl, hk, hmp, hbel⟩ := hrel
    clear HS0
    by_cases hlt : k < O.length
    · obtain ⟨g, o, hA, -, x0, x1, x2, x3, x4, x5, x6, x7, x8⟩ := row_lsa9b (HO.out.below hbel) k hlt
      have hkl : (k : Int) < (O.length : Int) := by omega
      have hmore := net_more hlt
      have hnew := net_new Hc.out hlt
      have HA := Lib.hid hA
      rw [hA]
      have Hlt := Lib.hid hlt
      generalize O[k] = x at *
      obtain ⟨⟨y1, y2, y3, y4, y5, y6, y7⟩, ka, kc, ls, ma, mc, ms⟩ := x
      simp only at x0 x1 x2 x3 x4 x5 x6 x7 x8 hmore hnew
      obtain ⟨nl, hnl⟩ : ∃ nl, ls.length = nl := ⟨_, rfl⟩
      obtain ⟨nm, hnm⟩ : ∃ nm, ms.length = nm := ⟨_, rfl⟩
      rw [hnl] at x7
      rw [hnm] at x8 hmore
      obtain ⟨w8, hw8⟩ : ∃ w8, wr.alloc (.cells #[.int .i64 y1, .int .i64 y2, .int .i64 y3, .int .i64 y4, .int .i64 y5, .int .i64 y6, .int .i64 y7, .slice ka nl kc, .slice ma nm mc] 31) = w8 := ⟨_, rfl⟩
      obtain ⟨g8, hg8⟩ : ∃ g8, wr.heap.size = g8 := ⟨_, rfl⟩
      have hk8 := Blk.new wr 31 #[.int .i64 y1, .int .i64 y2, .int .i64 y3, .int .i64 y4, .int .i64 y5, .int .i64 y6, .int .i64 y7, .slice ka nl kc, .slice ma nm mc]
      have hb8 := below_new wr (.cells #[.int .i64 y1, .int .i64 y2, .int .i64 y3, .int .i64 y4, .int .i64 y5, .int .i64 y6, .int .i64 y7, .slice ka nl kc, .slice ma nm mc] 31)
      rw [hw8, hg8] at hk8
      rw [hw8] at hb8
      have M8 := Lib.hid (hmp.below hb8 hmp.lt)
      have B8 := Lib.hid (below_trans hbel hbel.size hb8)
      obtain ⟨z0, z1, z2, z3, z4, z5, z6, z7, z8, zf⟩ := blk9 hk8
      clear hnl hnm hA hlt hk8 hb8 hk hmp hbel
      by_cases h2 : y2 = 2
      · subst h2
        rw [if_pos rfl] at hmore
        have Hmore := Lib.hid hmore
        have Hnew := Lib.hid (hnew rfl)
        clear hmore hnew
        go_wp2_with (at_mapUpdate; (refine wpList_update_st _ (by rfl) _ _ _ 148 (by rfl) 3 29 keyInt Tryz.underlying148 (by rfl) M8.out y3 (by rfl) (.slice ma nm mc) (by rfl) ?_); intro w9 hm9 hg9 hs9; rw [Hnew.out] at hm9; have M9 := Lib.hid hm9; have B9 := Lib.hid (show Below w.heap.size w w9 from B8.out.grown hg9 B8.out.size (fun m e => by injection e with e; rw [← e, Hb0.out]; exact Nat.le_refl _)); clear hm9 hg9 hs9)
        go_roundw
        case measure => have := Hlt.out; simp [intOf]; omega
        case rel => exact ⟨k + 1, by go_num, Hlt.out, by rw [Hmore.out]; exact M9.out, B9.out⟩
      · rw [if_neg h2, List.append_nil] at hmore
        have Hmore := Lib.hid hmore
        clear hmore hnew
        go_wp2
        go_roundw
        case measure => have := Hlt.out; simp [intOf]; omega
        case rel => exact ⟨k + 1, by go_num, Hlt.out, by rw [Hmore.out]; exact M8.out, B8.out⟩
    · have hke : k = O.length := by omega
      subst hke
      rw [List.take_length] at hmp
      have hkl : ¬ (O.length : Int) < (O.length : Int) := by omega
      have HM := Lib.hid hmp
      have HB := Lib.hid hbel
      clear hmp hbel
      go_wp2
      go_ret
      exact ⟨rfl, HM.out, by have := HB.out; rw [Hb0.out] at this; exact this⟩

end Go.Proofs.YtpnbibokddhheaaGreat

/-
  Layer 20: all edges, router by router (plain).
-/
namespace Go.Proofs.YtpnbibokddhheaaGreat
open Go.RowKit

theorem rng_more (a : Int) (n : Nat) : rng a (n + 1) = rng a n ++ [a + (n : Int)] := by
  unfold rng
  rw [List.range_succ, List.map_append, List.map_singleton]
theorem rng_len (a : Int) (n : Nat) : (rng a n).length = n := by simp [rng]
theorem flat_len {α β : Type} {m : Nat} (g : α → List β) : ∀ l : List α, (∀ x ∈ l, (g x).length ≤ m) → (l.flatMap g).length ≤ l.length * m
  | [], _ => Nat.zero_le _
  | x :: l, h => by
    have ih := flat_len g l fun y hy => h y (by simp [hy])
    have h2 := h x (by simp)
    rw [List.flatMap_cons, List.length_append, List.length_cons, Nat.add_mul, Nat.one_mul]
    omega
/-- the edges of routers below a number, and of one of them to networks below a number -/
def preA (f : Int → Int → Option Int) (i : Nat) : List Ed := (rng 1 i).flatMap fun r => (rng 0 64).filterMap (edgeA f r)
def preB (f : Int → Int → Option Int) (i : Nat) : List Ed := (rng 0 i).flatMap fun n => (rng 1 15).filterMap (edgeB f n)
theorem edges_pre (f : Int → Int → Option Int) : edgesC f = preA f 15 ++ preB f 64 := rfl
theorem preA_more (f : Int → Int → Option Int) (i : Nat) : preA f (i + 1) = preA f i ++ (rng 0 64).filterMap (edgeA f (1 + (i : Int))) := by
  unfold preA
  rw [rng_more 1 i, List.flatMap_append, List.flatMap_singleton]
theorem preB_more (f : Int → Int → Option Int) (i : Nat) : preB f (i + 1) = preB f i ++ (rng 1 15).filterMap (edgeB f (0 + (i : Int))) := by
  unfold preB
  rw [rng_more 0 i, List.flatMap_append, List.flatMap_singleton]
def optL {β : Type} : Option β → List β
  | none => []
  | some x => [x]
theorem fil_more {β : Type} (g : Int → Option β) (a : Int) (j : Nat) : (rng a (j + 1)).filterMap g = (rng a j).filterMap g ++ optL (g (a + (j : Int))) := by
  rw [rng_more, List.filterMap_append]
  cases h : g (a + (j : Int)) <;> simp [h, optL]
theorem fil_len {β : Type} (g : Int → Option β) (a : Int) (j : Nat) : ((rng a j).filterMap g).length ≤ j := Nat.le_trans (List.length_filterMap_le _ _) (by rw [rng_len]; exact Nat.le_refl _)
theorem preA_len (f : Int → Int → Option Int) (i : Nat) : (preA f i).length ≤ i * 64 := by
  have := flat_len (m := 64) (fun r => (rng 0 64).filterMap (edgeA f r)) (rng 1 i) (fun _ _ => fil_len _ _ _)
  rw [rng_len] at this
  exact this
theorem preB_len (f : Int → Int → Option Int) (i : Nat) : (preB f i).length ≤ i * 15 := by
  have := flat_len (m := 15) (fun n => (rng 1 15).filterMap (edgeB f n)) (rng 0 i) (fun _ _ => fil_len _ _ _)
  rw [rng_len] at this
  exact this

end Go.Proofs.YtpnbibokddhheaaGreat

/-
  Layer 20: all leaves, router by router (plain).
-/
namespace Go.Proofs.YtpnbibokddhheaaGreat
open Go.RowKit

def linkF (n : Int) (ys : List Lnk) : List Int := ys.filterMap fun y => if y.kind = 3 ∧ y.id / 16 = n then some y.cost else none
def refF (r n : Int) (T : List VX) : List Int := T.flatMap fun x => if x.1.adv = r then linkF n x.2.1 else []
theorem linkF_more (n : Int) {ys : List Lnk} {j : Nat} (hj : j < ys.length) : linkF n (ys.take (j + 1)) = linkF n (ys.take j) ++ if ys[j].kind = 3 ∧ ys[j].id / 16 = n then [ys[j].cost] else [] := by
  unfold linkF
  rw [List.take_succ_eq_append_getElem hj, List.filterMap_append]
  congr 1
  by_cases h : ys[j].kind = 3 ∧ ys[j].id / 16 = n <;> simp [h]
theorem refF_more (r n : Int) {T : List VX} {k : Nat} (hk : k < T.length) : refF r n (T.take (k + 1)) = refF r n (T.take k) ++ if T[k].1.adv = r then linkF n T[k].2.1 else [] := by
  unfold refF
  rw [List.take_succ_eq_append_getElem hk, List.flatMap_append, List.flatMap_singleton]
theorem refF_best (C : List VX) (r n : Int) : bestL (refF r n C) = leafCost C r n := by
  refine bestL_ext fun c => ?_
  rw [mem_leaf]
  unfold refF linkF
  rw [List.mem_flatMap]
  constructor
  · rintro ⟨x, hx, hm⟩
    split at hm
    · rename_i h1
      rw [List.mem_filterMap] at hm
      obtain ⟨y, hy, he⟩ := hm
      split at he
      · rename_i h2
        injection he with he
        exact ⟨x, hx, y, hy, h1, h2.1, h2.2, he⟩
      · cases he
    · cases hm
  · rintro ⟨x, hx, y, hy, g1, g2, g3, g4⟩
    refine ⟨x, hx, ?_⟩
    rw [if_pos g1, List.mem_filterMap]
    exact ⟨y, hy, by rw [if_pos ⟨g2, g3⟩, g4]⟩
def preF (f : Int → Int → Option Int) (i : Nat) : List Lf := (rng 1 i).flatMap fun r => (rng 0 4).filterMap (leafA f r)
theorem leaves_pre (f : Int → Int → Option Int) : leavesC f = preF f 15 := rfl
theorem preF_more (f : Int → Int → Option Int) (i : Nat) : preF f (i + 1) = preF f i ++ (rng 0 4).filterMap (leafA f (1 + (i : Int))) := by
  unfold preF
  rw [rng_more 1 i, List.flatMap_append, List.flatMap_singleton]
theorem preF_len (f : Int → Int → Option Int) (i : Nat) : (preF f i).length ≤ i * 4 := by
  have := flat_len (m := 4) (fun r => (rng 0 4).filterMap (leafA f r)) (rng 1 i) (fun _ _ => fil_len _ _ _)
  rw [rng_len] at this
  exact this
theorem tdiv16 (x : Int) (h : 0 ≤ x) : Int.tdiv x 16 = x / 16 := Int.tdiv_eq_ediv_of_nonneg h


end Go.Proofs.YtpnbibokddhheaaGreat

/-
  A description that was handed in.
-/
namespace Go.Proofs.YtpnbibokddhheaaGreat
open Go.ChangeShapes Go.WideShapes Go.RowKit Go.Deep Go.Joins

section
variable {H : Type} {enc : TypeId × Value → H} {w : World} {base : Nat} {spare : Nat → Bool} {held : Bool}
set_option maxRecDepth 100000 in
theorem open_lsa9 {r : Reach} {b0 : Nat} {v : Value} {d : DataW H} {p : List MemPlace} (hv : Value.okWide Tryz.prog w r b0 31 v) (h : DataW.Trod enc Tryz.prog w base spare held 31 v d p) :
    ∃ x : Lsa, v = .agg x.cells.toArray ∧ x.ok w w.heap.size := by
  obtain ⟨cs, rfl, _⟩ := okWide_struct Tryz.underlying31 hv
  obtain ⟨n, hn⟩ := h
  obtain ⟨x, he, hx⟩ := dec_lsa hn
  refine ⟨x, ?_, hx⟩
  congr 1
  exact Array.toList_inj.1 he
end

end Go.Proofs.YtpnbibokddhheaaGreat

/-
  A row of truths that was handed in.
-/
namespace Go.Proofs.YtpnbibokddhheaaGreat
open Go.ChangeShapes Go.WideShapes Go.RowKit Go.Deep Go.Joins


end Go.Proofs.YtpnbibokddhheaaGreat

/-
  Three small numbers, and a row of such, that were handed in.
-/
namespace Go.Proofs.YtpnbibokddhheaaGreat
open Go.ChangeShapes Go.WideShapes Go.RowKit Go.Deep Go.Joins

section
variable {H : Type} {enc : TypeId × Value → H} {w : World} {base : Nat} {spare : Nat → Bool} {held : Bool}
set_option maxRecDepth 100000 in
theorem open_three8 {r : Reach} {b0 : Nat} {v : Value} {d : DataW H} {p : List MemPlace} (hv : Value.okWide Tryz.prog w r b0 23 v) (h : DataW.Trod enc Tryz.prog w base spare held 23 v d p) :
    ∃ x y z : Nat, v = .agg #[.int .u8 (x : Int), .int .u8 (y : Int), .int .u8 (z : Int)] ∧ x ≤ 255 ∧ y ≤ 255 ∧ z ≤ 255 := by
  obtain ⟨fuel, hf⟩ := h
  obtain ⟨xs, m, _, _, hlen, _, hi⟩ := DataW.trod_array Tryz.underlying23 hf
  have hc2 : Tryz.prog.cellsOf 23 = 3 := by kernel_rfl
  have hc1 : Tryz.prog.cellsOf 5 = 1 := by kernel_rfl
  have hxs : ∀ i, i < 3 → ∃ y, DataW.trod enc Tryz.prog w base spare held m 5 ((v.cells.toList.drop i).take 1) = some y := by
    intro i h2
    have := hi i h2
    rw [hc1, Nat.mul_one] at this
    have hl : i < xs.length := by omega
    exact ⟨xs[i], by rw [this, List.getElem?_eq_getElem hl]⟩
  rw [hc2] at hlen
  obtain ⟨c0, c1, c2, hcs⟩ : ∃ c0 c1 c2, v.cells.toList = [c0, c1, c2] := by
    match hc : v.cells.toList, hlen with
    | [c0, c1, c2], _ => exact ⟨c0, c1, c2, rfl⟩
  obtain ⟨y0, t0⟩ := hxs 0 (by omega)
  obtain ⟨y1, t1⟩ := hxs 1 (by omega)
  obtain ⟨y2, t2⟩ := hxs 2 (by omega)
  rw [hcs] at t0 t1 t2
  simp at t0 t1 t2
  obtain ⟨n0, e0, _, w0⟩ := DataW.trod_int Tryz.underlying5 t0
  obtain ⟨n1, e1, _, w1⟩ := DataW.trod_int Tryz.underlying5 t1
  obtain ⟨n2, e2, _, w2⟩ := DataW.trod_int Tryz.underlying5 t2
  obtain ⟨a0, rfl, q0⟩ := u8_nat w0
  obtain ⟨a1, rfl, q1⟩ := u8_nat w1
  obtain ⟨a2, rfl, q2⟩ := u8_nat w2
  simp at e0 e1 e2
  refine ⟨a0, a1, a2, ?_, q0, q1, q2⟩
  have hcells : v.cells = #[.int .u8 (a0 : Int), .int .u8 (a1 : Int), .int .u8 (a2 : Int)] := by
    apply Array.toList_inj.1; rw [hcs, e0, e1, e2]
  have hsz := hv
  simp only [Value.okWide, Tryz.underlying23] at hsz
  obtain ⟨cs, rfl, _⟩ := hsz
  exact congrArg Value.agg hcells

def pcell (b : Nat) : List Value := [.int .u8 (b : Int)]
theorem dec_pcell {n : Nat} {cs : List Value} {x : DataW H × List MemPlace} (h : DataW.trod enc Tryz.prog w base spare held n 5 cs = some x) : ∃ d : Nat, cs = pcell d ∧ d ≤ 255 := by
  obtain ⟨b, e, _, hw⟩ := DataW.trod_int Tryz.underlying5 h
  obtain ⟨a, rfl, q⟩ := u8_nat hw
  exact ⟨a, e, q⟩
set_option maxRecDepth 100000 in
theorem open_picks {a : Option Addr} {len cap : Nat} {d : DataW H} {p : List MemPlace} (h : DataW.Trod enc Tryz.prog w base spare held 24 (.slice a len cap) d p) :
    ∃ l : List Nat, len = l.length ∧ RowsAt 1 pcell w w.heap.size a l ∧ l.length ≤ maxLen ∧ ∀ x ∈ l, x ≤ 255 := by
  obtain ⟨n, hn⟩ := h
  obtain ⟨A, c, R, he, hr, hm, hok⟩ := open_rows (C := 1) pcell (fun x => x ≤ 255) (by decide) Tryz.underlying24 (by kernel_rfl) (fun _ _ _ h => dec_pcell h) hn
  simp [Value.cells] at he
  obtain ⟨rfl, rfl, rfl⟩ := he
  exact ⟨R, rfl, hr, hm, hok⟩
end

end Go.Proofs.YtpnbibokddhheaaGreat

/-
  The walk of elect.best.
-/
namespace Go.Proofs.YtpnbibokddhheaaGreat
open Go.RowKit

set_option maxHeartbeats 1000000 in
set_option maxRecDepth 100000 in
theorem best_any (f : Nat) (hcall : ∀ (xs : Array Value) (w : World), (callFunc f xs).run Tryz.prog w = .ok (.enter f xs) w) (q : Cand → Bool) (hf : ∀ (a b c d : Int) w, Calls Tryz.prog f #[.agg #[.int .i64 a, .int .i64 b, .int .i64 c, .int .i64 d]] w fun e w' => e = .returned (.bool (q ⟨a, b, c, d⟩)) ∧ Below w.heap.size w w')
    (A : Option Addr) (cap : Nat) (l : List Cand) (w : World) (hl : CandsAt w w.heap.size A l) (hn : l.length ≤ maxLen) :
    Calls Tryz.prog 214 #[.slice A l.length cap, .func (.func f) #[] #[]] w fun e w' => e = .returned (.int .i64 (bestC q l).id) ∧ Below w.heap.size w w' := by
  unfold maxLen at hn
  have Hf := Lib.hid hf; clear hf
  have Hl := Lib.hid hl; clear hl
  go_enter Tryz.func214, Tryz.ntmps214
  go_wp2
  go_loopw [10] (fun i wr => ∃ k : Nat, k ≤ l.length ∧ i = .int .i64 k ∧ Blk wr w.heap.size 190 (bestK q l k).row ∧ Below w.heap.size w wr) (fun i _ => l.length - (intOf i).toNat)
  case atStart =>
    exact ⟨0, Nat.zero_le _, rfl, Blk.new _ _ _, (Below.refl _ _).alloc (Nat.le_refl _) _⟩
  case round =>
    obtain ⟨k, hk, rfl, hB, hb⟩ := hrel
    have hsz := hB.lt
    by_cases hlt : k < l.length
    · obtain ⟨b, o, rfl, hbB, e0, e1, e2, e3⟩ := CandsAt.at_ (show CandsAt wr _ _ _ from Reads.below Hl.out hb) k hlt
      have hs := bestK_succ q l k hlt
      generalize l[k] = c at *
      generalize hbk : bestK q l k = bb at *
      have Hbk := Lib.hid hbk; clear hbk
      rcases c with ⟨ci, cp, cd, cb⟩
      rcases bb with ⟨bi, bp, bd, bbd⟩
      have hT : ∀ w1 t, Below (wr.alloc (.cells #[.int .i64 ci, .int .i64 cp, .int .i64 cd, .int .i64 cb] t)).heap.size (wr.alloc (.cells #[.int .i64 ci, .int .i64 cp, .int .i64 cd, .int .i64 cb] t)) w1 → Blk w1 wr.heap.size t #[.int .i64 ci, .int .i64 cp, .int .i64 cd, .int .i64 cb] := fun w1 t h => (Blk.new _ _ _).below h (by simp)
      have hT2 : ∀ w1 o, Below (wr.alloc o).heap.size (wr.alloc o) w1 → Blk w1 w.heap.size 190 #[.int .i64 bi, .int .i64 bp, .int .i64 bd, .int .i64 bbd] := fun w1 o h => (hB.alloc _).below h (by simp; omega)
      have HB := Lib.hid hB
      have HT := Lib.hid hT
      have HT2 := Lib.hid hT2
      clear hT hT2
      obtain ⟨c0, c1, c2, c3, f0, f1, f2, f3⟩ := Blk.cells4 hB
      clear hB
      rcases step_cases q ⟨bi, bp, bd, bbd⟩ ⟨ci, cp, cd, cb⟩ with ⟨t1, hx⟩ | ⟨t1, t2, hx⟩ | ⟨t1, t2, t3, hx⟩ | ⟨t1, t2, t3, t4, hx⟩ | ⟨t1, t2, t3, t4, t5, hx⟩ | ⟨t1, t2, t3, t4, t5, t6, hx⟩ | ⟨t1, t2, t3, t4, t5, t6, hx⟩
      all_goals
        rw [hx] at hs
        have Hs := Lib.hid hs
        clear hs hx
        go_wp2_with ((with_reducible refine (Hf.out _ _ _ _ _).mono ?_); rintro e w1 ⟨rfl, hb1⟩; have hB1 := HT2.out _ _ hb1; have hT1 := HT.out _ _ hb1; obtain ⟨c0, c1, c2, c3, f0, f1, f2, f3⟩ := Blk.cells4 hB1; obtain ⟨d0, d1, d2, d3, g0, g1, g2, g3⟩ := Blk.cells4 hT1; have HB1 := Lib.hid hB1; have HT1 := Lib.hid hT1; clear hB1 hT1)
        go_roundw
        case measure => simp [intOf]; omega
        go_light
      · exact ⟨k + 1, hlt, by go_num, (HB.out.alloc _).to (by rw [Hs.out]; first | done | rfl), hb.alloc (by omega) _⟩
      · exact ⟨k + 1, hlt, by go_num, HB1.out.to (by rw [Hs.out]; first | done | rfl), (hb.alloc (by omega) _).trans (hb1.mono (by simp; omega))⟩
      · exact ⟨k + 1, hlt, by go_num, (Blk.set4 HB1.out).to (by rw [Hs.out]; first | done | rfl), ((((((hb.alloc (by omega) _).trans (hb1.mono (by simp; omega)))).setCell (Nat.le_refl _) _).setCell (Nat.le_refl _) _).setCell (Nat.le_refl _) _).setCell (Nat.le_refl _) _⟩
      · exact ⟨k + 1, hlt, by go_num, (Blk.set4 HB1.out).to (by rw [Hs.out]; first | done | rfl), ((((((hb.alloc (by omega) _).trans (hb1.mono (by simp; omega)))).setCell (Nat.le_refl _) _).setCell (Nat.le_refl _) _).setCell (Nat.le_refl _) _).setCell (Nat.le_refl _) _⟩
      · exact ⟨k + 1, hlt, by go_num, HB1.out.to (by rw [Hs.out]; first | done | rfl), (hb.alloc (by omega) _).trans (hb1.mono (by simp; omega))⟩
      · exact ⟨k + 1, hlt, by go_num, (Blk.set4 HB1.out).to (by rw [Hs.out]; first | done | rfl), ((((((hb.alloc (by omega) _).trans (hb1.mono (by simp; omega)))).setCell (Nat.le_refl _) _).setCell (Nat.le_refl _) _).setCell (Nat.le_refl _) _).setCell (Nat.le_refl _) _⟩
      · exact ⟨k + 1, hlt, by go_num, HB1.out.to (by rw [Hs.out]; first | done | rfl), (hb.alloc (by omega) _).trans (hb1.mono (by simp; omega))⟩
    · obtain ⟨c0, c1, c2, c3, f0, f1, f2, f3⟩ := Blk.cells4 hB
      clear hB
      go_wp2
      go_ret
      have : k = l.length := by omega
      subst this
      exact ⟨by simp [bestK], hb⟩

end Go.Proofs.YtpnbibokddhheaaGreat

/-
  The walks of elect.Go and of the functions that it hands down.
-/
namespace Go.Proofs.YtpnbibokddhheaaGreat
open Go.RowKit

theorem call_of {P : Program} {f : FuncId} {fn : Func} (h : P.funcs[f]? = some fn) (hb : fn.body.isNone = false) (hn : (fn.name == "runtime.NumGoroutine") = false) (xs : Array Value) (w : World) :
    (callFunc f xs).run P w = .ok (.enter f xs) w := by
  have hn' : fn.name ≠ "runtime.NumGoroutine" := by simpa using hn
  have hb' : fn.body ≠ none := by intro e; rw [e] at hb; cases hb
  simp [callFunc, go_sem, h, hb', hn']

theorem call39 (xs : Array Value) (w : World) : (callFunc 215 xs).run Tryz.prog w = .ok (.enter 215 xs) w := call_of Tryz.func215 rfl (by kernel_rfl) xs w
theorem call40 (xs : Array Value) (w : World) : (callFunc 216 xs).run Tryz.prog w = .ok (.enter 216 xs) w := call_of Tryz.func216 rfl (by kernel_rfl) xs w
theorem call41 (xs : Array Value) (w : World) : (callFunc 217 xs).run Tryz.prog w = .ok (.enter 217 xs) w := call_of Tryz.func217 rfl (by kernel_rfl) xs w

set_option maxHeartbeats 400000 in
theorem go1_any (a b c d : Int) (w : World) : Calls Tryz.prog 215 #[.agg #[.int .i64 a, .int .i64 b, .int .i64 c, .int .i64 d]] w fun e w' => e = .returned (.bool (q1 ⟨a, b, c, d⟩)) ∧ Below w.heap.size w w' := by
  unfold q1
  by_cases h : (c != a) = true
  · go_enter Tryz.func215, Tryz.ntmps215
    go_wp2
    go_ret
    exact ⟨by simp [h], (Below.refl _ _).alloc (Nat.le_refl _) _⟩
  · have h := Bool.eq_false_iff.2 h
    go_enter Tryz.func215, Tryz.ntmps215
    go_wp2
    go_ret
    exact ⟨by simp [h], (Below.refl _ _).alloc (Nat.le_refl _) _⟩
set_option maxHeartbeats 400000 in
theorem go2_any (a b c d : Int) (w : World) : Calls Tryz.prog 216 #[.agg #[.int .i64 a, .int .i64 b, .int .i64 c, .int .i64 d]] w fun e w' => e = .returned (.bool (q2 ⟨a, b, c, d⟩)) ∧ Below w.heap.size w w' := by
  unfold q2
  go_enter Tryz.func216, Tryz.ntmps216
  go_wp2
  go_ret
  exact ⟨rfl, (Below.refl _ _).alloc (Nat.le_refl _) _⟩
set_option maxHeartbeats 400000 in
theorem go3_any (a b c d : Int) (w : World) : Calls Tryz.prog 217 #[.agg #[.int .i64 a, .int .i64 b, .int .i64 c, .int .i64 d]] w fun e w' => e = .returned (.bool (q3 ⟨a, b, c, d⟩)) ∧ Below w.heap.size w w' := by
  unfold q3
  go_enter Tryz.func217, Tryz.ntmps217
  go_wp2
  go_ret
  exact ⟨rfl, (Below.refl _ _).alloc (Nat.le_refl _) _⟩

set_option maxHeartbeats 1000000 in
theorem go_any (A : Option Addr) (cap : Nat) (l : List Cand) (w : World) (B : Nat) (hl : CandsAt w B A l) (hB : B ≤ w.heap.size) (hn : l.length ≤ maxLen) :
    Calls Tryz.prog 192 #[.slice A l.length cap] w fun e w' => e = .returned (.tuple #[.int .i64 (goDr l), .int .i64 (goBdr l)]) ∧ Below w.heap.size w w' := by
  have hl := hl.more hB
  have hb := Below.refl w.heap.size w
  have Hl := Lib.hid hl
  have Hn := Lib.hid hn
  clear hl hn hB
  unfold goDr goBdr
  generalize hx1 : (bestC q1 l).id = x1
  generalize hx2 : (bestC q2 l).id = x2
  generalize hx3 : (bestC q3 l).id = x3
  have H1 := Lib.hid hx1
  have H2 := Lib.hid hx2
  have H3 := Lib.hid hx3
  clear hx1 hx2 hx3
  by_cases t1 : (x1 == 0) = true <;> by_cases t2 : (x3 == 0) = true
  all_goals
    try simp only [Bool.not_eq_true] at t1
    try simp only [Bool.not_eq_true] at t2
    go_enter Tryz.func192, Tryz.ntmps192
    go_wp2_with (first
      | ((with_reducible refine Calls.mono (best_any 215 call39 q1 go1_any A cap l _ (CandsAt.of Hl.out hb hb.size) Hn.out) ?_); rw [H1.out]; rintro e w1 ⟨rfl, hbn⟩; have hb := hb.trans (hbn.mono hb.size); clear hbn)
      | ((with_reducible refine Calls.mono (best_any 216 call40 q2 go2_any A cap l _ (CandsAt.of Hl.out hb hb.size) Hn.out) ?_); rw [H2.out]; rintro e w1 ⟨rfl, hbn⟩; have hb := hb.trans (hbn.mono hb.size); clear hbn)
      | ((with_reducible refine Calls.mono (best_any 217 call41 q3 go3_any A cap l _ (CandsAt.of Hl.out hb hb.size) Hn.out) ?_); rw [H3.out]; rintro e w1 ⟨rfl, hbn⟩; have hb := hb.trans (hbn.mono hb.size); clear hbn))
    go_ret2
    exact ⟨by simp, hb⟩

theorem go_n (n : Nat) (A : Option Addr) (cap : Nat) (l : List Cand) (w : World) (B : Nat) (hl : CandsAt w B A l) (hB : B ≤ w.heap.size) (hn : l.length ≤ maxLen) (hnl : n = l.length) :
    Calls Tryz.prog 192 #[.slice A n cap] w fun e w' => e = .returned (.tuple #[.int .i64 (goDr l), .int .i64 (goBdr l)]) ∧ Below w.heap.size w w' := by
  subst hnl; exact go_any A cap l w B hl hB hn

end Go.Proofs.YtpnbibokddhheaaGreat

/-
  Layer 27: who is on a network (audit.On).
-/
namespace Go.Proofs.YtpnbibokddhheaaGreat
open Go.RowKit

def natI (n : Nat) : Int := n
def selK (l : List Stt) (q : Nat → Bool) (k : Nat) : List Int := ((List.range k).filter fun id => (tblI l id).isSome && q id).map natI
theorem selK_succ (l : List Stt) (q : Nat → Bool) (k : Nat) : selK l q (k + 1) = selK l q k ++ (if ((tblI l k).isSome && q k) = true then [natI k] else []) := by
  unfold selK
  rw [List.range_succ, List.filter_append, List.map_append]
  congr 1
  by_cases h : ((tblI l k).isSome && q k) = true <;> simp [h]
theorem selK_len (l : List Stt) (q : Nat → Bool) (k : Nat) : (selK l q k).length ≤ k := by
  unfold selK
  rw [List.length_map]
  have := List.length_filter_le (fun id => (tblI l id).isSome && q id) (List.range k)
  rwa [List.length_range] at this

set_option maxHeartbeats 2000000 in
set_option maxRecDepth 100000 in
theorem numbers_any (g : Nat) (b o : Nat) (l : List Stt) (f : Nat) (lb : Array Value) (hcall : ∀ (xs : Array Value) (w : World), (callFunc f xs).run Tryz.prog w = .ok (.enter f xs) w) (q : Nat → Bool) (w : World) (hT : Blk w g 168 (tblC (some ⟨b, o, none⟩) l))
    (hf : ∀ W, Below w.heap.size w W → ∀ id i, tblI l id = some i → Calls Tryz.prog f (#[.pointer (some ⟨b, o + i * 4, none⟩)] ++ lb) W fun e w' => e = .returned (.bool (q id)) ∧ Below W.heap.size W w') :
    Calls Tryz.prog 189 #[.pointer (some ⟨g, 0, none⟩), .func (.func f) #[] lb] w fun r w' => ∃ v, r = .returned v ∧ OwnI w' w.heap.size v (selK l q 16) ∧ Below w.heap.size w w' := by
  have HT := Lib.hid hT
  have Hf := Lib.hid hf
  clear hT hf
  go_enter Tryz.func189, Tryz.ntmps189
  go_wp2
  go_loopw [5, 9] (fun v i wr => ∃ k : Nat, k ≤ 16 ∧ i = .int .i64 k ∧ OwnI wr w.heap.size v (selK l q k) ∧ Below w.heap.size w wr) (fun _ i _ => 16 - (intOf i).toNat)
  case atStart => exact ⟨0, Nat.zero_le _, rfl, OwnI.nil _ _, Below.refl _ _⟩
  case round =>
    obtain ⟨k, hk, rfl, hown, hb⟩ := hrel
    obtain ⟨A5, c5, rfl⟩ := hown.shape
    by_cases hlt : k < 16
    · have hT := HT.out.below hb HT.out.lt
      have x0 : wr.cell? ⟨g, k, none⟩ = some (tblV (some ⟨b, o, none⟩) l k) := by rw [hT.cell k, tblC_get _ _ k hlt]
      have hs := selK_succ l q k
      have hsl := selK_len l q k
      have hkl : (k : Int) < 16 := by omega
      have Hs := Lib.hid hs
      have Hsl := Lib.hid hsl
      have Hown := Lib.hid hown
      have Hb := Lib.hid hb
      clear hs hsl hown hT hb
      rcases hi : tblI l k with _ | i
      · have e : tblV (some ⟨b, o, none⟩) l k = .pointer none := by unfold tblV; rw [hi]
        rw [e] at x0
        have Hi := Lib.hid hi
        clear hi e
        go_wp2_with fail
        refine wp_region_held (S := fun W => W.cell? ⟨g, k, none⟩ = some (.pointer none)) (by kernel_rfl) ?_
        obtain ⟨wd, hwd⟩ : ∃ wd : World, ({ wr with drawn := wr.drawn + 1 } : World) = wd := ⟨_, rfl⟩
        rw [hwd]
        have hbwd : Below wr.heap.size wr wd := by rw [← hwd]; exact (Below.refl _ _).drew
        have hS : wd.cell? ⟨g, k, none⟩ = some (.pointer none) := cellIn x0 hbwd
        refine wpAnyH_take (i := 0) rfl (by kernel_rfl) (by kernel_rfl) (by kernel_rfl) (fun _ _ _ h => h) (Or.inl ⟨rfl, fun W hW => by (have hW' : W.cell? ⟨g, k, none⟩ = some (.pointer none) := hW); go_simp; try with_reducible rfl⟩) hS ?_
        refine wpAnyH_take (i := 1) rfl (by kernel_rfl) (by kernel_rfl) (by kernel_rfl) (fun _ _ _ h => h) (Or.inl ⟨rfl, fun W hW => by (have hW' : W.cell? ⟨g, k, none⟩ = some (.pointer none) := hW); go_simp; try with_reducible rfl⟩) hS ?_
        refine wpAnyH_take (i := 2) rfl (by kernel_rfl) (by kernel_rfl) (by kernel_rfl) (fun _ _ _ h => h) (Or.inl ⟨rfl, fun W hW => by (have hW' : W.cell? ⟨g, k, none⟩ = some (.pointer none) := hW); go_simp; try with_reducible rfl⟩) hS ?_
        refine wpAnyH_take (i := 3) rfl (by kernel_rfl) (by kernel_rfl) (by kernel_rfl) (fun _ _ _ h => h) (Or.inl ⟨rfl, fun W hW => by (have hW' : W.cell? ⟨g, k, none⟩ = some (.pointer none) := hW); go_simp; try with_reducible rfl⟩) hS ?_
        refine wpAnyH_take (i := 4) rfl (by kernel_rfl) (by kernel_rfl) (by kernel_rfl) (fun _ _ _ h => h) (Or.inl ⟨rfl, fun W hW => by (have hW' : W.cell? ⟨g, k, none⟩ = some (.pointer none) := hW); go_simp; try with_reducible rfl⟩) hS ?_
        refine wpAnyH_take (i := 5) rfl (by kernel_rfl) (by kernel_rfl) (by kernel_rfl) (fun _ _ _ h => h) (Or.inl ⟨rfl, fun W hW => by (have hW' : W.cell? ⟨g, k, none⟩ = some (.pointer none) := hW); go_simp; try with_reducible rfl⟩) hS ?_
        refine wpAnyH_done (by kernel_rfl) ?_ _
        have hownd : OwnI wd w.heap.size (.slice A5 (selK l q k).length c5) (selK l q k) := Hown.out.below hbwd
        have hbd : Below w.heap.size w wd := Hb.out.trans (hbwd.mono Hb.out.size)
        have Hownd := Lib.hid hownd
        have Hbd := Lib.hid hbd
        clear hwd hbwd hS hownd hbd x0
        go_simp
        go_wp2
        go_roundw
        case measure => simp [intOf]; omega
        case rel => exact ⟨k + 1, hlt, by go_num, by rw [Hs.out, Hi.out]; simpa using Hownd.out, Hbd.out⟩
      · have e : tblV (some ⟨b, o, none⟩) l k = .pointer (some ⟨b, o + i * 4, none⟩) := by unfold tblV; rw [hi]; rfl
        rw [e] at x0
        have Hi := Lib.hid hi
        clear hi e
        cases hq : q k
        all_goals
          have Hq := Lib.hid hq
          clear hq
          go_wp2_with fail
          refine wp_region_held (S := fun W => W.cell? ⟨g, k, none⟩ = some (.pointer (some ⟨b, o + i * 4, none⟩))) (by kernel_rfl) ?_
          obtain ⟨wd, hwd⟩ : ∃ wd : World, ({ wr with drawn := wr.drawn + 1 } : World) = wd := ⟨_, rfl⟩
          rw [hwd]
          have hbwd : Below wr.heap.size wr wd := by rw [← hwd]; exact (Below.refl _ _).drew
          have hS : wd.cell? ⟨g, k, none⟩ = some (.pointer (some ⟨b, o + i * 4, none⟩)) := cellIn x0 hbwd
          refine wpAnyH_take (i := 0) rfl (by kernel_rfl) (by kernel_rfl) (by kernel_rfl) (fun _ _ _ h => h) (Or.inl ⟨rfl, fun W hW => by (have hW' : W.cell? ⟨g, k, none⟩ = some (.pointer (some ⟨b, o + i * 4, none⟩)) := hW); go_simp; try with_reducible rfl⟩) hS ?_
          refine wpAnyH_take (i := 1) rfl (by kernel_rfl) (by kernel_rfl) (by kernel_rfl) (fun _ _ _ h => h) (Or.inl ⟨rfl, fun W hW => by (have hW' : W.cell? ⟨g, k, none⟩ = some (.pointer (some ⟨b, o + i * 4, none⟩)) := hW); go_simp; try with_reducible rfl⟩) hS ?_
          refine wpAnyH_take (i := 2) rfl (by kernel_rfl) (by kernel_rfl) (by kernel_rfl) (fun _ _ _ h => h) (Or.inl ⟨rfl, fun W hW => by (have hW' : W.cell? ⟨g, k, none⟩ = some (.pointer (some ⟨b, o + i * 4, none⟩)) := hW); go_simp; try with_reducible rfl⟩) hS ?_
          refine wpAnyH_take (i := 3) rfl (by kernel_rfl) (by kernel_rfl) (by kernel_rfl) (fun _ _ _ h => h) (Or.inl ⟨rfl, fun W hW => by (have hW' : W.cell? ⟨g, k, none⟩ = some (.pointer (some ⟨b, o + i * 4, none⟩)) := hW); go_simp; try with_reducible rfl⟩) hS ?_
          refine wpAnyH_take (i := 4) rfl (by kernel_rfl) (by kernel_rfl) (by kernel_rfl) (fun _ _ _ h => h) (Or.inl ⟨rfl, fun W hW => by (have hW' : W.cell? ⟨g, k, none⟩ = some (.pointer (some ⟨b, o + i * 4, none⟩)) := hW); go_simp; try with_reducible rfl⟩) hS ?_
          refine wpAnyH_take (i := 5) rfl (by kernel_rfl) (by kernel_rfl) (by kernel_rfl) (fun _ _ _ h => h) (Or.inl ⟨rfl, fun W hW => by (have hW' : W.cell? ⟨g, k, none⟩ = some (.pointer (some ⟨b, o + i * 4, none⟩)) := hW); go_simp; try with_reducible rfl⟩) hS ?_
          refine wpAnyH_done (by kernel_rfl) ?_ _
          have hownd : OwnI wd w.heap.size (.slice A5 (selK l q k).length c5) (selK l q k) := Hown.out.below hbwd
          have hbd : Below w.heap.size w wd := Hb.out.trans (hbwd.mono Hb.out.size)
          have Hownd := Lib.hid hownd
          have Hbd := Lib.hid hbd
          clear hwd hbwd hS hownd hbd x0
          go_simp
        · go_wp2_with ((with_reducible refine Calls.mono (Hf.out _ Hbd.out k i Hi.out) ?_); rw [Hq.out]; rintro r w2 ⟨rfl, hb2⟩; have Hown2 := Lib.hid (Hownd.out.below hb2); have Hb2 := Lib.hid (Hbd.out.trans (hb2.mono Hbd.out.size)); clear hb2)
          go_roundw
          case measure => simp [intOf]; omega
          case rel => exact ⟨k + 1, hlt, by go_num, by rw [Hs.out, Hi.out, Hq.out]; simpa using Hown2.out, Hb2.out⟩
        · go_wp2_with (first
            | (at_builtin; refine app_int rfl _ _ rfl w.heap.size (.slice A5 (selK l q k).length c5) (selK l q k) rfl (Hown2.out.alloc _) w2.heap.size (k : Int) rfl ((Blk.new _ _ _).cell 0) (by have := Hsl.out; omega) (by have := Hb2.out.size; simp; omega) ?_; intro v5 w5 hown5 hg5; have Hown5 := Lib.hid hown5; have Hb5 := Lib.hid ((Hb2.out.alloc Hb2.out.size _).grown hg5 (Hb2.out.alloc Hb2.out.size _).size (fun j e => (Hown2.out.block j e).1)); clear hown5 hg5)
            | ((with_reducible refine Calls.mono (Hf.out _ Hbd.out k i Hi.out) ?_); rw [Hq.out]; rintro r w2 ⟨rfl, hb2⟩; have Hown2 := Lib.hid (Hownd.out.below hb2); have Hb2 := Lib.hid (Hbd.out.trans (hb2.mono Hbd.out.size)); clear hb2))
          go_roundw
          case measure => simp [intOf]; omega
          case rel => exact ⟨k + 1, hlt, by go_num, by rw [Hs.out, Hi.out, Hq.out]; simpa [natI] using Hown5.out, Hb5.out⟩
    · have hkk : k = 16 := by omega
      subst hkk
      have Hown := Lib.hid hown
      have Hb := Lib.hid hb
      clear hown hb
      go_wp2
      go_ret
      exact ⟨_, rfl, Hown.out, Hb.out⟩

/-- the predicate that audit.on hands down -/
theorem on1_any (b o i bs : Nat) (lan : Int) (l : List Stt) (w : World) (B : Nat) (hl : StatesAt w B (some ⟨b, o, none⟩) l) (hi : i < l.length) (hB : B ≤ w.heap.size) (_hbs : bs < w.heap.size) (hc : w.cell? ⟨bs, 0, none⟩ = some (.int .i64 lan)) :
    Calls Tryz.prog 190 #[.pointer (some ⟨b, o + i * 4, none⟩), .pointer (some ⟨bs, 0, none⟩)] w fun r w' => r = .returned (.bool (ifaceOf (l.getD i default).views lan).2) ∧ Below w.heap.size w w' := by
  obtain ⟨b', o', e, hbB, -, x1, -, -⟩ := States.at_ hl.rows i hi
  injection e with e
  injection e with e1 e2
  subst e1 e2
  have hs := hl.each _ (List.getElem_mem hi)
  rw [show l.getD i default = l[i] by simp [List.getD, hi]]
  generalize l[i] = s at *
  have Hs := Lib.hid hs
  have Hcall := Lib.hid (iface_any b (o + i * 4) lan s.va s.vcap s.views w B (by omega) x1 hs.views hB hs.viewsLen)
  clear hl hs x1
  generalize hI : ifaceOf s.views lan = I at *
  clear hI
  rcases I with ⟨⟨a1, a2, a3, a4, a5⟩, is⟩
  go_enter Tryz.func190, Tryz.ntmps190
  go_wp2_with (go_at_call 136; (with_reducible refine Calls.mono Hcall.out ?_); rintro r w1 ⟨rfl, hb1⟩)
  go_ret
  exact ⟨rfl, hb1.alloc hb1.size _⟩

end Go.Proofs.YtpnbibokddhheaaGreat

/-
  The walks of slices.IndexFunc and slices.Clone at candidates.
-/
namespace Go.Proofs.YtpnbibokddhheaaGreat
open Go.RowKit

def idxI (self : Int) (l : List Cand) : Int := match idx self l with | some i => (i : Int) | none => -1
theorem idxI_hit {self : Int} {l : List Cand} {k : Nat} (h : k < l.length) (hn : ∀ j, (hj : j < k) → (l[j].id == self) = false) (hk : (l[k].id == self) = true) : idxI self l = (k : Int) := by
  have : idx self l = some k := by
    unfold idx
    rw [List.findIdx?_eq_some_iff_getElem]
    exact ⟨h, hk, fun j hj => by simp [hn j hj]⟩
  simp [idxI, this]
theorem idxI_none {self : Int} {l : List Cand} (hn : ∀ j, (hj : j < l.length) → (l[j].id == self) = false) : idxI self l = -1 := by
  have : idx self l = none := by
    unfold idx
    rw [List.findIdx?_eq_none_iff]
    intro x hx
    obtain ⟨j, hj, rfl⟩ := List.getElem_of_mem hx
    exact hn j hj
  simp [idxI, this]

set_option maxHeartbeats 400000 in
theorem is_any (a b c d self : Int) (bs : Nat) (w : World) (hc : w.cell? ⟨bs, 0, none⟩ = some (.int .i64 self)) (hbs : bs < w.heap.size) :
    Calls Tryz.prog 193 #[.agg #[.int .i64 a, .int .i64 b, .int .i64 c, .int .i64 d], .pointer (some ⟨bs, 0, none⟩)] w fun e w' => e = .returned (.bool (a == self)) ∧ Below w.heap.size w w' := by
  have hc1 : ∀ o, (w.alloc o).cell? ⟨bs, 0, none⟩ = some (.int .i64 self) := fun o => (World.cell?_alloc_lt w o ⟨bs, 0, none⟩ hbs).trans hc
  go_enter Tryz.func193, Tryz.ntmps193
  go_wp2
  go_ret
  exact ⟨rfl, (Below.refl _ _).alloc (Nat.le_refl _) _⟩

set_option maxHeartbeats 1000000 in
set_option maxRecDepth 100000 in
theorem idx_any (self : Int) (bs : Nat) (A : Option Addr) (cap : Nat) (l : List Cand) (w : World) (B : Nat) (hl : CandsAt w B A l) (hB : B ≤ w.heap.size) (hn : l.length ≤ maxLen)
    (hc : w.cell? ⟨bs, 0, none⟩ = some (.int .i64 self)) (hbs : bs < w.heap.size) :
    Calls Tryz.prog 191 #[.slice A l.length cap, .func (.func 193) #[] #[.pointer (some ⟨bs, 0, none⟩)]] w
      fun e w' => e = .returned (.int .i64 (idxI self l)) ∧ Below w.heap.size w w' := by
  unfold maxLen at hn
  have hl := hl.more hB
  have Hl := Lib.hid hl
  have Hc := Lib.hid hc
  clear hl hc hB
  go_enter Tryz.func191, Tryz.ntmps191
  go_wp2
  go_loopw [8] (fun i wr => ∃ k : Nat, k ≤ l.length ∧ i = .int .i64 k ∧ (∀ j, (hj : j < k) → (hj2 : j < l.length) → (l[j].id == self) = false) ∧ Below w.heap.size w wr) (fun i _ => l.length - (intOf i).toNat)
  case atStart => exact ⟨0, Nat.zero_le _, rfl, fun j hj => absurd hj (Nat.not_lt_zero _), Below.refl _ _⟩
  case round =>
    obtain ⟨k, hk, rfl, hno, hb⟩ := hrel
    have Hno := Lib.hid hno
    clear hno
    by_cases hlt : k < l.length
    · obtain ⟨b, o, rfl, hbB, e0, e1, e2, e3⟩ := CandsAt.at_ (CandsAt.below Hl.out hb) k hlt
      have hck : wr.cell? ⟨bs, 0, none⟩ = some (.int .i64 self) := (hb.cell hbs).trans Hc.out
      have Hck := Lib.hid hck
      have hsz : bs < wr.heap.size := Nat.lt_of_lt_of_le hbs hb.size
      clear hck
      by_cases hit : (l[k].id == self) = true
      · have hfin := idxI_hit hlt (fun j hj => Hno.out j hj (by omega)) hit
        have Hfin := Lib.hid hfin
        clear hfin
        go_wp2_with (go_at_call 193; (with_reducible refine Calls.mono (is_any _ _ _ _ self bs _ Hck.out hsz) ?_); rintro e w1 ⟨rfl, hb1⟩)
        go_ret
        exact ⟨by rw [Hfin.out]; rfl, hb.trans (hb1.mono hb.size)⟩
      · have hit := Bool.eq_false_iff.2 hit
        go_wp2_with (go_at_call 193; (with_reducible refine Calls.mono (is_any _ _ _ _ self bs _ Hck.out hsz) ?_); rintro e w1 ⟨rfl, hb1⟩)
        go_roundw
        case measure => simp [intOf]; omega
        case rel =>
          refine ⟨k + 1, hlt, by go_num, fun j hj hj2 => ?_, hb.trans (hb1.mono hb.size)⟩
          rcases Nat.lt_succ_iff_lt_or_eq.1 hj with h | h
          · exact Hno.out j h hj2
          · subst h; exact hit
    · have : k = l.length := by omega
      subst this
      have hfin := idxI_none (fun j hj => Hno.out j hj hj)
      have Hfin := Lib.hid hfin
      clear hfin
      go_wp2
      go_ret
      exact ⟨by rw [Hfin.out]; rfl, hb⟩

theorem infoC : (Tryz.prog.info? 190).map (fun i => (i.zero, i.size, i.bytes)) = some (some (.agg #[.int .i64 0, .int .i64 0, .int .i64 0, .int .i64 0]), 4, 32) := by kernel_rfl

theorem cells_one (l : List Cand) : ∀ u ∈ l.flatMap Cand.cells, u.oneCell' = true := by
  intro u hu
  rw [List.mem_flatMap] at hu
  obtain ⟨c, _, hc⟩ := hu
  simp [Cand.cells] at hc
  rcases hc with rfl | rfl | rfl | rfl <;> rfl

set_option maxHeartbeats 1000000 in
theorem clone_any (A : Option Addr) (cap : Nat) (l : List Cand) (w : World) (B : Nat) (hl : CandsAt w B A l) (hB : B ≤ w.heap.size) (hn : l.length ≤ 2 ^ 40) :
    Calls Tryz.prog 194 #[.slice A l.length cap] w fun e w' => ∃ v, e = .returned v ∧ OwnC w' w.heap.size v l ∧ Below w.heap.size w w' := by
  have qT : ∀ (w : World) (a : Option Addr) (n c n' c' : Nat), (binOp .eql 187 (.slice a n c) (.slice none n' c')).run Tryz.prog w = .ok (.bool a.isNone) w := fun w a n c n' c' => Lib.run_eql_slice_nil w _ _ a n c n' c' Tryz.underlying187
  have hl := hl.more hB
  clear hB
  rcases A with _ | a
  · have : l = [] := by
      rcases l with _ | ⟨c, l⟩
      · rfl
      · obtain ⟨b, o, h, _⟩ := CandsAt.at_ hl 0 (by simp)
        cases h
    subst this
    clear hl
    go_enter Tryz.func194, Tryz.ntmps194
    go_wp2
    go_ret
    exact ⟨_, rfl, ⟨rfl, .inl ⟨rfl, rfl⟩⟩, Below.refl _ _⟩
  · have Hl := Lib.hid hl
    clear hl
    obtain ⟨i0, hi, hz0, hz1, hz2⟩ := info_parts infoC
    have h0 : (w.alloc (.cells #[] 190)).ownsRow w.heap.size 190 4 (.slice (some ⟨w.heap.size, 0, none⟩) 0 0) 0 [] := World.ownsRow_lit w #[] 0 (Nat.le_refl _) (by simp) rfl
    have H0 := Lib.hid h0
    clear h0
    have hnews : ∀ o j u, (l.flatMap Cand.cells)[j]? = some u → (w.alloc o).cell? (a.add j) = some u := by
      intro o j u hu
      have hj := (List.getElem?_eq_some_iff.1 hu).1
      rw [length_flat] at hj
      obtain ⟨b, o', h, hb, hc⟩ := Hl.out.2 (by omega)
      cases h
      rw [show (⟨b, o', none⟩ : Addr).add j = ⟨b, o' + j, none⟩ by unfold Addr.add; split <;> simp_all]
      exact (World.cell?_alloc_lt w o _ (by exact hb)).trans (hc j u hu)
    have Hnews := Lib.hid hnews
    clear hnews
    go_enter Tryz.func194, Tryz.ntmps194
    go_wp2_with (at_builtin; refine wpList_append_own _ rfl _ _ 187 rfl w.heap.size 190 i0 _ 4 32 Tryz.underlying187 hi hz0 hz1 hz2 rfl (by decide) _ _ _ rfl H0.out a l.length cap (l.flatMap Cand.cells) rfl (length_flat l) ?c1 ?c2 ?c3 ?c4 ?c5 ?_)
    case c1 => exact Hnews.out _
    case c2 => exact cells_one l
    case c3 => unfold maxLen; omega
    case c4 => omega
    case c5 => simp
    · intro v' w1 hown hg _
      go_wp2
      go_ret
      refine ⟨_, rfl, ?_, ((Below.refl _ _).alloc (Nat.le_refl _) _).grown hg (by simp) (by simp [Value.ownBlock])⟩
      simpa [OwnC] using hown

end Go.Proofs.YtpnbibokddhheaaGreat

/-
  Layer 27: the candidates on a network (audit.cands).
-/
namespace Go.Proofs.YtpnbibokddhheaaGreat
open Go.RowKit

theorem OwnI.rows1 {w : World} {B : Nat} {A : Option Addr} {n cap : Nat} {l : List Int} (h : OwnI w B (.slice A n cap) l) : n = l.length ∧ RowsAt 1 icell w w.heap.size A l := by
  have e : l.flatMap icell = intsOf l := by
    clear h
    induction l with
    | nil => rfl
    | cons x l ih => simp only [List.flatMap_cons, ih]; rfl
  have h' : OwnR 3 1 icell w B (.slice A n cap) l := by
    unfold OwnR
    rw [e]
    exact h
  exact OwnR.rows (C := 1) (cells := icell) (fun _ => rfl) h'
theorem row_intA {w : World} {B : Nat} {A : Option Addr} {l : List Int} (h : RowsAt 1 icell w B A l) (k : Nat) (hk : k < l.length) : ∃ b o, A = some ⟨b, o, none⟩ ∧ w.cell? ⟨b, o + k, none⟩ = some (.int .i64 l[k]) := by
  obtain ⟨b, o, e, _, hc⟩ := RowsAt.at_ h k hk
  have := hc 0 (.int .i64 l[k]) (by omega) rfl
  exact ⟨b, o, e, by simpa using this⟩
theorem selK_on (l : List Stt) (lan : Int) : selK l (onB l lan) 16 = (onIds l lan).map natI := by
  unfold selK onIds
  congr 1
  refine List.filter_congr fun id _ => ?_
  unfold onB
  rcases tblI l id with _ | i <;> simp
/-- a table of a slice that begins somewhere, whatever the slice -/
theorem tbl_some {w : World} {B : Nat} {A : Option Addr} {l : List Stt} (h : StatesAt w B A l) : ∃ b o, tblC A l = tblC (some ⟨b, o, none⟩) l ∧ StatesAt w B (some ⟨b, o, none⟩) l := by
  by_cases h0 : 0 < l.length
  · obtain ⟨b, o, e, _⟩ := RowsAt.at_ h.rows 0 h0
    exact ⟨b, o, by rw [e], e ▸ h⟩
  · have : l = [] := List.eq_nil_of_length_eq_zero (by omega)
    subst this
    exact ⟨0, 0, by rw [tblC_nil, tblC_nil], ⟨RowsAt.nil, by simp⟩⟩

theorem call_on1 (xs : Array Value) (w : World) : (callFunc 190 xs).run Tryz.prog w = .ok (.enter 190 xs) w := call_of Tryz.func190 rfl (by kernel_rfl) xs w
set_option maxHeartbeats 1000000 in
set_option maxRecDepth 100000 in
theorem onS_any (g b o : Nat) (lan : Int) (l : List Stt) (w : World) (hT : Blk w g 168 (tblC (some ⟨b, o, none⟩) l)) (hl : StatesAt w w.heap.size (some ⟨b, o, none⟩) l) :
    Calls Tryz.prog 135 #[.pointer (some ⟨g, 0, none⟩), .int .i64 lan] w fun r w' => ∃ v, r = .returned v ∧ OwnI w' w.heap.size v ((onIds l lan).map natI) ∧ Below w.heap.size w w' := by
  have hb1 : Below w.heap.size w (w.alloc (.cells #[.int .i64 lan] 3)) := (Below.refl _ _).alloc (Nat.le_refl _) _
  have hcall := numbers_any g b o l 190 #[.pointer (some ⟨w.heap.size, 0, none⟩)] call_on1 (onB l lan) (w.alloc (.cells #[.int .i64 lan] 3)) (hT.alloc _) (fun W hW id i hi => by
    obtain ⟨hil, _⟩ := tblI_id hi
    have hbW : Below w.heap.size w W := hb1.trans (hW.mono (by simp))
    have hc : W.cell? ⟨w.heap.size, 0, none⟩ = some (.int .i64 lan) := ((Blk.new w _ _).below hW (by simp)).cell 0
    have e : onB l lan id = (ifaceOf (l.getD i default).views lan).2 := by unfold onB; rw [hi]
    rw [e]
    exact on1_any b o i w.heap.size lan l W w.heap.size (hl.below hbW) hil hbW.size (by have := hW.size; simp at this; omega) hc)
  rw [selK_on] at hcall
  have Hcall := Lib.hid hcall
  have Hb1 := Lib.hid hb1
  clear hcall hT hl hb1
  go_enter Tryz.func135, Tryz.ntmps135
  go_wp2_with (go_at_call 189; (with_reducible refine Calls.mono Hcall.out ?_); rintro r w1 ⟨v, rfl, hown, hb2⟩)
  go_ret
  exact ⟨_, rfl, hown.lower (by simp), Hb1.out.trans (hb2.mono (by simp))⟩

/-- the candidate of a number -/
def candI (l : List Stt) (lan : Int) (id : Nat) : Option Cand := (tblI l id).bind fun i => candS lan (l.getD i default)
def candsK (l : List Stt) (lan : Int) (k : Nat) : List Cand := ((onIds l lan).take k).filterMap (candI l lan)
theorem candsK_succ (l : List Stt) (lan : Int) (k : Nat) (hk : k < (onIds l lan).length) :
    ∃ i, tblI l (onIds l lan)[k] = some i ∧ i < l.length ∧ (onIds l lan)[k] < 16 ∧ candsK l lan (k + 1) = candsK l lan k ++ [⟨natI (onIds l lan)[k], (ifaceOf (l.getD i default).views lan).1.prio, (ifaceOf (l.getD i default).views lan).1.dr, (ifaceOf (l.getD i default).views lan).1.bdr⟩] := by
  have hm : (onIds l lan)[k] ∈ onIds l lan := List.getElem_mem hk
  have hon : onB l lan (onIds l lan)[k] = true := (List.mem_filter.1 hm).2
  have hr : (onIds l lan)[k] < 16 := List.mem_range.1 (List.mem_filter.1 hm).1
  unfold candsK
  rw [List.take_succ_eq_append_getElem hk, List.filterMap_append]
  generalize (onIds l lan)[k] = id at *
  unfold onB at hon
  rcases h : tblI l id with _ | i
  · rw [h] at hon; cases hon
  · rw [h] at hon
    simp only at hon
    obtain ⟨hi, he, _⟩ := tblI_id h
    refine ⟨i, rfl, hi, hr, ?_⟩
    congr 1
    have e : candI l lan id = some ⟨natI id, (ifaceOf (l.getD i default).views lan).1.prio, (ifaceOf (l.getD i default).views lan).1.dr, (ifaceOf (l.getD i default).views lan).1.bdr⟩ := by
      unfold candI candS
      rw [h, Option.bind_some, if_pos hon]
      have : (l.getD i default).id = natI id := by simp [List.getD, hi, he, natI]
      rw [this]
    simp [e]
theorem candsK_all (l : List Stt) (lan : Int) : candsK l lan (onIds l lan).length = candsOf (countedL l) lan := by
  unfold candsK
  rw [List.take_length, cands_ids]
  rfl
theorem onIds_len (l : List Stt) (lan : Int) : (onIds l lan).length ≤ 16 := by
  have := List.length_filter_le (onB l lan) (List.range 16)
  rwa [List.length_range] at this
theorem candsK_len (l : List Stt) (lan : Int) (k : Nat) : (candsK l lan k).length ≤ 16 := by
  have h1 := List.length_filterMap_le (candI l lan) ((onIds l lan).take k)
  have h2 := List.length_take_le k (onIds l lan)
  have h3 := onIds_len l lan
  unfold candsK
  simp only [List.length_take] at h1
  omega

set_option maxHeartbeats 2000000 in
set_option maxRecDepth 100000 in
theorem cands_any (g b o : Nat) (lan : Int) (l : List Stt) (w : World) (hT : Blk w g 168 (tblC (some ⟨b, o, none⟩) l)) (hl : StatesAt w w.heap.size (some ⟨b, o, none⟩) l) :
    Calls Tryz.prog 93 #[.pointer (some ⟨g, 0, none⟩), .int .i64 lan] w fun r w' => ∃ v, r = .returned v ∧ OwnC w' w.heap.size v (candsOf (countedL l) lan) ∧ Below w.heap.size w w' := by
  have Hon := Lib.hid (onS_any g b o lan l w hT hl)
  have HT := Lib.hid hT
  have Hl := Lib.hid hl
  have hol := onIds_len l lan
  clear hT hl
  go_enter Tryz.func93, Tryz.ntmps93
  go_wp2_with (go_at_call 135; (with_reducible refine Calls.mono Hon.out ?_); rintro r w1 ⟨v1, rfl, hown1, hb1⟩; obtain ⟨A1, c1, rfl⟩ := hown1.shape; have hrow := hown1.rows1.2; have Hrow := Lib.hid hrow; have Hb1 := Lib.hid hb1; clear hown1 hrow hb1)
  go_loopw [5, 14] (fun v i wr => ∃ k : Nat, k ≤ (onIds l lan).length ∧ i = .int .i64 k ∧ OwnC wr w1.heap.size v (candsK l lan k) ∧ Below w1.heap.size w1 wr) (fun _ i _ => (onIds l lan).length - (intOf i).toNat)
  case atStart => exact ⟨0, Nat.zero_le _, rfl, ⟨rfl, .inl ⟨rfl, rfl⟩⟩, Below.refl _ _⟩
  case round =>
    obtain ⟨k, hk, rfl, hown, hb⟩ := hrel
    obtain ⟨A5, c5, hv5⟩ := OwnR.shape (C := 4) (cells := Cand.cells) (L := candsK l lan k) hown
    subst hv5
    by_cases hlt : k < (onIds l lan).length
    · obtain ⟨i, hi, hil, h16, hs⟩ := candsK_succ l lan k hlt
      obtain ⟨b1, o1, hA1, x0⟩ := row_intA (Hrow.out.below hb) k (by simpa using hlt)
      subst hA1
      rw [List.getElem_map] at x0
      have hT := HT.out.below (Hb1.out.trans (hb.mono Hb1.out.size)) HT.out.lt
      have hkl : (k : Int) < ((onIds l lan).length : Int) := by omega
      generalize (onIds l lan)[k] = id at *
      have x1 : wr.cell? ⟨g, id, none⟩ = some (.pointer (some ⟨b, o + i * 4, none⟩)) := by rw [hT.cell id, tblC_get _ _ id h16]; unfold tblV; rw [hi]; rfl
      have hlw := Hl.out.below (Hb1.out.trans (hb.mono Hb1.out.size))
      obtain ⟨b', o', e, hbB, -, y1, -, -⟩ := States.at_ hlw.rows i hil
      injection e with e
      injection e with e1 e2
      subst e1 e2
      have hst := hlw.each _ (List.getElem_mem hil)
      rw [show l.getD i default = l[i] by simp [List.getD, hil]] at hs
      generalize l[i] = s at *
      have hwsz : w.heap.size ≤ wr.heap.size := Nat.le_trans Hb1.out.size hb.size
      have Hcall := Lib.hid (iface_any b (o + i * 4) lan s.va s.vcap s.views wr w.heap.size (by omega) y1 hst.views hwsz hst.viewsLen)
      have Hcl := Lib.hid (candsK_len l lan k)
      have Hown := Lib.hid hown
      have Hb := Lib.hid hb
      unfold natI at x0 hs
      have Hs := Lib.hid hs
      have hid0 : (0 : Int) ≤ (id : Int) := by omega
      have hid1 : (id : Int) < 16 := by omega
      clear hown hb hT hlw hst y1 hi hs
      generalize hI : ifaceOf s.views lan = I at *
      clear hI
      rcases I with ⟨⟨a1, a2, a3, a4, a5⟩, is⟩
      go_wp2_with (first
        | (go_at_call 136; (with_reducible refine Calls.mono Hcall.out ?_); rintro r w2 ⟨rfl, hb2⟩; have hown2 := OwnR.below (C := 4) (cells := Cand.cells) (L := candsK l lan k) Hown.out hb2; have Hown2 := Lib.hid hown2; have Hb2 := Lib.hid (Hb.out.trans (hb2.mono Hb.out.size)); clear hb2 hown2)
        | (at_builtin; go_must ((refine app_row Cand.cells (fun _ => rfl) (by decide) (by decide) infoC rfl Tryz.underlying187 (fun x u hu => by simp [Cand.cells] at hu; rcases hu with rfl | rfl | rfl | rfl <;> rfl) rfl _ _ rfl w1.heap.size (.slice A5 (candsK l lan k).length c5) (candsK l lan k) rfl (OwnR.alloc (OwnR.alloc Hown2.out _) _) (w2.heap.size + 1) (⟨(id : Int), a2, a4, a5⟩ : Cand) rfl (by exact Blk.size (w := w2.alloc _) (by simp)) (by have := Hcl.out; omega) (by have := Hb2.out.size; simp; omega) ?_; intro v5 w5 hown5 hg5 _; have Hown5 := Lib.hid hown5; have Hb5 := Lib.hid (((Hb2.out.alloc Hb2.out.size _).alloc (by have := Hb2.out.size; simp; omega) _).grown hg5 (by have := Hb2.out.size; simp; omega) (fun j e => (OwnR.block Hown2.out j e).1)); clear hown5 hg5))))
      go_roundw
      case measure => simp [intOf]; omega
      case rel => exact ⟨k + 1, hlt, by go_num, by rw [Hs.out]; exact Hown5.out, Hb5.out⟩
    · have hkk : k = (onIds l lan).length := by omega
      subst hkk
      rw [candsK_all] at hown
      have Hown := Lib.hid hown
      have Hb := Lib.hid hb
      clear hown hb
      rw [show (candsK l lan (onIds l lan).length).length = (candsOf (countedL l) lan).length by rw [candsK_all]] at *
      go_wp2
      go_ret
      exact ⟨_, rfl, OwnC.lower Hown.out Hb1.out.size, Hb1.out.trans (Hb.out.mono Hb1.out.size)⟩

end Go.Proofs.YtpnbibokddhheaaGreat

/-
  The walk of elect.Elect.
-/
namespace Go.Proofs.YtpnbibokddhheaaGreat
open Go.RowKit

theorem elect_none {self : Int} {l : List Cand} (h : idx self l = none) : elect self l = (goDr l, goBdr l) := by
  unfold elect; rw [h]
theorem elect_same {self : Int} {l : List Cand} {i : Nat} (h : idx self l = some i) (hi : i < l.length) (ha : agrees self (goDr l) (goBdr l) l[i] = true) : elect self l = (goDr l, goBdr l) := by
  unfold elect; rw [h]; simp [hi, ha]
theorem elect_turn {self : Int} {l : List Cand} {i : Nat} (h : idx self l = some i) (hi : i < l.length) (ha : agrees self (goDr l) (goBdr l) l[i] = false) :
    elect self l = (goDr (l.set i (mark self (goDr l) (goBdr l) l[i])), goBdr (l.set i (mark self (goDr l) (goBdr l) l[i]))) := by
  unfold elect; rw [h]; simp [hi, ha]
theorem idx_lt {self : Int} {l : List Cand} {i : Nat} (h : idx self l = some i) : i < l.length := by
  unfold idx at h
  rw [List.findIdx?_eq_some_iff_getElem] at h
  exact h.1
theorem set_turn2 (l : List Cand) (i : Nat) (hi : i < l.length) (x y : Int) (c : Cand) (hc : l[i] = c) :
    ((l.set i { l[i] with dr := x }).set i { (l.set i { l[i] with dr := x })[i]'(by simpa using hi) with bdr := y }) = l.set i { c with dr := x, bdr := y } := by
  subst hc
  simp

theorem box_at (w w1 : World) (v : Value) (t : TypeId) (hb : Below (w.alloc (.cells #[v] t)).heap.size (w.alloc (.cells #[v] t)) w1) : w1.cell? ⟨w.heap.size, 0, none⟩ = some v :=
  (Blk.below (Blk.new w t #[v]) hb (by simp)).cell 0

theorem own_mark2 {w : World} {B g cap n : Nat} {l : List Cand} (h : OwnC w B (.slice (some ⟨g, 0, none⟩) n cap) l) (hn : n = l.length) (i : Nat) (hi : i < l.length) (x : Int) :
    OwnC (((w.setCell ⟨g, i * 4 + 2, none⟩ (.int .i64 0)).setCell ⟨g, i * 4 + 3, none⟩ (.int .i64 0)).setCell ⟨g, i * 4 + 2, none⟩ (.int .i64 x)) B (.slice (some ⟨g, 0, none⟩) n cap) (l.set i { l[i] with dr := x, bdr := 0 }) := by
  have h1 := ((h.set2 hn i hi 0).set3 (by simpa using hn) i (by simpa using hi) 0).set2 (by simpa using hn) i (by simpa using hi) x
  simpa using h1
theorem own_mark3 {w : World} {B g cap n : Nat} {l : List Cand} (h : OwnC w B (.slice (some ⟨g, 0, none⟩) n cap) l) (hn : n = l.length) (i : Nat) (hi : i < l.length) (x : Int) :
    OwnC (((w.setCell ⟨g, i * 4 + 2, none⟩ (.int .i64 0)).setCell ⟨g, i * 4 + 3, none⟩ (.int .i64 0)).setCell ⟨g, i * 4 + 3, none⟩ (.int .i64 x)) B (.slice (some ⟨g, 0, none⟩) n cap) (l.set i { l[i] with dr := 0, bdr := x }) := by
  have h1 := ((h.set2 hn i hi 0).set3 (by simpa using hn) i (by simpa using hi) 0).set3 (by simpa using hn) i (by simpa using hi) x
  simpa using h1
theorem own_mark0 {w : World} {B g cap n : Nat} {l : List Cand} (h : OwnC w B (.slice (some ⟨g, 0, none⟩) n cap) l) (hn : n = l.length) (i : Nat) (hi : i < l.length) :
    OwnC ((w.setCell ⟨g, i * 4 + 2, none⟩ (.int .i64 0)).setCell ⟨g, i * 4 + 3, none⟩ (.int .i64 0)) B (.slice (some ⟨g, 0, none⟩) n cap) (l.set i { l[i] with dr := 0, bdr := 0 }) := by
  have h1 := (h.set2 hn i hi 0).set3 (by simpa using hn) i (by simpa using hi) 0
  simpa using h1
theorem OwnC.cands {w : World} {B n cap : Nat} {A : Option Addr} {l : List Cand} (h : OwnC w B (.slice A n cap) l) : n = l.length ∧ CandsAt w w.heap.size A l := by
  obtain ⟨A', cap', e, hc⟩ := h.shape
  cases e
  exact ⟨rfl, hc⟩

set_option maxHeartbeats 2000000 in
set_option maxRecDepth 100000 in
theorem elect_any (self : Int) (A : Option Addr) (cap : Nat) (l : List Cand) (w : World) (B : Nat) (hl : CandsAt w B A l) (hB : B ≤ w.heap.size) (hn : l.length ≤ 2 ^ 40) :
    Calls Tryz.prog 139 #[.int .i64 self, .slice A l.length cap] w fun e w' => e = .returned (.tuple #[.int .i64 (elect self l).1, .int .i64 (elect self l).2]) ∧ Below w.heap.size w w' := by
  have hl := hl.more hB
  have hn' : l.length ≤ maxLen := by unfold maxLen; omega
  have Hl := Lib.hid hl
  have Hn := Lib.hid hn'
  have hb : Below (w.alloc (.cells #[.int .i64 self] 3)).heap.size (w.alloc (.cells #[.int .i64 self] 3)) (w.alloc (.cells #[.int .i64 self] 3)) := Below.refl _ _
  have hb0 : Below w.heap.size w (w.alloc (.cells #[.int .i64 self] 3)) := (Below.refl _ _).alloc (Nat.le_refl _) _
  have hs0 : (w.alloc (.cells #[.int .i64 self] 3)).cell? ⟨w.heap.size, 0, none⟩ = some (.int .i64 self) := box_at w _ _ _ hb
  have hl0 : CandsAt (w.alloc (.cells #[.int .i64 self] 3)) (w.alloc (.cells #[.int .i64 self] 3)).heap.size A l := CandsAt.of hl hb0 hb0.size
  have Hl0 := Lib.hid hl0
  have Hs0 := Lib.hid hs0
  have hsz0 : w.heap.size < (w.alloc (.cells #[.int .i64 self] 3)).heap.size := by simp
  have Hb0 := Lib.hid hb0
  have Hb := Lib.hid hb
  have Hsz0 := Lib.hid hsz0
  clear hl hn' hB hl0 hs0 hb hb0 hsz0
  generalize hdr : goDr l = dr
  generalize hbdr : goBdr l = bdr
  have Hdr := Lib.hid hdr
  have Hbdr := Lib.hid hbdr
  rcases hi : idx self l with _ | i
  · have hfin := elect_none hi
    rw [hdr, hbdr] at hfin
    have Hfin := Lib.hid hfin
    have hI : idxI self l = -1 := by simp [idxI, hi]
    have HI := Lib.hid hI
    clear hfin hI hi hdr hbdr
    go_enter Tryz.func139, Tryz.ntmps139
    go_wp2_with (first
      | (go_at_call 192; (with_reducible refine Calls.mono (go_any A cap l _ _ (CandsAt.of Hl0.out Hb.out Hb.out.size) (Nat.le_refl _) Hn.out) ?_); rw [Hdr.out, Hbdr.out]; rintro e w1 ⟨rfl, hb1⟩; have Hb1 := Lib.hid hb1; clear hb1)
      | (go_at_call 191; (with_reducible refine Calls.mono (idx_any self w.heap.size A cap l _ _ (CandsAt.of Hl0.out Hb1.out Hb1.out.size) (Nat.le_refl _) Hn.out (box_at w _ _ _ Hb1.out) (Nat.lt_of_lt_of_le Hsz0.out Hb1.out.size)) ?_); rw [HI.out]; rintro e w2 ⟨rfl, hb2⟩))
    go_ret2
    exact ⟨by rw [Hfin.out]; rfl, Hb0.out.trans ((Hb1.out.mono (Nat.le_of_lt Hsz0.out)).trans (hb2.mono (Hb0.out.trans (Hb1.out.mono (Nat.le_of_lt Hsz0.out))).size))⟩
  · have hlt := idx_lt hi
    have hI : idxI self l = (i : Int) := by simp [idxI, hi]
    have HI := Lib.hid hI
    obtain ⟨b, o, rfl, hbB, e0, e1, e2, e3⟩ := CandsAt.at_ Hl.out i hlt
    have he : ∀ W, Below w.heap.size w W → W.cell? ⟨b, o + i * 4, none⟩ = some (.int .i64 l[i].id) ∧ W.cell? ⟨b, o + i * 4 + 1, none⟩ = some (.int .i64 l[i].prio) ∧ W.cell? ⟨b, o + i * 4 + 2, none⟩ = some (.int .i64 l[i].dr) ∧ W.cell? ⟨b, o + i * 4 + 3, none⟩ = some (.int .i64 l[i].bdr) :=
      fun W h => ⟨(h.cell (by exact hbB)).trans e0, (h.cell (by exact hbB)).trans e1, (h.cell (by exact hbB)).trans e2, (h.cell (by exact hbB)).trans e3⟩
    have HE := Lib.hid he
    clear he e0 e1 e2 e3 hI
    have htot : ∀ w1 w2, Below (w.alloc (.cells #[.int .i64 self] 3)).heap.size (w.alloc (.cells #[.int .i64 self] 3)) w1 → Below w1.heap.size w1 w2 → Below w.heap.size w w2 ∧ w2.cell? ⟨w.heap.size, 0, none⟩ = some (.int .i64 self) ∧ w.heap.size < w2.heap.size :=
      fun w1 w2 h1 h2 => ⟨(Hb0.out.trans (h1.mono (Nat.le_of_lt Hsz0.out))).trans (h2.mono (Hb0.out.trans (h1.mono (Nat.le_of_lt Hsz0.out))).size), (h2.cell (by exact Nat.lt_of_lt_of_le Hsz0.out h1.size)).trans (box_at w _ _ _ h1), Nat.lt_of_lt_of_le Hsz0.out (Nat.le_trans h1.size h2.size)⟩
    have Htot := Lib.hid htot
    clear htot
    have hcs : ∀ P : Prop, (agrees self dr bdr l[i] = true → ∀ t1 : ((dr == self) == (l[i].dr == self)) = true, ∀ t2 : ((bdr == self) == (l[i].bdr == self)) = true, P) → P → P := fun P _ h => h
    clear hcs
    by_cases ha : agrees self dr bdr l[i] = true
    · have hfin := elect_same hi hlt (by rw [hdr, hbdr]; exact ha)
      rw [hdr, hbdr] at hfin
      have Hfin := Lib.hid hfin
      have t1 : ((dr == self) == (l[i].dr == self)) = true := by unfold agrees at ha; simp only [Bool.and_eq_true] at ha; exact ha.1
      have t2 : ((bdr == self) == (l[i].bdr == self)) = true := by unfold agrees at ha; simp only [Bool.and_eq_true] at ha; exact ha.2
      clear hfin hi hdr hbdr ha hl
      generalize l[i] = c at *
      rcases c with ⟨ci, cp, cd, cb⟩
      generalize k1 : (dr == self) = d1 at *
      generalize k2 : (bdr == self) = d2 at *
      generalize k3 : (cd == self) = d3 at *
      generalize k4 : (cb == self) = d4 at *
      cases d1 <;> cases d2 <;> cases d3 <;> cases d4 <;> first | (exfalso; revert t1 t2; decide) | skip
      all_goals
        clear t1 t2
        go_enter Tryz.func139, Tryz.ntmps139
        go_wp2_with (first
          | (go_at_call 192; (with_reducible refine Calls.mono (go_any _ cap l _ _ (CandsAt.of Hl0.out Hb.out Hb.out.size) (Nat.le_refl _) Hn.out) ?_); rw [Hdr.out, Hbdr.out]; rintro e w1 ⟨rfl, hb1⟩; have Hb1 := Lib.hid hb1; clear hb1)
          | (go_at_call 191; (with_reducible refine Calls.mono (idx_any self w.heap.size _ cap l _ _ (CandsAt.of Hl0.out Hb1.out Hb1.out.size) (Nat.le_refl _) Hn.out (box_at w _ _ _ Hb1.out) (Nat.lt_of_lt_of_le Hsz0.out Hb1.out.size)) ?_); rw [HI.out]; rintro e w2 ⟨rfl, hb2⟩; obtain ⟨hbt, hst, hzt⟩ := Htot.out _ _ Hb1.out hb2; obtain ⟨e0, e1, e2, e3⟩ := HE.out _ hbt; have Hbt := Lib.hid hbt; clear hb2 hbt))
        go_ret2
        exact ⟨by rw [Hfin.out]; rfl, Hbt.out.alloc (Nat.le_of_lt hzt) _⟩
    · have ha : agrees self dr bdr l[i] = false := Bool.eq_false_iff.2 ha
      have hfin := elect_turn hi hlt (by rw [hdr, hbdr]; exact ha)
      rw [hdr, hbdr] at hfin
      have t1 : (((dr == self) == (l[i].dr == self)) && ((bdr == self) == (l[i].bdr == self))) = false := ha
      have hlen : ∀ c : Cand, (l.set i c).length = l.length := fun c => by simp
      have hm2 : ∀ (W : World) (B' g cap' : Nat), OwnC W B' (.slice (some ⟨g, 0, none⟩) l.length cap') l → CandsAt (((W.setCell ⟨g, i * 4 + 2, none⟩ (.int .i64 0)).setCell ⟨g, i * 4 + 3, none⟩ (.int .i64 0)).setCell ⟨g, i * 4 + 2, none⟩ (.int .i64 self)) (((W.setCell ⟨g, i * 4 + 2, none⟩ (.int .i64 0)).setCell ⟨g, i * 4 + 3, none⟩ (.int .i64 0)).setCell ⟨g, i * 4 + 2, none⟩ (.int .i64 self)).heap.size (some ⟨g, 0, none⟩) (l.set i { l[i] with dr := self, bdr := 0 }) :=
        fun W B' g cap' h => (OwnC.cands (own_mark2 h rfl i hlt self)).2
      have hm3 : ∀ (W : World) (B' g cap' : Nat), OwnC W B' (.slice (some ⟨g, 0, none⟩) l.length cap') l → CandsAt (((W.setCell ⟨g, i * 4 + 2, none⟩ (.int .i64 0)).setCell ⟨g, i * 4 + 3, none⟩ (.int .i64 0)).setCell ⟨g, i * 4 + 3, none⟩ (.int .i64 self)) (((W.setCell ⟨g, i * 4 + 2, none⟩ (.int .i64 0)).setCell ⟨g, i * 4 + 3, none⟩ (.int .i64 0)).setCell ⟨g, i * 4 + 3, none⟩ (.int .i64 self)).heap.size (some ⟨g, 0, none⟩) (l.set i { l[i] with dr := 0, bdr := self }) :=
        fun W B' g cap' h => (OwnC.cands (own_mark3 h rfl i hlt self)).2
      have hm0 : ∀ (W : World) (B' g cap' : Nat), OwnC W B' (.slice (some ⟨g, 0, none⟩) l.length cap') l → CandsAt ((W.setCell ⟨g, i * 4 + 2, none⟩ (.int .i64 0)).setCell ⟨g, i * 4 + 3, none⟩ (.int .i64 0)) ((W.setCell ⟨g, i * 4 + 2, none⟩ (.int .i64 0)).setCell ⟨g, i * 4 + 3, none⟩ (.int .i64 0)).heap.size (some ⟨g, 0, none⟩) (l.set i { l[i] with dr := 0, bdr := 0 }) :=
        fun W B' g cap' h => (OwnC.cands (own_mark0 h rfl i hlt)).2
      have hat : ∀ (W : World) (B' : Nat) (v : Value), OwnC W B' v l → ∃ g cap', v = .slice (some ⟨g, 0, none⟩) l.length cap' ∧ B' ≤ g ∧ g < W.heap.size ∧ W.cell? ⟨g, i * 4 + 2, none⟩ = some (.int .i64 l[i].dr) ∧ W.cell? ⟨g, i * 4 + 3, none⟩ = some (.int .i64 l[i].bdr) ∧ W.frozen? ⟨g, i * 4 + 2, none⟩ = false ∧ W.frozen? ⟨g, i * 4 + 3, none⟩ = false := by
        intro W B' v h
        obtain ⟨g, cap', e, h1, h2, _, _, h3, h4, h5⟩ := OwnC.at_ h i hlt
        exact ⟨g, cap', e, h1, h2, h3, h4, h5 _, h5 _⟩
      have hn40 := hn
      generalize l[i] = c at *
      have Hm2 := Lib.hid hm2
      have Hm3 := Lib.hid hm3
      have Hm0 := Lib.hid hm0
      have Hat := Lib.hid hat
      have Hn40 := Lib.hid hn40
      have Hlen := Lib.hid hlen
      clear hm2 hm3 hm0 hat hi hdr hbdr ha hl hlen
      rcases c with ⟨ci, cp, cd, cb⟩
      unfold mark at hfin
      generalize k1 : (dr == self) = d1 at *
      generalize k2 : (bdr == self) = d2 at *
      generalize k3 : (cd == self) = d3 at *
      generalize k4 : (cb == self) = d4 at *
      cases d1 <;> cases d2 <;> cases d3 <;> cases d4 <;> first | (exfalso; revert t1; decide) | skip
      all_goals
        have Hfin := Lib.hid hfin
        clear t1 hfin
        go_enter Tryz.func139, Tryz.ntmps139
        go_wp2_with (first
          | (go_at_call 192; (with_reducible refine Calls.mono (go_any _ cap l _ _ (CandsAt.of Hl0.out Hb.out Hb.out.size) (Nat.le_refl _) Hn.out) ?_); rw [Hdr.out, Hbdr.out]; rintro e w1 ⟨rfl, hb1⟩; have Hb1 := Lib.hid hb1; clear hb1)
          | (go_at_call 191; (with_reducible refine Calls.mono (idx_any self w.heap.size _ cap l _ _ (CandsAt.of Hl0.out Hb1.out Hb1.out.size) (Nat.le_refl _) Hn.out (box_at w _ _ _ Hb1.out) (Nat.lt_of_lt_of_le Hsz0.out Hb1.out.size)) ?_); rw [HI.out]; rintro e w2 ⟨rfl, hb2⟩; obtain ⟨hbt, hst, hzt⟩ := Htot.out _ _ Hb1.out hb2; obtain ⟨e0, e1, e2, e3⟩ := HE.out _ hbt; have Hbt := Lib.hid hbt; clear hb2 hbt)
          | (go_at_call 194; (with_reducible refine Calls.mono (clone_any _ cap l _ _ (CandsAt.of Hl.out (Hbt.out.alloc (Nat.le_of_lt hzt) _) (Hbt.out.alloc (Nat.le_of_lt hzt) _).size) (Nat.le_refl _) Hn40.out) ?_); rintro e w3 ⟨v, rfl, hown, hb3⟩; obtain ⟨g, cap', hv, hg1, hg2, x2, x3, y2, y3⟩ := Hat.out _ _ _ hown; subst hv; have hst3 := (hb3.cell (p := ⟨w.heap.size, 0, none⟩) (by simp; omega)).trans ((World.cell?_alloc_lt _ _ _ hzt).trans hst); have hg3 : w.heap.size < g := by (simp at hg1; omega))
          | (go_at_call 192; go_must (with_reducible refine Calls.mono (go_n _ _ cap' _ _ _ (by first | exact Hm0.out _ _ _ _ hown | exact Hm2.out _ _ _ _ hown | exact Hm3.out _ _ _ _ hown) (Nat.le_refl _) (by rw [Hlen.out]; exact Hn.out) (Hlen.out _).symm) ?_); rintro e w4 ⟨rfl, hb4⟩))
        go_ret2
        refine ⟨by rw [Hfin.out]; rfl, ?_⟩
        have hgw : ∀ j, w.heap.size ≤ (⟨g, j, none⟩ : Addr).block := fun j => Nat.le_of_lt hg3
        have hA := (Hbt.out.alloc (Nat.le_of_lt hzt) _).trans (hb3.mono (by simp; omega))
        have hS := (hA.setCell (hgw (i * 4 + 2)) (.int .i64 0)).setCell (hgw (i * 4 + 3)) (.int .i64 0)
        have hS2 := hS.setCell (hgw (i * 4 + 2)) (.int .i64 self)
        have hS3 := hS.setCell (hgw (i * 4 + 3)) (.int .i64 self)
        first
          | exact hS.trans (hb4.mono hS.size)
          | exact hS2.trans (hb4.mono hS2.size)
          | exact hS3.trans (hb4.mono hS3.size)

end Go.Proofs.YtpnbibokddhheaaGreat
