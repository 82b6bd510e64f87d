/-
  Layer 20 in plain words: which descriptions count; the least cost of a way; all edges, all leaves, in order.
-/
import Derived.Test.YtpfjgecdlilkcaaLsRight
import Derived.Test.YtpfjgecdlilkcaaXsAt
import Derived.Test.YtpfjgecdlilkcaaEdDec
namespace Go.Proofs.Ytpfjgecdlilkcaa

/-- a description by its words -/
def xV (v : VX) : Lsa := ⟨v.1, none, 0, v.2.1, none, 0, v.2.2⟩
def cntV (v : VX) : Bool := rightB (xV v) && (decide (v.1.age ≠ 60) && !(decide (v.1.kind = 2) && decide (v.1.id % 16 ≠ v.1.adv)))
theorem rightB_v (x : Lsa) : rightB (xV (vX x)) = rightB x := rfl
def hasV (C : List VX) (k : K3) : Bool := C.any fun y => decide (keyV y = k)
def addV (C : List VX) (v : VX) : List VX := if cntV v = true ∧ hasV C (keyV v) = false then C ++ [v] else C
def countsV (l : List VX) : List VX := l.foldl addV []
theorem countsV_snoc (l : List VX) (v : VX) : countsV (l ++ [v]) = addV (countsV l) v := by simp [countsV, List.foldl_append]
theorem countsV_take {l : List VX} {k : Nat} (hk : k < l.length) : countsV (l.take (k + 1)) = addV (countsV (l.take k)) l[k] := by
  rw [List.take_succ_eq_append_getElem hk, countsV_snoc]
theorem hasV_iff {C : List VX} {k : K3} : hasV C k = true ↔ ∃ y ∈ C, keyV y = k := by simp [hasV]
theorem hasV_not {C : List VX} {k : K3} : hasV C k = false ↔ ∀ y ∈ C, keyV y ≠ k := by
  rw [← Bool.not_eq_true, hasV_iff]; simp
/-- those that count, each key once -/
structure CntOk (C : List VX) : Prop where
  keys : (C.map keyV).Nodup
  each : ∀ v ∈ C, cntV v = true
theorem CntOk.nil : CntOk [] := ⟨List.Pairwise.nil, by simp⟩
theorem CntOk.add {C : List VX} (h : CntOk C) (v : VX) : CntOk (addV C v) := by
  unfold addV
  split
  · rename_i hc
    refine ⟨?_, fun y hy => ?_⟩
    · rw [List.map_append, List.map_singleton, List.nodup_append]
      refine ⟨h.keys, by simp, fun a ha b hb => ?_⟩
      obtain ⟨y, hy, rfl⟩ := List.mem_map.1 ha
      rw [List.mem_singleton] at hb
      rw [hb]
      exact hasV_not.1 hc.2 y hy
    · rcases List.mem_append.1 hy with hy | hy
      · exact h.each y hy
      · rw [List.mem_singleton] at hy
        rw [hy]
        exact hc.1
  · exact h
theorem foldl_ok : ∀ (l : List VX) {C : List VX}, CntOk C → CntOk (l.foldl addV C)
  | [], _, h => h
  | v :: l, _, h => foldl_ok l (h.add v)
theorem countsV_ok (l : List VX) : CntOk (countsV l) := foldl_ok l CntOk.nil
theorem addV_len (C : List VX) (v : VX) : (addV C v).length ≤ C.length + 1 := by
  unfold addV
  split <;> simp
theorem foldl_len : ∀ (l : List VX) (C : List VX), (l.foldl addV C).length ≤ C.length + l.length
  | [], _ => Nat.le_refl _
  | v :: l, C => by
    have h1 := foldl_len l (addV C v)
    have h2 := addV_len C v
    simp only [List.foldl_cons, List.length_cons]
    omega
theorem countsV_len (l : List VX) : (countsV l).length ≤ l.length := by simpa [countsV] using foldl_len l []

theorem memC_range : ∀ {l : List Int} {last : Int}, memC last l = true → ∀ m ∈ l, last < m ∧ m ≤ 15
  | [], _, _, _, h => absurd h (by simp)
  | x :: l, last, h, m, hm => by
    rw [memC, Bool.and_eq_true, inB_iff] at h
    rcases List.mem_cons.1 hm with rfl | hm
    · omega
    · have := memC_range h.2 m hm
      omega
/-- what one that counts is -/
theorem cnt_cases {v : VX} (h : cntV v = true) : (1 ≤ v.1.adv ∧ v.1.adv ≤ 15) ∧ v.1.age ≠ 60 ∧
    ((v.1.kind = 1 ∧ v.1.id = v.1.adv ∧ v.2.2 = [] ∧ linksB v.2.1 = true) ∨ (v.1.kind = 2 ∧ (0 ≤ v.1.id ∧ v.1.id ≤ 63) ∧ v.1.id % 16 = v.1.adv ∧ v.2.1 = [] ∧ membersB v.2.2 = true)) := by
  unfold cntV rightB headB xV at h
  simp only [Bool.and_eq_true, inB_iff, decide_eq_true_eq] at h
  obtain ⟨⟨⟨⟨⟨-, hk⟩, ha⟩, -⟩, hr⟩, h60, hn⟩ := h
  refine ⟨ha, h60, ?_⟩
  by_cases h1 : v.1.kind = 1
  · rw [if_pos h1] at hr
    simp only [Bool.and_eq_true, decide_eq_true_eq] at hr
    exact .inl ⟨h1, hr.1.1, List.eq_nil_of_length_eq_zero hr.1.2, hr.2⟩
  · rw [if_neg h1] at hr
    simp only [Bool.and_eq_true, decide_eq_true_eq, inB_iff] at hr
    have h2 : v.1.kind = 2 := by omega
    refine .inr ⟨h2, hr.1.1, ?_, List.eq_nil_of_length_eq_zero hr.1.2, hr.2⟩
    simpa [h2] using hn
theorem link_of {l : List Lnk} (h : linksB l = true) {y : Lnk} (hy : y ∈ l) : (y.kind = 2 ∨ y.kind = 3) ∧ (0 ≤ y.id ∧ y.id ≤ 63) ∧ (1 ≤ y.cost ∧ y.cost ≤ 100) := by
  unfold linksB at h
  rw [Bool.and_eq_true, List.all_eq_true] at h
  have := h.1 y hy
  unfold linkB at this
  simp only [Bool.and_eq_true, inB_iff] at this
  omega
theorem members_of {l : List Int} (h : membersB l = true) {m : Int} (hm : m ∈ l) : 1 ≤ m ∧ m ≤ 15 := by
  unfold membersB at h
  rw [Bool.and_eq_true] at h
  have := memC_range h.1 m hm
  omega
theorem cnt_links {v : VX} (h : cntV v = true) {y : Lnk} (hy : y ∈ v.2.1) : v.1.kind = 1 ∧ (y.kind = 2 ∨ y.kind = 3) ∧ (0 ≤ y.id ∧ y.id ≤ 63) ∧ (1 ≤ y.cost ∧ y.cost ≤ 100) := by
  rcases (cnt_cases h).2.2 with ⟨h1, -, -, h4⟩ | ⟨-, -, -, h4, -⟩
  · exact ⟨h1, link_of h4 hy⟩
  · rw [h4] at hy
    cases hy

/-- is it the network's? -/
def isNet (n : Int) (v : VX) : Bool := decide (v.1.kind = 2) && decide (v.1.id = n)
def memV (C : List VX) (n : Int) : List Int := ((C.find? (isNet n)).map fun v => v.2.2).getD []
theorem net_one {C : List VX} (h : CntOk C) {x y : VX} {n : Int} (hx : x ∈ C) (hy : y ∈ C) (hx2 : isNet n x = true) (hy2 : isNet n y = true) : x = y := by
  have hk : keyV x = keyV y := by
    unfold isNet at hx2 hy2
    simp only [Bool.and_eq_true, decide_eq_true_eq] at hx2 hy2
    have e1 : x.1.id % 16 = x.1.adv := by
      rcases (cnt_cases (h.each x hx)).2.2 with ⟨g, -⟩ | ⟨-, -, g, -⟩
      · omega
      · exact g
    have e2 : y.1.id % 16 = y.1.adv := by
      rcases (cnt_cases (h.each y hy)).2.2 with ⟨g, -⟩ | ⟨-, -, g, -⟩
      · omega
      · exact g
    unfold keyV keyH
    rw [hx2.1, hy2.1, hx2.2, hy2.2, ← e1, ← e2, hx2.2, hy2.2]
  have hn := h.keys
  clear h hx2 hy2
  induction C with
  | nil => cases hx
  | cons z C ih =>
    rw [List.map_cons, List.nodup_cons] at hn
    rcases List.mem_cons.1 hx with e1 | g1 <;> rcases List.mem_cons.1 hy with e2 | g2
    · rw [e1, e2]
    · exact absurd (List.mem_map.2 ⟨y, g2, by rw [← hk, e1]⟩) hn.1
    · exact absurd (List.mem_map.2 ⟨x, g1, by rw [hk, e2]⟩) hn.1
    · exact ih g1 g2 hn.2
theorem mem_memV {C : List VX} (h : CntOk C) {n r : Int} : r ∈ memV C n ↔ ∃ z ∈ C, isNet n z = true ∧ r ∈ z.2.2 := by
  unfold memV
  constructor
  · intro hr
    cases hf : C.find? (isNet n) with
    | none => rw [hf] at hr; cases hr
    | some z =>
      rw [hf] at hr
      exact ⟨z, List.mem_of_find?_eq_some hf, List.find?_some hf, hr⟩
  · rintro ⟨z, hz, hn, hr⟩
    cases hf : C.find? (isNet n) with
    | none =>
      have := List.find?_eq_none.1 hf z hz
      exact absurd hn this
    | some z' =>
      have := net_one h hz (List.mem_of_find?_eq_some hf) hn (List.find?_some hf)
      subst this
      exact hr

/-- the least of them -/
def minO : Option Int → Int → Option Int
  | none, c => some c
  | some b, c => if c < b then some c else some b
def bestL (l : List Int) : Option Int := l.foldl minO none
theorem bestL_snoc (l : List Int) (c : Int) : bestL (l ++ [c]) = minO (bestL l) c := by simp [bestL, List.foldl_append]
theorem best_fold : ∀ (l : List Int) (b : Int), ∃ m, l.foldl minO (some b) = some m ∧ (m = b ∨ m ∈ l) ∧ m ≤ b ∧ ∀ c ∈ l, m ≤ c
  | [], b => ⟨b, rfl, .inl rfl, Int.le_refl _, by simp⟩
  | c :: l, b => by
    rw [List.foldl_cons]
    unfold minO
    simp only
    split
    · rename_i hc
      obtain ⟨m, h1, h2, h3, h4⟩ := best_fold l c
      refine ⟨m, h1, ?_, by omega, fun d hd => ?_⟩
      · rcases h2 with rfl | h2
        · exact .inr (by simp)
        · exact .inr (by simp [h2])
      · rcases List.mem_cons.1 hd with rfl | hd
        · exact h3
        · exact h4 d hd
    · rename_i hc
      obtain ⟨m, h1, h2, h3, h4⟩ := best_fold l b
      refine ⟨m, h1, ?_, h3, fun d hd => ?_⟩
      · rcases h2 with rfl | h2
        · exact .inl rfl
        · exact .inr (by simp [h2])
      · rcases List.mem_cons.1 hd with rfl | hd
        · omega
        · exact h4 d hd
theorem bestL_some {l : List Int} {m : Int} : bestL l = some m ↔ m ∈ l ∧ ∀ c ∈ l, m ≤ c := by
  cases l with
  | nil => simp [bestL]
  | cons a l =>
    obtain ⟨m', h1, h2, h3, h4⟩ := best_fold l a
    have e : bestL (a :: l) = some m' := h1
    have hm' : m' ∈ a :: l ∧ ∀ c ∈ a :: l, m' ≤ c := by
      refine ⟨by rcases h2 with rfl | h2 <;> simp [*], fun c hc => ?_⟩
      rcases List.mem_cons.1 hc with rfl | hc
      · exact h3
      · exact h4 c hc
    rw [e]
    constructor
    · intro h
      injection h with h
      rw [← h]
      exact hm'
    · rintro ⟨g1, g2⟩
      have a1 := g2 m' hm'.1
      have a2 := hm'.2 m g1
      rw [show m' = m by omega]
theorem bestL_none {l : List Int} : bestL l = none ↔ l = [] := by
  cases l with
  | nil => simp [bestL]
  | cons a l =>
    obtain ⟨m', h1, -⟩ := best_fold l a
    have e : bestL (a :: l) = some m' := h1
    simp [e]
theorem bestL_ext {l l' : List Int} (h : ∀ c, c ∈ l ↔ c ∈ l') : bestL l = bestL l' := by
  cases hb : bestL l with
  | none =>
    rw [bestL_none] at hb
    subst hb
    symm
    rw [bestL_none]
    cases l' with
    | nil => rfl
    | cons a l' => exact absurd ((h a).2 (by simp)) (by simp)
  | some m =>
    symm
    rw [bestL_some] at hb ⊢
    exact ⟨(h m).1 hb.1, fun c hc => hb.2 c ((h c).2 hc)⟩
/-- of costs of pairs those of one -/
def pick (r n : Int) (l : List (Int × Int × Int)) : List Int := l.filterMap fun c => if c.1 = r ∧ c.2.1 = n then some c.2.2 else none
theorem mem_pick {r n c : Int} {l : List (Int × Int × Int)} : c ∈ pick r n l ↔ (r, n, c) ∈ l := by
  unfold pick
  rw [List.mem_filterMap]
  constructor
  · rintro ⟨⟨a, b, d⟩, hm, he⟩
    simp only at he
    split at he
    · rename_i h
      obtain ⟨rfl, rfl⟩ := h
      injection he with he
      subst he
      exact hm
    · cases he
  · intro hm
    exact ⟨_, hm, by simp⟩
theorem pick_snoc (r n a b c : Int) (l : List (Int × Int × Int)) : pick r n (l ++ [(a, b, c)]) = if a = r ∧ b = n then pick r n l ++ [c] else pick r n l := by
  unfold pick
  rw [List.filterMap_append]
  by_cases h : a = r ∧ b = n <;> simp [h]

/-- a router's links that lead to a network that knows of it -/
def candL (C : List VX) (x : VX) (ys : List Lnk) : List (Int × Int × Int) := ys.filterMap fun y => if y.kind = 2 ∧ x.1.adv ∈ memV C y.id then some (x.1.adv, y.id, y.cost) else none
def candC (C T : List VX) : List (Int × Int × Int) := T.flatMap fun x => candL C x x.2.1
def costC (C : List VX) (r n : Int) : Option Int := bestL (pick r n (candC C C))
def CandP (C : List VX) (r n c : Int) : Prop := ∃ x ∈ C, ∃ z ∈ C, ∃ y ∈ x.2.1, x.1.adv = r ∧ y.kind = 2 ∧ y.id = n ∧ y.cost = c ∧ isNet n z = true ∧ r ∈ z.2.2
theorem mem_cand {C : List VX} (h : CntOk C) {r n c : Int} : c ∈ pick r n (candC C C) ↔ CandP C r n c := by
  rw [mem_pick]
  unfold candC candL
  rw [List.mem_flatMap]
  constructor
  · rintro ⟨x, hx, hm⟩
    rw [List.mem_filterMap] at hm
    obtain ⟨y, hy, he⟩ := hm
    split at he
    · rename_i hc
      injection he with he
      injection he with e1 he
      injection he with e2 e3
      obtain ⟨z, hz, hn, hr⟩ := (mem_memV h).1 hc.2
      rw [e2] at hn
      rw [e1] at hr
      exact ⟨x, hx, z, hz, y, hy, e1, hc.1, e2, e3, hn, hr⟩
    · cases he
  · rintro ⟨x, hx, z, hz, y, hy, e1, e2, e3, e4, hn, hr⟩
    refine ⟨x, hx, ?_⟩
    rw [List.mem_filterMap]
    refine ⟨y, hy, ?_⟩
    have : x.1.adv ∈ memV C y.id := (mem_memV h).2 ⟨z, hz, by rw [e3]; exact hn, by rw [e1]; exact hr⟩
    rw [if_pos ⟨e2, this⟩, e1, e3, e4]
theorem cost_is {C : List VX} (h : CntOk C) {r n c : Int} (hc : costC C r n = some c) : CandP C r n c := (mem_cand h).1 (bestL_some.1 hc).1
theorem cost_ext {C C' : List VX} (h : CntOk C) (h' : CntOk C') {r n : Int} (he : ∀ c, CandP C r n c ↔ CandP C' r n c) : costC C r n = costC C' r n :=
  bestL_ext fun c => by rw [mem_cand h, mem_cand h', he]
theorem cand_bounds {C : List VX} (h : CntOk C) {r n c : Int} (hc : CandP C r n c) : (1 ≤ r ∧ r ≤ 15) ∧ (0 ≤ n ∧ n ≤ 63) ∧ (1 ≤ c ∧ c ≤ 100) := by
  obtain ⟨x, hx, z, hz, y, hy, e1, e2, e3, e4, -⟩ := hc
  have h1 := cnt_cases (h.each x hx)
  have h2 := cnt_links (h.each x hx) hy
  omega
/-- a router's links to a network of its own -/
def leafX (x : VX) (ys : List Lnk) : List (Int × Int × Int) := ys.filterMap fun y => if y.kind = 3 then some (x.1.adv, y.id / 16, y.cost) else none
def leafC (T : List VX) : List (Int × Int × Int) := T.flatMap fun x => leafX x x.2.1
def leafCost (C : List VX) (r n : Int) : Option Int := bestL (pick r n (leafC C))
def LeafP (C : List VX) (r n c : Int) : Prop := ∃ x ∈ C, ∃ y ∈ x.2.1, x.1.adv = r ∧ y.kind = 3 ∧ y.id / 16 = n ∧ y.cost = c
theorem mem_leaf {C : List VX} {r n c : Int} : c ∈ pick r n (leafC C) ↔ LeafP C r n c := by
  rw [mem_pick]
  unfold leafC leafX
  rw [List.mem_flatMap]
  constructor
  · rintro ⟨x, hx, hm⟩
    rw [List.mem_filterMap] at hm
    obtain ⟨y, hy, he⟩ := hm
    split at he
    · rename_i hc
      injection he with he
      injection he with e1 he
      injection he with e2 e3
      exact ⟨x, hx, y, hy, e1, hc, e2, e3⟩
    · cases he
  · rintro ⟨x, hx, y, hy, e1, e2, e3, e4⟩
    refine ⟨x, hx, ?_⟩
    rw [List.mem_filterMap]
    refine ⟨y, hy, ?_⟩
    rw [if_pos e2, e1, e3, e4]
theorem leaf_is {C : List VX} {r n c : Int} (hc : leafCost C r n = some c) : LeafP C r n c := mem_leaf.1 (bestL_some.1 hc).1
theorem leaf_ext {C C' : List VX} {r n : Int} (he : ∀ c, LeafP C r n c ↔ LeafP C' r n c) : leafCost C r n = leafCost C' r n :=
  bestL_ext fun c => by rw [mem_leaf, mem_leaf, he]
theorem leaf_bounds {C : List VX} (h : CntOk C) {r n c : Int} (hc : LeafP C r n c) : (1 ≤ r ∧ r ≤ 15) ∧ (0 ≤ n ∧ n ≤ 3) ∧ (1 ≤ c ∧ c ≤ 100) := by
  obtain ⟨x, hx, y, hy, e1, e2, e3, e4⟩ := hc
  have h1 := cnt_cases (h.each x hx)
  have h2 := cnt_links (h.each x hx) hy
  omega

/-- numbers from a on -/
def rng (a : Int) (n : Nat) : List Int := (List.range n).map fun i : Nat => a + (i : Int)
theorem mem_rng {a : Int} {n : Nat} {z : Int} : z ∈ rng a n ↔ a ≤ z ∧ z < a + n := by
  unfold rng
  rw [List.mem_map]
  constructor
  · rintro ⟨i, hi, rfl⟩
    have := List.mem_range.1 hi
    omega
  · rintro ⟨h1, h2⟩
    exact ⟨(z - a).toNat, List.mem_range.2 (by omega), by omega⟩
theorem rng_sorted (a : Int) (n : Nat) : (rng a n).Pairwise fun x y => x < y := by
  unfold rng
  rw [List.pairwise_map]
  exact List.pairwise_lt_range.imp fun h => by omega
def edgeA (f : Int → Int → Option Int) (r n : Int) : Option Ed := (f r n).map fun c => ⟨1, r, 2, n, c⟩
def edgeB (f : Int → Int → Option Int) (n r : Int) : Option Ed := (f r n).map fun _ => ⟨2, n, 1, r, 0⟩
def edgesC (f : Int → Int → Option Int) : List Ed := (rng 1 15).flatMap (fun r => (rng 0 64).filterMap (edgeA f r)) ++ (rng 0 64).flatMap (fun n => (rng 1 15).filterMap (edgeB f n))
def leafA (f : Int → Int → Option Int) (r n : Int) : Option Lf := (f r n).map fun c => ⟨r, n, c⟩
def leavesC (f : Int → Int → Option Int) : List Lf := (rng 1 15).flatMap fun r => (rng 0 4).filterMap (leafA f r)
theorem mem_edges {f : Int → Int → Option Int} {e : Ed} : e ∈ edgesC f ↔ ∃ r n c, (1 ≤ r ∧ r ≤ 15) ∧ (0 ≤ n ∧ n ≤ 63) ∧ f r n = some c ∧ (e = ⟨1, r, 2, n, c⟩ ∨ e = ⟨2, n, 1, r, 0⟩) := by
  unfold edgesC edgeA edgeB
  rw [List.mem_append, List.mem_flatMap, List.mem_flatMap]
  constructor
  · rintro (⟨r, hr, hm⟩ | ⟨n, hn, hm⟩)
    · rw [List.mem_filterMap] at hm
      obtain ⟨n, hn, he⟩ := hm
      rw [Option.map_eq_some_iff] at he
      obtain ⟨c, hc, rfl⟩ := he
      have h1 := mem_rng.1 hr
      have h2 := mem_rng.1 hn
      exact ⟨r, n, c, by omega, by omega, hc, .inl rfl⟩
    · rw [List.mem_filterMap] at hm
      obtain ⟨r, hr, he⟩ := hm
      rw [Option.map_eq_some_iff] at he
      obtain ⟨c, hc, rfl⟩ := he
      have h1 := mem_rng.1 hr
      have h2 := mem_rng.1 hn
      exact ⟨r, n, c, by omega, by omega, hc, .inr rfl⟩
  · rintro ⟨r, n, c, hr, hn, hc, rfl | rfl⟩
    · refine .inl ⟨r, mem_rng.2 (by omega), List.mem_filterMap.2 ⟨n, mem_rng.2 (by omega), by rw [hc]; rfl⟩⟩
    · refine .inr ⟨n, mem_rng.2 (by omega), List.mem_filterMap.2 ⟨r, mem_rng.2 (by omega), by rw [hc]; rfl⟩⟩
theorem mem_leaves {f : Int → Int → Option Int} {e : Lf} : e ∈ leavesC f ↔ ∃ r n c, (1 ≤ r ∧ r ≤ 15) ∧ (0 ≤ n ∧ n ≤ 3) ∧ f r n = some c ∧ e = ⟨r, n, c⟩ := by
  unfold leavesC leafA
  rw [List.mem_flatMap]
  constructor
  · rintro ⟨r, hr, hm⟩
    rw [List.mem_filterMap] at hm
    obtain ⟨n, hn, he⟩ := hm
    rw [Option.map_eq_some_iff] at he
    obtain ⟨c, hc, rfl⟩ := he
    have h1 := mem_rng.1 hr
    have h2 := mem_rng.1 hn
    exact ⟨r, n, c, by omega, by omega, hc, rfl⟩
  · rintro ⟨r, n, c, hr, hn, hc, rfl⟩
    exact ⟨r, mem_rng.2 (by omega), List.mem_filterMap.2 ⟨n, mem_rng.2 (by omega), by rw [hc]; rfl⟩⟩
theorem edgesC_sorted (f : Int → Int → Option Int) : (edgesC f).Pairwise ltE := by
  unfold edgesC
  rw [List.pairwise_append]
  refine ⟨?_, ?_, ?_⟩
  · rw [List.pairwise_flatMap]
    refine ⟨fun r _ => ?_, ?_⟩
    · rw [List.pairwise_filterMap]
      refine (rng_sorted 0 64).imp fun {n n'} hlt a ha b hb => ?_
      have hlt : n < n' := hlt
      simp only [edgeA, Option.map_eq_some_iff] at ha hb
      obtain ⟨c, -, rfl⟩ := ha
      obtain ⟨c', -, rfl⟩ := hb
      exact .inr ⟨rfl, .inr ⟨rfl, .inr ⟨rfl, hlt⟩⟩⟩
    · refine (rng_sorted 1 15).imp fun {r r'} hlt a ha b hb => ?_
      have hlt : r < r' := hlt
      rw [List.mem_filterMap] at ha hb
      obtain ⟨n, -, ha⟩ := ha
      obtain ⟨n', -, hb⟩ := hb
      simp only [edgeA, Option.map_eq_some_iff] at ha hb
      obtain ⟨c, -, rfl⟩ := ha
      obtain ⟨c', -, rfl⟩ := hb
      exact .inr ⟨rfl, .inl hlt⟩
  · rw [List.pairwise_flatMap]
    refine ⟨fun r _ => ?_, ?_⟩
    · rw [List.pairwise_filterMap]
      refine (rng_sorted 1 15).imp fun {n n'} hlt a ha b hb => ?_
      have hlt : n < n' := hlt
      simp only [edgeB, Option.map_eq_some_iff] at ha hb
      obtain ⟨c, -, rfl⟩ := ha
      obtain ⟨c', -, rfl⟩ := hb
      exact .inr ⟨rfl, .inr ⟨rfl, .inr ⟨rfl, hlt⟩⟩⟩
    · refine (rng_sorted 0 64).imp fun {r r'} hlt a ha b hb => ?_
      have hlt : r < r' := hlt
      rw [List.mem_filterMap] at ha hb
      obtain ⟨n, -, ha⟩ := ha
      obtain ⟨n', -, hb⟩ := hb
      simp only [edgeB, Option.map_eq_some_iff] at ha hb
      obtain ⟨c, -, rfl⟩ := ha
      obtain ⟨c', -, rfl⟩ := hb
      exact .inr ⟨rfl, .inl hlt⟩
  · intro a ha b hb
    rw [List.mem_flatMap] at ha hb
    obtain ⟨r, -, ha⟩ := ha
    obtain ⟨r', -, hb⟩ := hb
    rw [List.mem_filterMap] at ha hb
    obtain ⟨n, -, ha⟩ := ha
    obtain ⟨n', -, hb⟩ := hb
    simp only [edgeA, edgeB, Option.map_eq_some_iff] at ha hb
    obtain ⟨c, -, rfl⟩ := ha
    obtain ⟨c', -, rfl⟩ := hb
    exact .inl (show (1 : Int) < 2 by decide)
theorem leavesC_sorted (f : Int → Int → Option Int) : (leavesC f).Pairwise ltF := by
  unfold leavesC
  rw [List.pairwise_flatMap]
  refine ⟨fun r _ => ?_, ?_⟩
  · rw [List.pairwise_filterMap]
    refine (rng_sorted 0 4).imp fun {n n'} hlt a ha b hb => ?_
    have hlt : n < n' := hlt
    simp only [leafA, Option.map_eq_some_iff] at ha hb
    obtain ⟨c, -, rfl⟩ := ha
    obtain ⟨c', -, rfl⟩ := hb
    exact .inr ⟨rfl, hlt⟩
  · refine (rng_sorted 1 15).imp fun {r r'} hlt a ha b hb => ?_
    have hlt : r < r' := hlt
    rw [List.mem_filterMap] at ha hb
    obtain ⟨n, -, ha⟩ := ha
    obtain ⟨n', -, hb⟩ := hb
    simp only [leafA, Option.map_eq_some_iff] at ha hb
    obtain ⟨c, -, rfl⟩ := ha
    obtain ⟨c', -, rfl⟩ := hb
    exact .inl hlt
def edgesV (l : List VX) : List Ed := edgesC (costC (countsV l))
def leavesV (l : List VX) : List Lf := leavesC (leafCost (countsV l))

end Go.Proofs.Ytpfjgecdlilkcaa
