/-
  Layer 20 in plain words: which descriptions count; the least cost of a way; all edges, all leaves, in order.
-/
import Derived.Laws.BitsLemmas
import Derived.Test.YtpnbibokddhheaaGreatBab
import Derived.Test.YtpnbibokddhheaaGreatBac
import Derived.Test.YtpnbibokddhheaaGreatBad
import Derived.Test.YtpnbibokddhheaaGreatBae
namespace Go.Proofs.YtpnbibokddhheaaGreat

/-- a description by its words -/
def xV (v : VX) : Lsa := ⟨v.1, none, 0, v.2.1, none, 0, v.2.2⟩
def cntV (v : VX) : Bool := rightB (xV v) && (decide (v.1.age ≠ 60) && !(decide (v.1.kind = 2) && decide (v.1.id % 16 ≠ v.1.adv)))
theorem rightB_v (x : Lsa) : rightB (xV (vX x)) = rightB x := rfl
def hasV (C : List VX) (k : K3) : Bool := C.any fun y => decide (keyV y = k)
def addV (C : List VX) (v : VX) : List VX := if cntV v = true ∧ hasV C (keyV v) = false then C ++ [v] else C
def countsV (l : List VX) : List VX := l.foldl addV []
theorem countsV_snoc (l : List VX) (v : VX) : countsV (l ++ [v]) = addV (countsV l) v := by simp [countsV, List.foldl_append]
theorem countsV_take {l : List VX} {k : Nat} (hk : k < l.length) : countsV (l.take (k + 1)) = addV (countsV (l.take k)) l[k] := by
  rw [List.take_succ_eq_append_getElem hk, countsV_snoc]
theorem hasV_iff {C : List VX} {k : K3} : hasV C k = true ↔ ∃ y ∈ C, keyV y = k := by simp [hasV]
theorem hasV_not {C : List VX} {k : K3} : hasV C k = false ↔ ∀ y ∈ C, keyV y ≠ k := by
  rw [← Bool.not_eq_true, hasV_iff]; simp
/-- those that count, each key once -/
structure CntOk (C : List VX) : Prop where
  keys : (C.map keyV).Nodup
  each : ∀ v ∈ C, cntV v = true
theorem CntOk.nil : CntOk [] := ⟨List.Pairwise.nil, by simp⟩
theorem CntOk.add {C : List VX} (h : CntOk C) (v : VX) : CntOk (addV C v) := by
  unfold addV
  split
  · rename_i hc
    refine ⟨?_, fun y hy => ?_⟩
    · rw [List.map_append, List.map_singleton, List.nodup_append]
      refine ⟨h.keys, by simp, fun a ha b hb => ?_⟩
      obtain ⟨y, hy, rfl⟩ := List.mem_map.1 ha
      rw [List.mem_singleton] at hb
      rw [hb]
      exact hasV_not.1 hc.2 y hy
    · rcases List.mem_append.1 hy with hy | hy
      · exact h.each y hy
      · rw [List.mem_singleton] at hy
        rw [hy]
        exact hc.1
  · exact h
theorem foldl_ok : ∀ (l : List VX) {C : List VX}, CntOk C → CntOk (l.foldl addV C)
  | [], _, h => h
  | v :: l, _, h => foldl_ok l (h.add v)
theorem countsV_ok (l : List VX) : CntOk (countsV l) := foldl_ok l CntOk.nil
theorem addV_len (C : List VX) (v : VX) : (addV C v).length ≤ C.length + 1 := by
  unfold addV
  split <;> simp
theorem foldl_len : ∀ (l : List VX) (C : List VX), (l.foldl addV C).length ≤ C.length + l.length
  | [], _ => Nat.le_refl _
  | v :: l, C => by
    have h1 := foldl_len l (addV C v)
    have h2 := addV_len C v
    simp only [List.foldl_cons, List.length_cons]
    omega
theorem countsV_len (l : List VX) : (countsV l).length ≤ l.length := by simpa [countsV] using foldl_len l []

theorem memC_range : ∀ {l : List Int} {last : Int}, memC last l = true → ∀ m ∈ l, last < m ∧ m ≤ 15
  | [], _, _, _, h => absurd h (by simp)
  | x :: l, last, h, m, hm => by
    rw [memC, Bool.and_eq_true, inB_iff] at h
    rcases List.mem_cons.1 hm with rfl | hm
    · omega
    · have := memC_range h.2 m hm
      omega
/-- what one that counts is -/
theorem cnt_cases {v : VX} (h : cntV v = true) : (1 ≤ v.1.adv ∧ v.1.adv ≤ 15) ∧ v.1.age ≠ 60 ∧
    ((v.1.kind = 1 ∧ v.1.id = v.1.adv ∧ v.2.2 = [] ∧ linksB v.2.1 = true) ∨ (v.1.kind = 2 ∧ (0 ≤ v.1.id ∧ v.1.id ≤ 63) ∧ v.1.id % 16 = v.1.adv ∧ v.2.1 = [] ∧ membersB v.2.2 = true)) := by
  unfold cntV rightB headB xV at h
  simp only [Bool.and_eq_true, inB_iff, decide_eq_true_eq] at h
  obtain ⟨⟨⟨⟨⟨-, hk⟩, ha⟩, -⟩, hr⟩, h60, hn⟩ := h
  refine ⟨ha, h60, ?_⟩
  by_cases h1 : v.1.kind = 1
  · rw [if_pos h1] at hr
    simp only [Bool.and_eq_true, decide_eq_true_eq] at hr
    exact .inl ⟨h1, hr.1.1, List.eq_nil_of_length_eq_zero hr.1.2, hr.2⟩
  · rw [if_neg h1] at hr
    simp only [Bool.and_eq_true, decide_eq_true_eq, inB_iff] at hr
    have h2 : v.1.kind = 2 := by omega
    refine .inr ⟨h2, hr.1.1, ?_, List.eq_nil_of_length_eq_zero hr.1.2, hr.2⟩
    simpa [h2] using hn
theorem link_of {l : List Lnk} (h : linksB l = true) {y : Lnk} (hy : y ∈ l) : (y.kind = 2 ∨ y.kind = 3) ∧ (0 ≤ y.id ∧ y.id ≤ 63) ∧ (1 ≤ y.cost ∧ y.cost ≤ 100) := by
  unfold linksB at h
  rw [Bool.and_eq_true, List.all_eq_true] at h
  have := h.1 y hy
  unfold linkB at this
  simp only [Bool.and_eq_true, inB_iff] at this
  omega
theorem members_of {l : List Int} (h : membersB l = true) {m : Int} (hm : m ∈ l) : 1 ≤ m ∧ m ≤ 15 := by
  unfold membersB at h
  rw [Bool.and_eq_true] at h
  have := memC_range h.1 m hm
  omega
theorem cnt_links {v : VX} (h : cntV v = true) {y : Lnk} (hy : y ∈ v.2.1) : v.1.kind = 1 ∧ (y.kind = 2 ∨ y.kind = 3) ∧ (0 ≤ y.id ∧ y.id ≤ 63) ∧ (1 ≤ y.cost ∧ y.cost ≤ 100) := by
  rcases (cnt_cases h).2.2 with ⟨h1, -, -, h4⟩ | ⟨-, -, -, h4, -⟩
  · exact ⟨h1, link_of h4 hy⟩
  · rw [h4] at hy
    cases hy

/-- is it the network's? -/
def isNet (n : Int) (v : VX) : Bool := decide (v.1.kind = 2) && decide (v.1.id = n)
def memV (C : List VX) (n : Int) : List Int := ((C.find? (isNet n)).map fun v => v.2.2).getD []
theorem net_one {C : List VX} (h : CntOk C) {x y : VX} {n : Int} (hx : x ∈ C) (hy : y ∈ C) (hx2 : isNet n x = true) (hy2 : isNet n y = true) : x = y := by
  have hk : keyV x = keyV y := by
    unfold isNet at hx2 hy2
    simp only [Bool.and_eq_true, decide_eq_true_eq] at hx2 hy2
    have e1 : x.1.id % 16 = x.1.adv := by
      rcases (cnt_cases (h.each x hx)).2.2 with ⟨g, -⟩ | ⟨-, -, g, -⟩
      · omega
      · exact g
    have e2 : y.1.id % 16 = y.1.adv := by
      rcases (cnt_cases (h.each y hy)).2.2 with ⟨g, -⟩ | ⟨-, -, g, -⟩
      · omega
      · exact g
    unfold keyV keyH
    rw [hx2.1, hy2.1, hx2.2, hy2.2, ← e1, ← e2, hx2.2, hy2.2]
  have hn := h.keys
  clear h hx2 hy2
  induction C with
  | nil => cases hx
  | cons z C ih =>
    rw [List.map_cons, List.nodup_cons] at hn
    rcases List.mem_cons.1 hx with e1 | g1 <;> rcases List.mem_cons.1 hy with e2 | g2
    · rw [e1, e2]
    · exact absurd (List.mem_map.2 ⟨y, g2, by rw [← hk, e1]⟩) hn.1
    · exact absurd (List.mem_map.2 ⟨x, g1, by rw [hk, e2]⟩) hn.1
    · exact ih g1 g2 hn.2
theorem mem_memV {C : List VX} (h : CntOk C) {n r : Int} : r ∈ memV C n ↔ ∃ z ∈ C, isNet n z = true ∧ r ∈ z.2.2 := by
  unfold memV
  constructor
  · intro hr
    cases hf : C.find? (isNet n) with
    | none => rw [hf] at hr; cases hr
    | some z =>
      rw [hf] at hr
      exact ⟨z, List.mem_of_find?_eq_some hf, List.find?_some hf, hr⟩
  · rintro ⟨z, hz, hn, hr⟩
    cases hf : C.find? (isNet n) with
    | none =>
      have := List.find?_eq_none.1 hf z hz
      exact absurd hn this
    | some z' =>
      have := net_one h hz (List.mem_of_find?_eq_some hf) hn (List.find?_some hf)
      subst this
      exact hr

/-- the least of them -/
def minO : Option Int → Int → Option Int
  | none, c => some c
  | some b, c => if c < b then some c else some b
def bestL (l : List Int) : Option Int := l.foldl minO none
theorem bestL_snoc (l : List Int) (c : Int) : bestL (l ++ [c]) = minO (bestL l) c := by simp [bestL, List.foldl_append]
theorem best_fold : ∀ (l : List Int) (b : Int), ∃ m, l.foldl minO (some b) = some m ∧ (m = b ∨ m ∈ l) ∧ m ≤ b ∧ ∀ c ∈ l, m ≤ c
  | [], b => ⟨b, rfl, .inl rfl, Int.le_refl _, by simp⟩
  | c :: l, b => by
    rw [List.foldl_cons]
    unfold minO
    simp only
    split
    · rename_i hc
      obtain ⟨m, h1, h2, h3, h4⟩ := best_fold l c
      refine ⟨m, h1, ?_, by omega, fun d hd => ?_⟩
      · rcases h2 with rfl | h2
        · exact .inr (by simp)
        · exact .inr (by simp [h2])
      · rcases List.mem_cons.1 hd with rfl | hd
        · exact h3
        · exact h4 d hd
    · rename_i hc
      obtain ⟨m, h1, h2, h3, h4⟩ := best_fold l b
      refine ⟨m, h1, ?_, h3, fun d hd => ?_⟩
      · rcases h2 with rfl | h2
        · exact .inl rfl
        · exact .inr (by simp [h2])
      · rcases List.mem_cons.1 hd with rfl | hd
        · omega
        · exact h4 d hd
theorem bestL_some {l : List Int} {m : Int} : bestL l = some m ↔ m ∈ l ∧ ∀ c ∈ l, m ≤ c := by
  cases l with
  | nil => simp [bestL]
  | cons a l =>
    obtain ⟨m', h1, h2, h3, h4⟩ := best_fold l a
    have e : bestL (a :: l) = some m' := h1
    have hm' : m' ∈ a :: l ∧ ∀ c ∈ a :: l, m' ≤ c := by
      refine ⟨by rcases h2 with rfl | h2 <;> simp [*], fun c hc => ?_⟩
      rcases List.mem_cons.1 hc with rfl | hc
      · exact h3
      · exact h4 c hc
    rw [e]
    constructor
    · intro h
      injection h with h
      rw [← h]
      exact hm'
    · rintro ⟨g1, g2⟩
      have a1 := g2 m' hm'.1
      have a2 := hm'.2 m g1
      rw [show m' = m by omega]
theorem bestL_none {l : List Int} : bestL l = none ↔ l = [] := by
  cases l with
  | nil => simp [bestL]
  | cons a l =>
    obtain ⟨m', h1, -⟩ := best_fold l a
    have e : bestL (a :: l) = some m' := h1
    simp [e]
theorem bestL_ext {l l' : List Int} (h : ∀ c, c ∈ l ↔ c ∈ l') : bestL l = bestL l' := by
  cases hb : bestL l with
  | none =>
    rw [bestL_none] at hb
    subst hb
    symm
    rw [bestL_none]
    cases l' with
    | nil => rfl
    | cons a l' => exact absurd ((h a).2 (by simp)) (by simp)
  | some m =>
    symm
    rw [bestL_some] at hb ⊢
    exact ⟨(h m).1 hb.1, fun c hc => hb.2 c ((h c).2 hc)⟩
/-- of costs of pairs those of one -/
def pick (r n : Int) (l : List (Int × Int × Int)) : List Int := l.filterMap fun c => if c.1 = r ∧ c.2.1 = n then some c.2.2 else none
theorem mem_pick {r n c : Int} {l : List (Int × Int × Int)} : c ∈ pick r n l ↔ (r, n, c) ∈ l := by
  unfold pick
  rw [List.mem_filterMap]
  constructor
  · rintro ⟨⟨a, b, d⟩, hm, he⟩
    simp only at he
    split at he
    · rename_i h
      obtain ⟨rfl, rfl⟩ := h
      injection he with he
      subst he
      exact hm
    · cases he
  · intro hm
    exact ⟨_, hm, by simp⟩
theorem pick_snoc (r n a b c : Int) (l : List (Int × Int × Int)) : pick r n (l ++ [(a, b, c)]) = if a = r ∧ b = n then pick r n l ++ [c] else pick r n l := by
  unfold pick
  rw [List.filterMap_append]
  by_cases h : a = r ∧ b = n <;> simp [h]

/-- a router's links that lead to a network that knows of it -/
def candL (C : List VX) (x : VX) (ys : List Lnk) : List (Int × Int × Int) := ys.filterMap fun y => if y.kind = 2 ∧ x.1.adv ∈ memV C y.id then some (x.1.adv, y.id, y.cost) else none
def candC (C T : List VX) : List (Int × Int × Int) := T.flatMap fun x => candL C x x.2.1
def costC (C : List VX) (r n : Int) : Option Int := bestL (pick r n (candC C C))
def CandP (C : List VX) (r n c : Int) : Prop := ∃ x ∈ C, ∃ z ∈ C, ∃ y ∈ x.2.1, x.1.adv = r ∧ y.kind = 2 ∧ y.id = n ∧ y.cost = c ∧ isNet n z = true ∧ r ∈ z.2.2
theorem mem_cand {C : List VX} (h : CntOk C) {r n c : Int} : c ∈ pick r n (candC C C) ↔ CandP C r n c := by
  rw [mem_pick]
  unfold candC candL
  rw [List.mem_flatMap]
  constructor
  · rintro ⟨x, hx, hm⟩
    rw [List.mem_filterMap] at hm
    obtain ⟨y, hy, he⟩ := hm
    split at he
    · rename_i hc
      injection he with he
      injection he with e1 he
      injection he with e2 e3
      obtain ⟨z, hz, hn, hr⟩ := (mem_memV h).1 hc.2
      rw [e2] at hn
      rw [e1] at hr
      exact ⟨x, hx, z, hz, y, hy, e1, hc.1, e2, e3, hn, hr⟩
    · cases he
  · rintro ⟨x, hx, z, hz, y, hy, e1, e2, e3, e4, hn, hr⟩
    refine ⟨x, hx, ?_⟩
    rw [List.mem_filterMap]
    refine ⟨y, hy, ?_⟩
    have : x.1.adv ∈ memV C y.id := (mem_memV h).2 ⟨z, hz, by rw [e3]; exact hn, by rw [e1]; exact hr⟩
    rw [if_pos ⟨e2, this⟩, e1, e3, e4]
theorem cost_is {C : List VX} (h : CntOk C) {r n c : Int} (hc : costC C r n = some c) : CandP C r n c := (mem_cand h).1 (bestL_some.1 hc).1
theorem cost_ext {C C' : List VX} (h : CntOk C) (h' : CntOk C') {r n : Int} (he : ∀ c, CandP C r n c ↔ CandP C' r n c) : costC C r n = costC C' r n :=
  bestL_ext fun c => by rw [mem_cand h, mem_cand h', he]
theorem cand_bounds {C : List VX} (h : CntOk C) {r n c : Int} (hc : CandP C r n c) : (1 ≤ r ∧ r ≤ 15) ∧ (0 ≤ n ∧ n ≤ 63) ∧ (1 ≤ c ∧ c ≤ 100) := by
  obtain ⟨x, hx, z, hz, y, hy, e1, e2, e3, e4, -⟩ := hc
  have h1 := cnt_cases (h.each x hx)
  have h2 := cnt_links (h.each x hx) hy
  omega
/-- a router's links to a network of its own -/
def leafX (x : VX) (ys : List Lnk) : List (Int × Int × Int) := ys.filterMap fun y => if y.kind = 3 then some (x.1.adv, y.id / 16, y.cost) else none
def leafC (T : List VX) : List (Int × Int × Int) := T.flatMap fun x => leafX x x.2.1
def leafCost (C : List VX) (r n : Int) : Option Int := bestL (pick r n (leafC C))
def LeafP (C : List VX) (r n c : Int) : Prop := ∃ x ∈ C, ∃ y ∈ x.2.1, x.1.adv = r ∧ y.kind = 3 ∧ y.id / 16 = n ∧ y.cost = c
theorem mem_leaf {C : List VX} {r n c : Int} : c ∈ pick r n (leafC C) ↔ LeafP C r n c := by
  rw [mem_pick]
  unfold leafC leafX
  rw [List.mem_flatMap]
  constructor
  · rintro ⟨x, hx, hm⟩
    rw [List.mem_filterMap] at hm
    obtain ⟨y, hy, he⟩ := hm
    split at he
    · rename_i hc
      injection he with he
      injection he with e1 he
      injection he with e2 e3
      exact ⟨x, hx, y, hy, e1, hc, e2, e3⟩
    · cases he
  · rintro ⟨x, hx, y, hy, e1, e2, e3, e4⟩
    refine ⟨x, hx, ?_⟩
    rw [List.mem_filterMap]
    refine ⟨y, hy, ?_⟩
    rw [if_pos e2, e1, e3, e4]
theorem leaf_is {C : List VX} {r n c : Int} (hc : leafCost C r n = some c) : LeafP C r n c := mem_leaf.1 (bestL_some.1 hc).1
theorem leaf_ext {C C' : List VX} {r n : Int} (he : ∀ c, LeafP C r n c ↔ LeafP C' r n c) : leafCost C r n = leafCost C' r n :=
  bestL_ext fun c => by rw [mem_leaf, mem_leaf, he]
theorem leaf_bounds {C : List VX} (h : CntOk C) {r n c : Int} (hc : LeafP C r n c) : (1 ≤ r ∧ r ≤ 15) ∧ (0 ≤ n ∧ n ≤ 3) ∧ (1 ≤ c ∧ c ≤ 100) := by
  obtain ⟨x, hx, y, hy, e1, e2, e3, e4⟩ := hc
  have h1 := cnt_cases (h.each x hx)
  have h2 := cnt_links (h.each x hx) hy
  omega

/-- numbers from a on -/
def rng (a : Int) (n : Nat) : List Int := (List.range n).map fun i : Nat => a + (i : Int)
theorem mem_rng {a : Int} {n : Nat} {z : Int} : z ∈ rng a n ↔ a ≤ z ∧ z < a + n := by
  unfold rng
  rw [List.mem_map]
  constructor
  · rintro ⟨i, hi, rfl⟩
    have := List.mem_range.1 hi
    omega
  · rintro ⟨h1, h2⟩
    exact ⟨(z - a).toNat, List.mem_range.2 (by omega), by omega⟩
theorem rng_sorted (a : Int) (n : Nat) : (rng a n).Pairwise fun x y => x < y := by
  unfold rng
  rw [List.pairwise_map]
  exact List.pairwise_lt_range.imp fun h => by omega
def edgeA (f : Int → Int → Option Int) (r n : Int) : Option Ed := (f r n).map fun c => ⟨1, r, 2, n, c⟩
def edgeB (f : Int → Int → Option Int) (n r : Int) : Option Ed := (f r n).map fun _ => ⟨2, n, 1, r, 0⟩
def edgesC (f : Int → Int → Option Int) : List Ed := (rng 1 15).flatMap (fun r => (rng 0 64).filterMap (edgeA f r)) ++ (rng 0 64).flatMap (fun n => (rng 1 15).filterMap (edgeB f n))
def leafA (f : Int → Int → Option Int) (r n : Int) : Option Lf := (f r n).map fun c => ⟨r, n, c⟩
def leavesC (f : Int → Int → Option Int) : List Lf := (rng 1 15).flatMap fun r => (rng 0 4).filterMap (leafA f r)
theorem mem_edges {f : Int → Int → Option Int} {e : Ed} : e ∈ edgesC f ↔ ∃ r n c, (1 ≤ r ∧ r ≤ 15) ∧ (0 ≤ n ∧ n ≤ 63) ∧ f r n = some c ∧ (e = ⟨1, r, 2, n, c⟩ ∨ e = ⟨2, n, 1, r, 0⟩) := by
  unfold edgesC edgeA edgeB
  rw [List.mem_append, List.mem_flatMap, List.mem_flatMap]
  constructor
  · rintro (⟨r, hr, hm⟩ | ⟨n, hn, hm⟩)
    · rw [List.mem_filterMap] at hm
      obtain ⟨n, hn, he⟩ := hm
      rw [Option.map_eq_some_iff] at he
      obtain ⟨c, hc, rfl⟩ := he
      have h1 := mem_rng.1 hr
      have h2 := mem_rng.1 hn
      exact ⟨r, n, c, by omega, by omega, hc, .inl rfl⟩
    · rw [List.mem_filterMap] at hm
      obtain ⟨r, hr, he⟩ := hm
      rw [Option.map_eq_some_iff] at he
      obtain ⟨c, hc, rfl⟩ := he
      have h1 := mem_rng.1 hr
      have h2 := mem_rng.1 hn
      exact ⟨r, n, c, by omega, by omega, hc, .inr rfl⟩
  · rintro ⟨r, n, c, hr, hn, hc, rfl | rfl⟩
    · refine .inl ⟨r, mem_rng.2 (by omega), List.mem_filterMap.2 ⟨n, mem_rng.2 (by omega), by rw [hc]; rfl⟩⟩
    · refine .inr ⟨n, mem_rng.2 (by omega), List.mem_filterMap.2 ⟨r, mem_rng.2 (by omega), by rw [hc]; rfl⟩⟩
theorem mem_leaves {f : Int → Int → Option Int} {e : Lf} : e ∈ leavesC f ↔ ∃ r n c, (1 ≤ r ∧ r ≤ 15) ∧ (0 ≤ n ∧ n ≤ 3) ∧ f r n = some c ∧ e = ⟨r, n, c⟩ := by
  unfold leavesC leafA
  rw [List.mem_flatMap]
  constructor
  · rintro ⟨r, hr, hm⟩
    rw [List.mem_filterMap] at hm
    obtain ⟨n, hn, he⟩ := hm
    rw [Option.map_eq_some_iff] at he
    obtain ⟨c, hc, rfl⟩ := he
    have h1 := mem_rng.1 hr
    have h2 := mem_rng.1 hn
    exact ⟨r, n, c, by omega, by omega, hc, rfl⟩
  · rintro ⟨r, n, c, hr, hn, hc, rfl⟩
    exact ⟨r, mem_rng.2 (by omega), List.mem_filterMap.2 ⟨n, mem_rng.2 (by omega), by rw [hc]; rfl⟩⟩
theorem edgesC_sorted (f : Int → Int → Option Int) : (edgesC f).Pairwise ltE := by
  unfold edgesC
  rw [List.pairwise_append]
  refine ⟨?_, ?_, ?_⟩
  · rw [List.pairwise_flatMap]
    refine ⟨fun r _ => ?_, ?_⟩
    · rw [List.pairwise_filterMap]
      refine (rng_sorted 0 64).imp fun {n n'} hlt a ha b hb => ?_
      have hlt : n < n' := hlt
      simp only [edgeA, Option.map_eq_some_iff] at ha hb
      obtain ⟨c, -, rfl⟩ := ha
      obtain ⟨c', -, rfl⟩ := hb
      exact .inr ⟨rfl, .inr ⟨rfl, .inr ⟨rfl, hlt⟩⟩⟩
    · refine (rng_sorted 1 15).imp fun {r r'} hlt a ha b hb => ?_
      have hlt : r < r' := hlt
      rw [List.mem_filterMap] at ha hb
      obtain ⟨n, -, ha⟩ := ha
      obtain ⟨n', -, hb⟩ := hb
      simp only [edgeA, Option.map_eq_some_iff] at ha hb
      obtain ⟨c, -, rfl⟩ := ha
      obtain ⟨c', -, rfl⟩ := hb
      exact .inr ⟨rfl, .inl hlt⟩
  · rw [List.pairwise_flatMap]
    refine ⟨fun r _ => ?_, ?_⟩
    · rw [List.pairwise_filterMap]
      refine (rng_sorted 1 15).imp fun {n n'} hlt a ha b hb => ?_
      have hlt : n < n' := hlt
      simp only [edgeB, Option.map_eq_some_iff] at ha hb
      obtain ⟨c, -, rfl⟩ := ha
      obtain ⟨c', -, rfl⟩ := hb
      exact .inr ⟨rfl, .inr ⟨rfl, .inr ⟨rfl, hlt⟩⟩⟩
    · refine (rng_sorted 0 64).imp fun {r r'} hlt a ha b hb => ?_
      have hlt : r < r' := hlt
      rw [List.mem_filterMap] at ha hb
      obtain ⟨n, -, ha⟩ := ha
      obtain ⟨n', -, hb⟩ := hb
      simp only [edgeB, Option.map_eq_some_iff] at ha hb
      obtain ⟨c, -, rfl⟩ := ha
      obtain ⟨c', -, rfl⟩ := hb
      exact .inr ⟨rfl, .inl hlt⟩
  · intro a ha b hb
    rw [List.mem_flatMap] at ha hb
    obtain ⟨r, -, ha⟩ := ha
    obtain ⟨r', -, hb⟩ := hb
    rw [List.mem_filterMap] at ha hb
    obtain ⟨n, -, ha⟩ := ha
    obtain ⟨n', -, hb⟩ := hb
    simp only [edgeA, edgeB, Option.map_eq_some_iff] at ha hb
    obtain ⟨c, -, rfl⟩ := ha
    obtain ⟨c', -, rfl⟩ := hb
    exact .inl (show (1 : Int) < 2 by decide)
theorem leavesC_sorted (f : Int → Int → Option Int) : (leavesC f).Pairwise ltF := by
  unfold leavesC
  rw [List.pairwise_flatMap]
  refine ⟨fun r _ => ?_, ?_⟩
  · rw [List.pairwise_filterMap]
    refine (rng_sorted 0 4).imp fun {n n'} hlt a ha b hb => ?_
    have hlt : n < n' := hlt
    simp only [leafA, Option.map_eq_some_iff] at ha hb
    obtain ⟨c, -, rfl⟩ := ha
    obtain ⟨c', -, rfl⟩ := hb
    exact .inr ⟨rfl, hlt⟩
  · refine (rng_sorted 1 15).imp fun {r r'} hlt a ha b hb => ?_
    have hlt : r < r' := hlt
    rw [List.mem_filterMap] at ha hb
    obtain ⟨n, -, ha⟩ := ha
    obtain ⟨n', -, hb⟩ := hb
    simp only [leafA, Option.map_eq_some_iff] at ha hb
    obtain ⟨c, -, rfl⟩ := ha
    obtain ⟨c', -, rfl⟩ := hb
    exact .inl hlt
def edgesV (l : List VX) : List Ed := edgesC (costC (countsV l))
def leavesV (l : List VX) : List Lf := leavesC (leafCost (countsV l))

end Go.Proofs.YtpnbibokddhheaaGreat

/-
  Layer 21: a row of costs; where a vertex' row is (plain).
-/
namespace Go.Proofs.YtpnbibokddhheaaGreat
open Go.RowKit

/-- a row of costs -/
def rcells (p : RowV) : List Value := [.int .i64 p.1.kind, .int .i64 p.1.id, .int .i64 p.2.c, .int .i64 p.2.h]
theorem onesRw (x : RowV) : ∀ u ∈ rcells x, u.oneCell' = true := by
  intro u hu
  simp [rcells] at hu
  rcases hu with rfl | rfl | rfl | rfl <;> rfl
theorem row_rw {w : World} {B : Nat} {A : Option Addr} {l : List RowV} (h : RowsAt 4 rcells w B A l) (k : Nat) (hk : k < l.length) :
    ∃ b o, A = some ⟨b, o, none⟩ ∧ b < B ∧ w.cell? ⟨b, o + k * 4, none⟩ = some (.int .i64 l[k].1.kind) ∧ w.cell? ⟨b, o + k * 4 + 1, none⟩ = some (.int .i64 l[k].1.id) ∧ w.cell? ⟨b, o + k * 4 + 2, none⟩ = some (.int .i64 l[k].2.c) ∧ w.cell? ⟨b, o + k * 4 + 3, none⟩ = some (.int .i64 l[k].2.h) := by
  obtain ⟨b, o, e, hb, hc⟩ := h (by omega)
  exact ⟨b, o, e, hb, by simpa using hc k hk 0 _ (by omega) rfl, hc k hk 1 _ (by omega) rfl, hc k hk 2 _ (by omega) rfl, hc k hk 3 _ (by omega) rfl⟩
/-- where a vertex' row is; -1: there is none -/
def fixV (L : List RowV) (v : Vx) : Int := if ixV v L < L.length then (ixV v L : Int) else -1
theorem ix_take {L : List RowV} {v : Vx} {k : Nat} (hk : k ≤ L.length) (h : ∀ p ∈ L.take k, p.1 ≠ v) : k ≤ ixV v L := by
  unfold ixV
  rcases Nat.lt_or_ge (L.findIdx fun p => decide (p.1 = v)) k with hlt | hge
  · exfalso
    have h1 : L.findIdx (fun p => decide (p.1 = v)) < L.length := by omega
    have h2 := List.findIdx_getElem (p := fun p : RowV => decide (p.1 = v)) (xs := L) (w := h1)
    rw [decide_eq_true_eq] at h2
    refine h _ ?_ h2
    rw [List.mem_take_iff_getElem]
    exact ⟨_, by omega, rfl⟩
  · exact hge
theorem ix_at {L : List RowV} {v : Vx} {k : Nat} (hk : k < L.length) (h : ∀ p ∈ L.take k, p.1 ≠ v) (he : L[k].1 = v) : fixV L v = k := by
  have h1 := ix_take (by omega) h
  have h2 : ixV v L = k := by
    unfold ixV at h1 ⊢
    rcases Nat.lt_or_ge k (L.findIdx fun p => decide (p.1 = v)) with hlt | hge
    · have := List.not_of_lt_findIdx hlt
      simp [he] at this
    · omega
  unfold fixV
  rw [h2, if_pos hk]
theorem ix_not {L : List RowV} {v : Vx} (h : ∀ p ∈ L, p.1 ≠ v) : fixV L v = -1 := by
  have h1 := ix_take (Nat.le_refl _) (by rw [List.take_length]; exact h)
  unfold fixV
  rw [if_neg (by omega)]
theorem notin_more {L : List RowV} {v : Vx} {k : Nat} (hk : k < L.length) (h : ∀ p ∈ L.take k, p.1 ≠ v) (he : L[k].1 ≠ v) : ∀ p ∈ L.take (k + 1), p.1 ≠ v := by
  intro p hp
  rw [List.take_succ_eq_append_getElem hk, List.mem_append, List.mem_singleton] at hp
  rcases hp with hp | rfl
  · exact h p hp
  · exact he

end Go.Proofs.YtpnbibokddhheaaGreat

/-
  Layer 21: rows of costs: how large they get; what one edge does, case by case.
-/
namespace Go.Proofs.YtpnbibokddhheaaGreat
open Go.RowKit

def BndR (x : Nat) (L : List RowV) : Prop := ∀ p ∈ L, p.2.c ≤ 100 * x ∧ p.2.h ≤ x
theorem fix_some {L : List RowV} {v : Vx} {a : Val2} (h : getR L v = some a) : ∃ k : Nat, ∃ hk : k < L.length, fixV L v = k ∧ ixV v L = k ∧ L[k] = (v, a) := by
  obtain ⟨hi, e⟩ := ix_lt h
  exact ⟨_, hi, by unfold fixV; rw [if_pos hi], rfl, e⟩
theorem fix_none {L : List RowV} {v : Vx} (h : getR L v = none) : fixV L v = -1 := ix_not (get_none.1 h)
theorem relax_off {L : List RowV} {e : Ed} (h : cntE e = false) : relax L e = L := by unfold relax; rw [h]; rfl
theorem relax_out {L : List RowV} {e : Ed} (h : getR L e.src = none) : relax L e = L := by unfold relax; rw [h]; simp
theorem relax_new {L : List RowV} {e : Ed} {a : Val2} (hc : cntE e = true) (h : getR L e.src = some a) (hd : getR L e.dst = none) : relax L e = L ++ [(e.dst, stepV a e)] := by unfold relax; rw [if_pos hc, h]; simp only; rw [hd]
theorem relax_old {L : List RowV} {e : Ed} {a b : Val2} (hc : cntE e = true) (h : getR L e.src = some a) (hd : getR L e.dst = some b) : relax L e = if lessV (stepV a e) b = true then L.set (ixV e.dst L) (e.dst, stepV a e) else L := by unfold relax; rw [if_pos hc, h]; simp only; rw [hd]
theorem cost_le {e : Ed} (h : cntE e = true) : e.cost.toNat ≤ 100 ∧ (0 ≤ e.cost ∧ e.cost ≤ 100) ∧ hopN e ≤ 1 := by
  obtain ⟨-, -, h⟩ := cntE_iff.1 h
  unfold hopN
  refine ⟨by omega, by omega, ?_⟩
  split <;> omega
theorem BndR.relax {x : Nat} {L : List RowV} (h : BndR x L) (e : Ed) : BndR (x + 1) (relax L e) := by
  have hw : ∀ p ∈ L, p.2.c ≤ 100 * (x + 1) ∧ p.2.h ≤ x + 1 := fun p hp => by have := h p hp; omega
  cases hc : cntE e with
  | false => rw [relax_off hc]; exact hw
  | true =>
    cases h1 : getR L e.src with
    | none => rw [relax_out h1]; exact hw
    | some a =>
      obtain ⟨k, hk, -, -, ha⟩ := fix_some h1
      have hm : (e.src, a) ∈ L := by rw [← ha]; exact List.getElem_mem hk
      have hb := h _ hm
      have hl := cost_le hc
      have hs : (stepV a e).c ≤ 100 * (x + 1) ∧ (stepV a e).h ≤ x + 1 := by
        unfold stepV
        simp only at hb ⊢
        omega
      cases h2 : getR L e.dst with
      | none =>
        rw [relax_new hc h1 h2]
        intro p hp
        rcases List.mem_append.1 hp with hp | hp
        · exact hw p hp
        · rw [List.mem_singleton] at hp
          rw [hp]
          exact hs
      | some b =>
        rw [relax_old hc h1 h2]
        split
        · intro p hp
          rcases List.mem_or_eq_of_mem_set hp with hp | hp
          · exact hw p hp
          · rw [hp]
            exact hs
        · exact hw
theorem BndR.round : ∀ (T : List Ed) {x : Nat} {L : List RowV}, BndR x L → BndR (x + T.length) (roundR T L)
  | [], _, _, h => h
  | e :: T, x, _, h => by
    have := BndR.round T (h.relax e)
    rw [List.length_cons, show x + (T.length + 1) = x + 1 + T.length by omega]
    exact this
theorem BndR.iter (E : List Ed) : ∀ (k : Nat) {x : Nat} {L : List RowV}, BndR x L → BndR (x + k * E.length) (iterR E k L)
  | 0, _, _, h => by rw [Nat.zero_mul]; exact h
  | k + 1, x, _, h => by
    have := BndR.iter E k (h.round E)
    rw [Nat.add_mul, Nat.one_mul, show x + (k * E.length + E.length) = x + E.length + k * E.length by omega]
    exact this
/-- what the rows are when the rounds so far are done, and so many edges of the next one -/
def rowsV (E : List Ed) (r : Vx) (k i : Nat) : List RowV := roundR (E.take i) (iterR E k [(r, ⟨0, 0⟩)])
theorem rowsV_zero (E : List Ed) (r : Vx) (k : Nat) : rowsV E r k 0 = iterR E k [(r, ⟨0, 0⟩)] := rfl
theorem rowsV_last (E : List Ed) (r : Vx) (k : Nat) : rowsV E r k E.length = iterR E (k + 1) [(r, ⟨0, 0⟩)] := by
  unfold rowsV
  rw [List.take_length, iterR_succ]
theorem rowsV_next (E : List Ed) (r : Vx) (k : Nat) {i : Nat} (hi : i < E.length) : rowsV E r k (i + 1) = relax (rowsV E r k i) E[i] := relax_snoc E hi _
theorem rowsV_ok {E : List Ed} {r : Vx} (hr : mayV r = true) (k i : Nat) : (rowsV E r k i).length ≤ 79 :=
  (((RowsOk.start E hr).iter k).round (E.take i)).len (E := E) (r := r)
theorem rowsV_small {E : List Ed} {r : Vx} {k i : Nat} (hk : k ≤ 200) (hi : i ≤ E.length) (hE : E.length ≤ 4000) : ∀ p ∈ rowsV E r k i, p.2.c ≤ 100000000 ∧ p.2.h ≤ 1000000 := by
  have h0 : BndR 0 [(r, (⟨0, 0⟩ : Val2))] := fun p hp => by
    rw [List.mem_singleton] at hp
    rw [hp]
    simp
  have h1 := (h0.iter E k).round (E.take i)
  intro p hp
  have := h1 p hp
  have h2 : k * E.length ≤ 200 * 4000 := Nat.mul_le_mul hk hE
  have h3 : (E.take i).length ≤ 4000 := by rw [List.length_take]; omega
  omega
theorem rowsV_stop {E : List Ed} {r : Vx} {k : Nat} (hk : k ≤ 200) (h : rowsV E r k E.length = iterR E k [(r, ⟨0, 0⟩)]) : iterR E 200 [(r, ⟨0, 0⟩)] = rowsV E r k E.length := by
  rw [h]
  refine iterR_stop hk ?_
  rw [rowsV_last, iterR_succ] at h
  exact h

theorem set_flatRw (l : List RowV) (k : Nat) (c : RowV) (hk : k < l.length) :
    (l.set k c).flatMap rcells = ((((l.flatMap rcells).set (k * 4) (.int .i64 c.1.kind)).set (k * 4 + 1) (.int .i64 c.1.id)).set (k * 4 + 2) (.int .i64 c.2.c)).set (k * 4 + 3) (.int .i64 c.2.h) := by
  induction l generalizing k with
  | nil => simp at hk
  | cons d l ih =>
    cases k with
    | zero => simp [rcells]
    | succ k =>
      have h := ih k (by simpa using hk)
      simp only [List.set_cons_succ, List.flatMap_cons, h]
      have h4 : (rcells d).length = 4 := rfl
      rw [List.set_append_right _ _ (by omega), List.set_append_right _ _ (by omega), List.set_append_right _ _ (by omega), List.set_append_right _ _ (by omega)]
      simp only [h4, show (k + 1) * 4 - 4 = k * 4 by omega, show (k + 1) * 4 + 1 - 4 = k * 4 + 1 by omega, show (k + 1) * 4 + 2 - 4 = k * 4 + 2 by omega, show (k + 1) * 4 + 3 - 4 = k * 4 + 3 by omega]
theorem Blk.set4s {w : World} {g : Nat} {t : TypeId} {a b c d : Value} (h : Blk w g t #[a, b, c, d]) (a' b' c' d' : Value) : Blk ((((w.setCell ⟨g, 0, none⟩ a').setCell ⟨g, 1, none⟩ b').setCell ⟨g, 2, none⟩ c').setCell ⟨g, 3, none⟩ d') g t #[a', b', c', d'] := h.set4
theorem below_set4 {B : Nat} {w w' : World} {g j : Nat} (h : Below B w w') (hg : B ≤ g) (a b c d : Value) : Below B w ((((w'.setCell ⟨g, j, none⟩ a).setCell ⟨g, j + 1, none⟩ b).setCell ⟨g, j + 2, none⟩ c).setCell ⟨g, j + 3, none⟩ d) :=
  (((h.setCell (p := ⟨g, j, none⟩) hg _).setCell (p := ⟨g, j + 1, none⟩) hg _).setCell (p := ⟨g, j + 2, none⟩) hg _).setCell (p := ⟨g, j + 3, none⟩) hg _
theorem below_set4z {B : Nat} {w w' : World} {g : Nat} (h : Below B w w') (hg : B ≤ g) (a b c d : Value) : Below B w ((((w'.setCell ⟨g, 0, none⟩ a).setCell ⟨g, 1, none⟩ b).setCell ⟨g, 2, none⟩ c).setCell ⟨g, 3, none⟩ d) :=
  (((h.setCell (p := ⟨g, 0, none⟩) hg _).setCell (p := ⟨g, 1, none⟩) hg _).setCell (p := ⟨g, 2, none⟩) hg _).setCell (p := ⟨g, 3, none⟩) hg _

end Go.Proofs.YtpnbibokddhheaaGreat

/-
  slices.Clone at the slices that a description has.
-/
namespace Go.Proofs.YtpnbibokddhheaaGreat
open Go.RowKit

theorem own_empty {α : Type} {e : TypeId} {C : Nat} {cells : α → List Value} (w : World) : OwnR e C cells (w.alloc (.cells #[] e)) w.heap.size (.slice (some ⟨w.heap.size, 0, none⟩) 0 0) ([] : List α) := by
  exact ⟨by simp, .inr ⟨w.heap.size, 0, #[], rfl, Nat.le_refl _, Blk.new w e #[], by simp, by unfold maxLen; omega, by simp, by simp⟩⟩
theorem infoInt' : (Tryz.prog.info? 3).map (fun i => (i.zero, i.size, i.bytes)) = some (some (.int .i64 0), 1, 8) := by kernel_rfl
theorem onesI (x : Int) : ∀ u ∈ icell x, u.oneCell' = true := by
  intro u hu
  simp [icell] at hu
  subst hu
  rfl
theorem infoLnk : (Tryz.prog.info? 152).map (fun i => (i.zero, i.size, i.bytes)) = some (some (.agg #[.int .i64 0, .int .i64 0, .int .i64 0, .int .i64 0]), 4, 32) := by kernel_rfl
theorem onesL (x : Lnk) : ∀ u ∈ Lnk.cells x, u.oneCell' = true := by
  intro u hu
  simp [Lnk.cells] at hu
  rcases hu with rfl | rfl | rfl | rfl <;> rfl
set_option maxHeartbeats 2000000 in
set_option maxRecDepth 100000 in
theorem cloneInt (A : Option Addr) (c : Nat) (M : List Int) (w : World) (B : Nat) (h : RowsAt 1 icell w B A M) (hB : B ≤ w.heap.size) (hl : M.length ≤ 2 ^ 20) (n : Nat) (hn : n = M.length) :
    Calls Tryz.prog 81 #[.slice A n c] w fun r w' => ∃ v, r = .returned v ∧ OwnR 3 1 icell w' w.heap.size v M ∧ Below w.heap.size w w' := by
  subst hn
  cases A with
  | none =>
    have hM : M = [] := by
      rcases Nat.eq_zero_or_pos M.length with h0 | h0
      · exact List.eq_nil_of_length_eq_zero h0
      · obtain ⟨b, o, e, -⟩ := h h0
        cases e
    subst hM
    clear h
    have hnil := fun (w : World) => Lib.run_eql_slice_nil (P := Tryz.prog) w 29 3 none 0 c 0 0 Tryz.underlying29
    simp only [List.length_nil]
    go_enter Tryz.func81, Tryz.ntmps81
    go_wp2
    go_ret
    exact ⟨_, rfl, OwnR.nil _ _, Below.refl _ _⟩
  | some a =>
    have H := Lib.hid (h.more hB)
    have HE : Hid (OwnR 3 1 icell (w.alloc (.cells #[] 3)) w.heap.size (.slice (some ⟨w.heap.size, 0, none⟩) 0 0) ([] : List Int)) := Lib.hid (own_empty _)
    have hb1 := (Below.refl w.heap.size w).alloc (Nat.le_refl _) (.cells #[] 3)
    have Hb1 := Lib.hid hb1
    clear h hB hb1
    have hnil := fun (w : World) => Lib.run_eql_slice_nil (P := Tryz.prog) w 29 3 (some a) M.length c 0 0 Tryz.underlying29
    go_enter Tryz.func81, Tryz.ntmps81
    go_wp2_with (at_builtin; (refine app_rows (e := 3) icell (fun _ => rfl) (by decide) (bytes := 8) (by decide) infoInt' rfl Tryz.underlying29 onesI (by rfl) _ _ (by rfl) w.heap.size _ [] (by rfl) HE.out (some a) c M.length M rfl (by rfl) ((H.out.below Hb1.out).more (by simp)) (by simp; omega) (by simp) ?_); intro v5 w5 hown5 hg5 hor5; have Hown5 := Lib.hid hown5; have Hb5 := Lib.hid (Hb1.out.grown hg5 (by simp) (fun j hj => (HE.out.block j hj).1)); clear hown5 hg5 hor5)
    go_ret
    exact ⟨_, rfl, by simpa using Hown5.out, Hb5.out⟩
set_option maxHeartbeats 2000000 in
set_option maxRecDepth 100000 in
theorem cloneLnk (A : Option Addr) (c : Nat) (M : List Lnk) (w : World) (B : Nat) (h : RowsAt 4 Lnk.cells w B A M) (hB : B ≤ w.heap.size) (hl : M.length ≤ 2 ^ 20) (n : Nat) (hn : n = M.length) :
    Calls Tryz.prog 80 #[.slice A n c] w fun r w' => ∃ v, r = .returned v ∧ OwnR 152 4 Lnk.cells w' w.heap.size v M ∧ Below w.heap.size w w' := by
  subst hn
  cases A with
  | none =>
    have hM : M = [] := by
      rcases Nat.eq_zero_or_pos M.length with h0 | h0
      · exact List.eq_nil_of_length_eq_zero h0
      · obtain ⟨b, o, e, -⟩ := h h0
        cases e
    subst hM
    clear h
    have hnil := fun (w : World) => Lib.run_eql_slice_nil (P := Tryz.prog) w 28 152 none 0 c 0 0 Tryz.underlying28
    simp only [List.length_nil]
    go_enter Tryz.func80, Tryz.ntmps80
    go_wp2
    go_ret
    exact ⟨_, rfl, OwnR.nil _ _, Below.refl _ _⟩
  | some a =>
    have H := Lib.hid (h.more hB)
    have HE : Hid (OwnR 152 4 Lnk.cells (w.alloc (.cells #[] 152)) w.heap.size (.slice (some ⟨w.heap.size, 0, none⟩) 0 0) ([] : List Lnk)) := Lib.hid (own_empty _)
    have hb1 := (Below.refl w.heap.size w).alloc (Nat.le_refl _) (.cells #[] 152)
    have Hb1 := Lib.hid hb1
    clear h hB hb1
    have hnil := fun (w : World) => Lib.run_eql_slice_nil (P := Tryz.prog) w 28 152 (some a) M.length c 0 0 Tryz.underlying28
    go_enter Tryz.func80, Tryz.ntmps80
    go_wp2_with (at_builtin; (refine app_rows (e := 152) Lnk.cells (fun _ => rfl) (by decide) (bytes := 32) (by decide) infoLnk rfl Tryz.underlying28 onesL (by rfl) _ _ (by rfl) w.heap.size _ [] (by rfl) HE.out (some a) c M.length M rfl (by rfl) ((H.out.below Hb1.out).more (by simp)) (by simp; omega) (by simp) ?_); intro v5 w5 hown5 hg5 hor5; have Hown5 := Lib.hid hown5; have Hb5 := Lib.hid (Hb1.out.grown hg5 (by simp) (fun j hj => (HE.out.block j hj).1)); clear hown5 hg5 hor5)
    go_ret
    exact ⟨_, rfl, by simpa using Hown5.out, Hb5.out⟩

end Go.Proofs.YtpnbibokddhheaaGreat

/-
  Layer 20: which descriptions count: the program's way.
-/
namespace Go.Proofs.YtpnbibokddhheaaGreat
open Go.RowKit Go.Sort

/-- who was seen -/
def seenL (O : List Lsa) : List (K3 × Value) := O.map fun x => (keyX x, Value.int .i64 1)
theorem seen_get (k : K3) : ∀ O : List Lsa, getL k (seenL O) = if hasV (O.map vX) k = true then some (.int .i64 1) else none
  | [] => rfl
  | x :: O => by
    have h := seen_get k O
    unfold seenL at h ⊢
    rw [List.map_cons, getL, h]
    unfold hasV
    rw [List.map_cons, List.any_cons, keyV_vX]
    by_cases e : keyX x = k <;> simp [e]
theorem seen_set (k : K3) (O : List Lsa) (h : hasV (O.map vX) k = false) : setL k (.int .i64 1) (seenL O) = seenL O ++ [(k, .int .i64 1)] := by
  cases hl : look k (seenL O) 0 with
  | none => exact (look_none hl).2.2 _
  | some jv =>
    obtain ⟨j, v⟩ := jv
    obtain ⟨n, -, -, h1, -⟩ := look_some hl
    rw [seen_get, h] at h1
    simp at h1
/-- the low bits of a number -/
theorem and15 (x : Int) (h0 : 0 ≤ x) (h1 : x ≤ 63) : bits .and .i64 x 15 = x % 16 :=
  bits_mask .i64 63 (by decide) (fun n h0 h1 => by rw [IntKind.wrap_i64]; omega) 4 (by decide) x h0 (by omega)
theorem right_id {h : Hd} {ka : Option Addr} {kc : Nat} {ls : List Lnk} {ma : Option Addr} {mc : Nat} {ms : List Int} (hr : rightB ⟨h, ka, kc, ls, ma, mc, ms⟩ = true) (h2 : h.kind = 2) : 0 ≤ h.id ∧ h.id ≤ 63 := by
  unfold rightB at hr
  rw [if_neg (by simp only; omega)] at hr
  simp only [Bool.and_eq_true, inB_iff] at hr
  exact hr.2.1.1
theorem zeroI20 (w : World) : (zeroValue 3).run Tryz.prog w = .ok (.int .i64 0) w := by kernel_rfl
theorem cnt_split (h : Hd) (ka : Option Addr) (kc : Nat) (ls : List Lnk) (ma : Option Addr) (mc : Nat) (ms : List Int) :
    (rightB ⟨h, ka, kc, ls, ma, mc, ms⟩ = false ∧ cntV (h, ls, ms) = false) ∨ (rightB ⟨h, ka, kc, ls, ma, mc, ms⟩ = true ∧ ((h.age = 60 ∧ cntV (h, ls, ms) = false) ∨ (h.age ≠ 60 ∧ ((h.kind = 2 ∧ ¬ h.id % 16 = h.adv ∧ cntV (h, ls, ms) = false) ∨ (h.kind ≠ 2 ∧ cntV (h, ls, ms) = true) ∨ (h.kind = 2 ∧ h.id % 16 = h.adv ∧ cntV (h, ls, ms) = true))))) := by
  have e : rightB (xV (h, ls, ms)) = rightB ⟨h, ka, kc, ls, ma, mc, ms⟩ := rfl
  unfold cntV
  rw [e]
  cases rightB ⟨h, ka, kc, ls, ma, mc, ms⟩ with
  | false => exact .inl ⟨rfl, rfl⟩
  | true =>
    refine .inr ⟨rfl, ?_⟩
    by_cases h1 : h.age = 60
    · exact .inl ⟨h1, by simp [h1]⟩
    · refine .inr ⟨h1, ?_⟩
      by_cases h2 : h.kind = 2
      · by_cases h3 : h.id % 16 = h.adv
        · exact .inr (.inr ⟨h2, h3, by simp [h1, h3]⟩)
        · exact .inl ⟨h2, h3, by simp [h2, h3]⟩
      · exact .inr (.inl ⟨h2, by simp [h1, h2]⟩)
/-- what lies in memory behind so many rounds -/
structure CntSt (w wr : World) (b : Nat) (l : List Lsa) (k : Nat) (v : Value) (O : List Lsa) : Prop where
  is : O.map vX = countsV ((l.take k).map vX)
  xs : XsAt wr (b + 1) v O
  map : MapAt K3.enc wr b (seenL O)
  bel : Below w.heap.size w wr
theorem cnt_no {l : List Lsa} {k : Nat} (hk : k < l.length) {O : List Lsa} (h : O.map vX = countsV ((l.take k).map vX)) (hn : cntV (vX l[k]) = false ∨ hasV (O.map vX) (keyV (vX l[k])) = true) : O.map vX = countsV ((l.take (k + 1)).map vX) := by
  rw [List.take_succ_eq_append_getElem hk, List.map_append, List.map_singleton, countsV_snoc, ← h]
  unfold addV
  rw [if_neg]
  rintro ⟨h1, h2⟩
  rcases hn with hn | hn
  · rw [hn] at h1; cases h1
  · rw [hn] at h2; cases h2
theorem cnt_yes {l : List Lsa} {k : Nat} (hk : k < l.length) {O : List Lsa} {x : Lsa} (h : O.map vX = countsV ((l.take k).map vX)) (hx : vX x = vX l[k]) (hc : cntV (vX l[k]) = true) (hn : hasV (O.map vX) (keyV (vX l[k])) = false) : (O ++ [x]).map vX = countsV ((l.take (k + 1)).map vX) := by
  rw [List.take_succ_eq_append_getElem hk, List.map_append, List.map_append, List.map_singleton, List.map_singleton, countsV_snoc, ← h, hx]
  unfold addV
  rw [if_pos ⟨hc, hn⟩]

set_option maxHeartbeats 16000000 in
set_option maxRecDepth 100000 in
theorem Counts_any (A : Option Addr) (cap : Nat) (l : List Lsa) (w : World) (hl : RowsAt 9 Lsa.cells w w.heap.size A l) (he : ∀ x ∈ l, RowsAt 4 Lnk.cells w w.heap.size x.ka x.links ∧ RowsAt 1 icell w w.heap.size x.ma x.members) (hlens : ∀ x ∈ l, x.links.length ≤ 1000 ∧ x.members.length ≤ 1000) (hm : l.length ≤ 2 ^ 16) (nn : Nat) (hnn : nn = l.length) :
    Calls Tryz.prog 61 #[.slice A nn cap] w fun r w' => (∃ v, r = .returned v ∧ ∃ O, XsAt w' w.heap.size v O ∧ O.map vX = countsV (l.map vX)) ∧ Below w.heap.size w w' := by
  subst hnn
  obtain ⟨b, hb⟩ : ∃ b, w.heap.size = b := ⟨_, rfl⟩
  have HL := Lib.hid hl
  have HE := Lib.hid he
  have Hlens := Lib.hid hlens
  have Hb0 := Lib.hid hb
  have hmm := @run_makeMap Tryz.prog
  have hm' : (l.length : Int) ≤ 9223372036854775807 := by omega
  have HS0 := Lib.hid (show CntSt w (w.alloc (.map #[] 0)) b l 0 (.slice none 0 0) [] from ⟨rfl, XsAt.nil _ _, by rw [← hb]; exact MapAt.new w, (Below.refl _ _).alloc (Nat.le_refl _) _⟩)
  clear hl he hlens
  go_enter Tryz.func61, Tryz.ntmps61
  go_wp2
  clear hmm
  go_loopw [3, 11] (fun v i wr => ∃ (k : Nat) (O : List Lsa), i = .int .i64 k ∧ k ≤ l.length ∧ CntSt w wr b l k v O) (fun _ i _ => l.length - (intOf i).toNat)
  case atStart => exact ⟨0, [], rfl, Nat.zero_le _, HS0.out⟩
  case round =>
    obtain ⟨k, O, rfl, hk, hst⟩ := hrel
    clear HS0
    obtain ⟨A7, c7, hv7⟩ := hst.xs.own.shape
    subst hv7
    have HSt := Lib.hid hst
    by_cases hlt : k < l.length
    · obtain ⟨g, o, hA, -, x0, x1, x2, x3, x4, x5, x6, x7, x8⟩ := row_lsa9b (HL.out.below hst.bel) k hlt
      have hok := HE.out l[k] (List.getElem_mem hlt)
      have hln := Hlens.out l[k] (List.getElem_mem hlt)
      have hkl : (k : Int) < (l.length : Int) := by omega
      have hno := cnt_no hlt hst.is
      have hyes := fun x => cnt_yes (x := x) hlt hst.is
      have hOl : O.length ≤ 2 ^ 20 := by
        have h1 := congrArg List.length hst.is
        have h2 := countsV_len ((l.take k).map vX)
        rw [List.length_map] at h1 h2
        rw [List.length_take] at h2
        omega
      have HA := Lib.hid hA
      rw [hA]
      have Hlt := Lib.hid hlt
      generalize l[k] = x at *
      obtain ⟨⟨y1, y2, y3, y4, y5, y6, y7⟩, ka, kc, ls, ma, mc, ms⟩ := x
      have hls := hok.1
      have hms := hok.2
      simp only at x0 x1 x2 x3 x4 x5 x6 x7 x8 hln hls hms
      change cntV (⟨y1, y2, y3, y4, y5, y6, y7⟩, ls, ms) = false ∨ hasV (O.map vX) ⟨y2, y3, y4⟩ = true → _ at hno
      change ∀ x, vX x = (⟨y1, y2, y3, y4, y5, y6, y7⟩, ls, ms) → cntV (⟨y1, y2, y3, y4, y5, y6, y7⟩, ls, ms) = true → hasV (O.map vX) ⟨y2, y3, y4⟩ = false → _ at hyes
      obtain ⟨nl, hnl⟩ : ∃ nl, nl = ls.length := ⟨_, rfl⟩
      obtain ⟨nm, hnm⟩ : ∃ nm, nm = ms.length := ⟨_, rfl⟩
      rw [← hnl] at x7
      rw [← hnm] at x8
      have hcs := cnt_split ⟨y1, y2, y3, y4, y5, y6, y7⟩ ka kc ls ma mc ms
      have Hnl := Lib.hid (show nl = ls.length ∧ ls.length ≤ 1000 from ⟨hnl, hln.1⟩)
      have Hnm := Lib.hid (show nm = ms.length ∧ ms.length ≤ 1000 from ⟨hnm, hln.2⟩)
      have Hno := Lib.hid hno
      have Hyes := Lib.hid hyes
      have HOl := Lib.hid hOl
      have HL9 := Lib.hid hls
      have HM9 := Lib.hid hms
      obtain ⟨w8, hw8⟩ : ∃ w8, wr.alloc (.cells #[.int .i64 y1, .int .i64 y2, .int .i64 y3, .int .i64 y4, .int .i64 y5, .int .i64 y6, .int .i64 y7, .slice ka nl kc, .slice ma nm mc] 31) = w8 := ⟨_, rfl⟩
      obtain ⟨g8, hg8⟩ : ∃ g8, wr.heap.size = g8 := ⟨_, rfl⟩
      have hk8 := Blk.new wr 31 #[.int .i64 y1, .int .i64 y2, .int .i64 y3, .int .i64 y4, .int .i64 y5, .int .i64 y6, .int .i64 y7, .slice ka nl kc, .slice ma nm mc]
      have hb8 := below_new wr (.cells #[.int .i64 y1, .int .i64 y2, .int .i64 y3, .int .i64 y4, .int .i64 y5, .int .i64 y6, .int .i64 y7, .slice ka nl kc, .slice ma nm mc] 31)
      rw [hw8, hg8] at hk8
      rw [hw8] at hb8
      have K8 := Lib.hid hk8
      have X8 := Lib.hid (hst.xs.keep hb8)
      have M8 := Lib.hid (hst.map.below hb8 hst.map.lt)
      have B8 := Lib.hid (below_trans hst.bel hst.bel.size hb8)
      have Hg8 := Lib.hid (show (Value.slice A7 O.length c7).ownBlock ≠ some g8 from fun e => by have := (hst.xs.own.block _ e).2; omega)
      have Hgb := Lib.hid (show g8 ≠ b from fun e => by have := hst.map.lt; omega)
      obtain ⟨z0, z1, z2, z3, z4, z5, z6, z7, z8, zf⟩ := blk9 hk8
      clear hnl hnm hA hlt hk8 hb8 hk hst hok hln hls hms hno hyes hOl
      go_wp2_with fail
      with_reducible refine Calls.mono (keyOf_any _ _ _ _ _ _ _ _) ?_
      rintro r wk ⟨rfl, hbk⟩
      obtain ⟨wa, hwa⟩ : ∃ wa, wk.alloc (.cells #[.int .i64 y2, .int .i64 y3, .int .i64 y4] 69) = wa := ⟨_, rfl⟩
      obtain ⟨g9, hg9⟩ : ∃ g9, wk.heap.size = g9 := ⟨_, rfl⟩
      have hk9 := Blk.new wk 69 #[.int .i64 y2, .int .i64 y3, .int .i64 y4]
      have hb9 := below_new wk (.cells #[.int .i64 y2, .int .i64 y3, .int .i64 y4] 69)
      rw [hwa, hg9] at hk9
      rw [hwa] at hb9
      have hbk9 := below_trans hbk hbk.size hb9
      have K9a := Lib.hid (K8.out.below hbk9 K8.out.lt)
      have Q9a := Lib.hid hk9
      have X9a := Lib.hid (X8.out.keep hbk9)
      have M9a := Lib.hid (M8.out.below hbk9 M8.out.lt)
      have B9a := Lib.hid (below_trans B8.out B8.out.size hbk9)
      have Hg9b := Lib.hid (show g9 ≠ b from fun e => by have := M8.out.lt; have := hbk.size; omega)
      clear hbk hk9 hb9 hbk9 z0 z1 z2 z3 z4 z5 z6 z7 z8 zf
      obtain ⟨z0, z1, z2, z3, z4, z5, z6, z7, z8, zf⟩ := blk9 K9a.out
      obtain ⟨q0, q1, q2⟩ : _ ∧ _ ∧ _ := ⟨Q9a.out.cell 0, Q9a.out.cell 1, Q9a.out.cell 2⟩
      simp only [List.getElem?_toArray, List.getElem?_cons_zero, List.getElem?_cons_succ] at q0 q1 q2
      have HR := Lib.hid (fun t ht => lsaRight_any y1 y2 y3 y4 y5 y6 y7 ka kc ls ma mc ms wa w.heap.size (HL9.out.below B9a.out) (HM9.out.below B9a.out) B9a.out.size (by have := Hnl.out.2; unfold maxLen; omega) (by have := Hnm.out.2; unfold maxLen; omega) nl nm Hnl.out.1 Hnm.out.1 (t := t) ht)
      rcases hcs with ⟨hr, hc⟩ | ⟨hr, hcs⟩
      · have HR2 := Lib.hid (HR.out false hr)
        have Hn := Lib.hid (Hno.out (.inl hc))
        clear hr hc
        go_wp2_with fail
        with_reducible refine Calls.mono HR2.out ?_
        rintro r w10 ⟨rfl, hb10⟩
        have HS := Lib.hid (show CntSt w w10 b l (k + 1) _ O from ⟨Hn.out, X9a.out.keep hb10, M9a.out.below hb10 M9a.out.lt, below_trans B9a.out B9a.out.size hb10⟩)
        clear hb10 z0 z1 z2 z3 z4 z5 z6 z7 z8 zf q0 q1 q2
        go_wp2
        go_roundw
        case measure => have := Hlt.out; simp [intOf]; omega
        case rel => exact ⟨k + 1, O, by go_num, Hlt.out, HS.out⟩
      · have HR2 := Lib.hid (HR.out true hr)
        have Hr2 := Lib.hid hr
        clear hr
        go_wp2_with fail
        with_reducible refine Calls.mono HR2.out ?_
        rintro r wc ⟨rfl, hb10⟩
        have Kc := Lib.hid (K9a.out.below hb10 K9a.out.lt)
        have Qc := Lib.hid (Q9a.out.below hb10 Q9a.out.lt)
        have Xc := Lib.hid (X9a.out.keep hb10)
        have Mc := Lib.hid (M9a.out.below hb10 M9a.out.lt)
        have Bc := Lib.hid (below_trans B9a.out B9a.out.size hb10)
        have HSk := Lib.hid (fun (h : cntV (⟨y1, y2, y3, y4, y5, y6, y7⟩, ls, ms) = false ∨ hasV (O.map vX) ⟨y2, y3, y4⟩ = true) => (show CntSt w wc b l (k + 1) _ O from ⟨Hno.out h, Xc.out, Mc.out, Bc.out⟩))
        have hlk := Mc.out.look_run keyK3 Tryz.underlying122 (zeroI20 _) ⟨y2, y3, y4⟩ false
        rw [seen_get] at hlk
        clear hb10 z0 z1 z2 z3 z4 z5 z6 z7 z8 zf q0 q1 q2
        obtain ⟨z0, z1, z2, z3, z4, z5, z6, z7, z8, zf⟩ := blk9 Kc.out
        obtain ⟨q0, q1, q2⟩ : _ ∧ _ ∧ _ := ⟨Qc.out.cell 0, Qc.out.cell 1, Qc.out.cell 2⟩
        simp only [List.getElem?_toArray, List.getElem?_cons_zero, List.getElem?_cons_succ] at q0 q1 q2
        have hor : (y1 = 60 ∧ cntV (⟨y1, y2, y3, y4, y5, y6, y7⟩, ls, ms) = false) ∨ (y1 ≠ 60 ∧ ((y2 = 2 ∧ ¬ y3 % 16 = y4 ∧ cntV (⟨y1, y2, y3, y4, y5, y6, y7⟩, ls, ms) = false) ∨ (¬ y2 = 2 ∧ cntV (⟨y1, y2, y3, y4, y5, y6, y7⟩, ls, ms) = true) ∨ (y2 = 2 ∧ y3 % 16 = y4 ∧ cntV (⟨y1, y2, y3, y4, y5, y6, y7⟩, ls, ms) = true))) := hcs
        clear hcs
        rcases hor with ⟨h60, hc⟩ | ⟨h60, ⟨h2, h3, hc⟩ | hor⟩
        · have HS := Lib.hid (HSk.out (.inl hc))
          subst h60
          clear hc hlk
          go_wp2
          go_roundw
          case measure => have := Hlt.out; simp [intOf]; omega
          case rel => exact ⟨k + 1, O, by go_num, Hlt.out, HS.out⟩
        · have HS := Lib.hid (HSk.out (.inl hc))
          have hid := right_id Hr2.out h2
          have hand := and15 y3 hid.1 hid.2
          subst h2
          clear hc hlk hid
          go_wp2
          go_roundw
          case measure => have := Hlt.out; simp [intOf]; omega
          case rel => exact ⟨k + 1, O, by go_num, Hlt.out, HS.out⟩
        · cases hhas : hasV (O.map vX) ⟨y2, y3, y4⟩ with
          | true =>
            rw [hhas] at hlk
            simp only [if_true, K3.enc, Option.getD, Bool.false_eq_true, if_false] at hlk
            have HS := Lib.hid (HSk.out (.inr hhas))
            rcases hor with ⟨h2, hc⟩ | ⟨h2, h3, hc⟩
            · clear hc hhas
              go_wp2
              go_roundw
              case measure => have := Hlt.out; simp [intOf]; omega
              case rel => exact ⟨k + 1, O, by go_num, Hlt.out, HS.out⟩
            · have hid := right_id Hr2.out h2
              have hand := and15 y3 hid.1 hid.2
              subst h2
              clear hc hhas hid
              go_wp2
              go_roundw
              case measure => have := Hlt.out; simp [intOf]; omega
              case rel => exact ⟨k + 1, O, by go_num, Hlt.out, HS.out⟩
          | false =>
            rw [hhas] at hlk
            simp only [K3.enc, Option.getD, Bool.false_eq_true, if_false] at hlk
            have hc : cntV (⟨y1, y2, y3, y4, y5, y6, y7⟩, ls, ms) = true := hor.elim (fun h => h.2) (fun h => h.2.2)
            have Hy := Lib.hid (fun x hx => Hyes.out x hx hc hhas)
            have Hhas := Lib.hid hhas
            clear hc hhas
            have hand : y2 = 2 → bits .and .i64 y3 15 = y4 := fun h2 => by
              have hid := right_id Hr2.out h2
              rw [and15 y3 hid.1 hid.2]
              exact hor.elim (fun h => absurd h2 h.1) (fun h => h.2.1)
            clear hor
            by_cases h2 : y2 = 2
            · subst h2
              have hand2 := hand rfl
              clear hand
              go_wp2_with (at_mapUpdate; (refine wpList_update_st _ (by rfl) _ _ _ 122 (by rfl) 69 3 keyK3 Tryz.underlying122 (by rfl) Mc.out ⟨2, y3, y4⟩ (by rfl) (.int .i64 1) (by rfl) ?_); intro w9 hm13 hg13 hs13; rw [seen_set _ _ Hhas.out] at hm13; have M9 := Lib.hid hm13; have K9 := Lib.hid (Kc.out.grown hg13 (fun e => Hgb.out (by injection e))); have X9 := Lib.hid (Xc.out.iter hg13 (Nat.lt_succ_self b)); have B9 := Lib.hid (Bc.out.grown hg13 Bc.out.size (fun m e => by injection e with e; rw [← e, Hb0.out]; exact Nat.le_refl _)); have HB9 := Lib.hid (show b < w9.heap.size from hm13.lt); clear hm13 hg13 hs13 z0 z1 z2 z3 z4 z5 z6 z7 z8 zf q0 q1 q2)
              refine wp_region_F (F := fun W => Below w.heap.size w W ∧ Blk W g8 31 #[.int .i64 y1, .int .i64 2, .int .i64 y3, .int .i64 y4, .int .i64 y5, .int .i64 y6, .int .i64 y7, .slice ka nl kc, .slice ma nm mc]) (n := 12) (m := 13) (s := #[false, false, false, false, false, false, false, false, false, false, false, false, false]) (by kernel_rfl) (by kernel_rfl) (by kernel_rfl) ?_
              intro wd hwd
              have hbd : Below w9.heap.size w9 wd := by rw [hwd.out]; exact (Below.refl _ _).drew
              have hF : Below w.heap.size w wd ∧ Blk wd g8 31 #[.int .i64 y1, .int .i64 2, .int .i64 y3, .int .i64 y4, .int .i64 y5, .int .i64 y6, .int .i64 y7, .slice ka nl kc, .slice ma nm mc] := ⟨below_trans B9.out B9.out.size hbd, K9.out.below hbd K9.out.lt⟩
              clear hwd
              refine F_take (i := 0) (d := some 48) (by kernel_rfl) (by kernel_rfl) (by decide) (s' := #[true, false, false, false, false, false, false, false, false, false, false, false, false]) (by kernel_rfl) rfl rfl (by kernel_rfl) (by kernel_rfl) (by kernel_rfl) (fun _ _ _ h => h) (Or.inl ⟨by kernel_rfl, fun W hW => by obtain ⟨x0, x1, x2, x3, x4, x5, x6, x7, x8, -⟩ := blk9 hW.2; go_simp; try with_reducible rfl⟩) hF ?_
              go_frame
              refine F_take (i := 1) (d := some 49) (by kernel_rfl) (by kernel_rfl) (by decide) (s' := #[true, true, false, false, false, false, false, false, false, false, false, false, false]) (by kernel_rfl) rfl rfl (by kernel_rfl) (by kernel_rfl) (by kernel_rfl) (fun _ _ _ h => h) (Or.inl ⟨by kernel_rfl, fun W hW => by obtain ⟨x0, x1, x2, x3, x4, x5, x6, x7, x8, -⟩ := blk9 hW.2; go_simp; try with_reducible rfl⟩) hF ?_
              go_frame
              refine F_take (i := 3) (d := some 51) (by kernel_rfl) (by kernel_rfl) (by decide) (s' := #[true, true, false, true, false, false, false, false, false, false, false, false, false]) (by kernel_rfl) rfl rfl (by kernel_rfl) (by kernel_rfl) (by kernel_rfl) (fun _ _ _ h => h) (Or.inl ⟨by kernel_rfl, fun W hW => by obtain ⟨x0, x1, x2, x3, x4, x5, x6, x7, x8, -⟩ := blk9 hW.2; go_simp; try with_reducible rfl⟩) hF ?_
              go_frame
              refine F_take (i := 6) (d := some 54) (by kernel_rfl) (by kernel_rfl) (by decide) (s' := #[true, true, false, true, false, false, true, false, false, false, false, false, false]) (by kernel_rfl) rfl rfl (by kernel_rfl) (by kernel_rfl) (by kernel_rfl) (fun _ _ _ h => h) (Or.inl ⟨by kernel_rfl, fun W hW => by obtain ⟨x0, x1, x2, x3, x4, x5, x6, x7, x8, -⟩ := blk9 hW.2; go_simp; try with_reducible rfl⟩) hF ?_
              go_frame
              refine F_take (i := 2) (d := some 50) (by kernel_rfl) (by kernel_rfl) (by decide) (s' := #[true, true, true, true, false, false, true, false, false, false, false, false, false]) (by kernel_rfl) rfl rfl (by kernel_rfl) (by kernel_rfl) (by kernel_rfl) (fun _ _ _ h => h) (Or.inl ⟨by kernel_rfl, fun W hW => by obtain ⟨x0, x1, x2, x3, x4, x5, x6, x7, x8, -⟩ := blk9 hW.2; go_simp; try with_reducible rfl⟩) hF ?_
              go_frame
              refine F_take (i := 4) (d := some 52) (by kernel_rfl) (by kernel_rfl) (by decide) (s' := #[true, true, true, true, true, false, true, false, false, false, false, false, false]) (by kernel_rfl) rfl rfl (by kernel_rfl) (by kernel_rfl) (by kernel_rfl) (fun _ _ _ h => h) (Or.inl ⟨by kernel_rfl, fun W hW => by obtain ⟨x0, x1, x2, x3, x4, x5, x6, x7, x8, -⟩ := blk9 hW.2; go_simp; try with_reducible rfl⟩) hF ?_
              go_frame
              refine F_take (i := 7) (d := some 55) (by kernel_rfl) (by kernel_rfl) (by decide) (s' := #[true, true, true, true, true, false, true, true, false, false, false, false, false]) (by kernel_rfl) rfl rfl (by kernel_rfl) (by kernel_rfl) (by kernel_rfl) (fun _ _ _ h => h) (Or.inl ⟨by kernel_rfl, fun W hW => by obtain ⟨x0, x1, x2, x3, x4, x5, x6, x7, x8, -⟩ := blk9 hW.2; go_simp; try with_reducible rfl⟩) hF ?_
              go_frame
              refine F_one (i := 5) (s' := #[true, true, true, true, true, true, true, true, false, false, false, false, false]) (by kernel_rfl) (by kernel_rfl) (wpOp_enterL (i := 5) (d := some 53) (f := 80) (args := #[.slice ka nl kc]) rfl rfl (by kernel_rfl) (by go_simp) ((cloneLnk ka kc ls wd w.heap.size (HL9.out.below hF.1) hF.1.size (by have := Hnl.out.2; omega) nl Hnl.out.1).mono ?_))
              rintro r v5w ⟨va, rfl, oA, hb5⟩
              obtain ⟨Aa, ca, rfl⟩ : ∃ A c, va = .slice A nl c := by obtain ⟨A, c, e⟩ := oA.shape; exact ⟨A, c, by rw [e, Hnl.out.1]⟩
              have oA := OwnR.lower oA hbd.size
              have hbd := below_trans hbd hbd.size hb5
              have hF : Below w.heap.size w v5w ∧ Blk v5w g8 31 #[.int .i64 y1, .int .i64 2, .int .i64 y3, .int .i64 y4, .int .i64 y5, .int .i64 y6, .int .i64 y7, .slice ka nl kc, .slice ma nm mc] := ⟨below_trans hF.1 hF.1.size hb5, hF.2.below hb5 hF.2.lt⟩
              refine ⟨_, rfl, fun _ => hF, ?_⟩
              go_frame
              clear hb5
              refine F_one (i := 8) (s' := #[true, true, true, true, true, true, true, true, true, false, false, false, false]) (by kernel_rfl) (by kernel_rfl) (wpOp_enterL (i := 8) (d := some 56) (f := 81) (args := #[.slice ma nm mc]) rfl rfl (by kernel_rfl) (by go_simp) ((cloneInt ma mc ms v5w w.heap.size (HM9.out.below hF.1) hF.1.size (by have := Hnm.out.2; omega) nm Hnm.out.1).mono ?_))
              rintro r v8w ⟨vb, rfl, oB, hb8⟩
              obtain ⟨Ab, cb, rfl⟩ : ∃ A c, vb = .slice A nm c := by obtain ⟨A, c, e⟩ := oB.shape; exact ⟨A, c, by rw [e, Hnm.out.1]⟩
              have oA := OwnR.below oA hb8
              have oB := OwnR.lower oB hbd.size
              have hbd := below_trans hbd hbd.size hb8
              have hF : Below w.heap.size w v8w ∧ Blk v8w g8 31 #[.int .i64 y1, .int .i64 2, .int .i64 y3, .int .i64 y4, .int .i64 y5, .int .i64 y6, .int .i64 y7, .slice ka nl kc, .slice ma nm mc] := ⟨below_trans hF.1 hF.1.size hb8, hF.2.below hb8 hF.2.lt⟩
              refine ⟨_, rfl, fun _ => hF, ?_⟩
              go_frame
              clear hb8
              refine F_take (i := 9) (d := some 57) (by kernel_rfl) (by kernel_rfl) (by decide) (s' := #[true, true, true, true, true, true, true, true, true, true, false, false, false]) (by kernel_rfl) rfl rfl (by kernel_rfl) (by kernel_rfl) (by kernel_rfl) (fun _ _ _ h => h) (Or.inl ⟨by kernel_rfl, fun W hW => by obtain ⟨x0, x1, x2, x3, x4, x5, x6, x7, x8, -⟩ := blk9 hW.2; go_simp; try with_reducible rfl⟩) hF ?_
              go_frame
              have HEl := seal_el (q := b) (h := ⟨y1, 2, y3, y4, y5, y6, y7⟩) X9.out.own HB9.out Hnl.out.1 Hnm.out.1 Hnl.out.2 Hnm.out.2 oA oB
              have X10 := X9.out.keep hbd
              have M10 := M9.out.below hbd M9.out.lt
              have B10 := hF.1
              clear oA oB
              have hbn := below_new v8w (.cells #[.int .i64 y1, .int .i64 2, .int .i64 y3, .int .i64 y4, .int .i64 y5, .int .i64 y6, .int .i64 y7, .slice Aa nl ca, .slice Ab nm cb] 31)
              have hFn : Below w.heap.size w (v8w.alloc (.cells #[.int .i64 y1, .int .i64 2, .int .i64 y3, .int .i64 y4, .int .i64 y5, .int .i64 y6, .int .i64 y7, .slice Aa nl ca, .slice Ab nm cb] 31)) ∧ Blk (v8w.alloc (.cells #[.int .i64 y1, .int .i64 2, .int .i64 y3, .int .i64 y4, .int .i64 y5, .int .i64 y6, .int .i64 y7, .slice Aa nl ca, .slice Ab nm cb] 31)) g8 31 #[.int .i64 y1, .int .i64 2, .int .i64 y3, .int .i64 y4, .int .i64 y5, .int .i64 y6, .int .i64 y7, .slice ka nl kc, .slice ma nm mc] := ⟨below_trans hF.1 hF.1.size hbn, hF.2.below hbn hF.2.lt⟩
              refine F_one (i := 10) (s' := #[true, true, true, true, true, true, true, true, true, true, true, false, false]) (by kernel_rfl) (by kernel_rfl) (wpOp_valueL (i := 10) (d := some 58) (w' := v8w.alloc (.cells #[.int .i64 y1, .int .i64 2, .int .i64 y3, .int .i64 y4, .int .i64 y5, .int .i64 y6, .int .i64 y7, .slice Aa nl ca, .slice Ab nm cb] 31)) (v := .slice (some ⟨v8w.heap.size, 0, none⟩) 1 1) rfl rfl (by kernel_rfl) (by go_simp) ⟨fun _ => hFn, ?_⟩)
              go_frame
              have hkn : Blk (v8w.alloc (.cells #[.int .i64 y1, .int .i64 2, .int .i64 y3, .int .i64 y4, .int .i64 y5, .int .i64 y6, .int .i64 y7, .slice Aa nl ca, .slice Ab nm cb] 31)) v8w.heap.size 31 (Lsa.cells ⟨⟨y1, 2, y3, y4, y5, y6, y7⟩, Aa, ca, ls, Ab, cb, ms⟩).toArray := by unfold Lsa.cells; simp only; rw [← Hnl.out.1, ← Hnm.out.1]; exact Blk.new _ _ _
              obtain ⟨v5, w5, hrun, hown5, hg5, hor5⟩ := app_row_run (e := 31) (sl := 22) Lsa.cells (fun _ => rfl) (by decide) (bytes := 104) (by decide) infoX rfl Tryz.underlying22 onesX 22 (b + 1) (.slice A7 O.length c7) O (X10.own.below hbn) v8w.heap.size ⟨⟨y1, 2, y3, y4, y5, y6, y7⟩, Aa, ca, ls, Ab, cb, ms⟩ hkn (by have := HOl.out; omega) (by have := M10.lt; simp; omega)
              have X11 := Lib.hid ((X10.keep hbn).app hown5 hg5 hor5 (HEl.1.keep hbn) HEl.2.1 HEl.2.2.1 HEl.2.2.2)
              have M11 := Lib.hid ((M10.below hbn M10.lt).grown hg5 (fun e => by have := (X10.own.block _ e.symm).1; omega))
              have B11 := Lib.hid (show Below w.heap.size w w5 from (below_trans B10 B10.size hbn).grown hg5 (Nat.le_trans B10.size hbn.size) (fun m e => by have := (X10.own.block m e).1; have := Hb0.out; omega))
              refine F_one (i := 11) (s' := #[true, true, true, true, true, true, true, true, true, true, true, true, false]) (by kernel_rfl) (by kernel_rfl) (wpOp_appendL (i := 11) (d := some 59) (t := 22) rfl rfl rfl (by kernel_rfl) rfl (by rfl) (by rfl) hrun ⟨fun _ => ⟨B11.out, hFn.2.grown hg5 (fun e => Hg8.out e.symm)⟩, ?_⟩)
              go_frame
              obtain ⟨A5, c5, hv5⟩ := hown5.shape
              subst hv5
              refine F_one (i := 12) (s' := #[true, true, true, true, true, true, true, true, true, true, true, true, true]) (by kernel_rfl) (by kernel_rfl) (wpOp_valueL (i := 12) (d := some 3) (w' := w5) (v := .slice A5 (O ++ [(⟨⟨y1, 2, y3, y4, y5, y6, y7⟩, Aa, ca, ls, Ab, cb, ms⟩ : Lsa)]).length c5) rfl rfl (by kernel_rfl) (by go_simp) ⟨fun h => absurd h (by decide), ?_⟩)
              go_frame
              refine F_done (by kernel_rfl) ?_ _
              clear hF hFn hkn hbn hrun hown5 hg5 hor5 X10 M10 B10 HEl hbd
              go_wp2
              go_roundw
              case measure => have := Hlt.out; simp [intOf]; omega
              case rel => exact ⟨k + 1, _, by go_num, Hlt.out, Hy.out _ rfl, X11.out, by have := M11.out; simpa [seenL, keyX, keyH] using this, B11.out⟩
            · clear hand
              go_wp2_with (at_mapUpdate; (refine wpList_update_st _ (by rfl) _ _ _ 122 (by rfl) 69 3 keyK3 Tryz.underlying122 (by rfl) Mc.out ⟨y2, y3, y4⟩ (by rfl) (.int .i64 1) (by rfl) ?_); intro w9 hm13 hg13 hs13; rw [seen_set _ _ Hhas.out] at hm13; have M9 := Lib.hid hm13; have K9 := Lib.hid (Kc.out.grown hg13 (fun e => Hgb.out (by injection e))); have X9 := Lib.hid (Xc.out.iter hg13 (Nat.lt_succ_self b)); have B9 := Lib.hid (Bc.out.grown hg13 Bc.out.size (fun m e => by injection e with e; rw [← e, Hb0.out]; exact Nat.le_refl _)); have HB9 := Lib.hid (show b < w9.heap.size from hm13.lt); clear hm13 hg13 hs13 z0 z1 z2 z3 z4 z5 z6 z7 z8 zf q0 q1 q2)
              refine wp_region_F (F := fun W => Below w.heap.size w W ∧ Blk W g8 31 #[.int .i64 y1, .int .i64 y2, .int .i64 y3, .int .i64 y4, .int .i64 y5, .int .i64 y6, .int .i64 y7, .slice ka nl kc, .slice ma nm mc]) (n := 12) (m := 13) (s := #[false, false, false, false, false, false, false, false, false, false, false, false, false]) (by kernel_rfl) (by kernel_rfl) (by kernel_rfl) ?_
              intro wd hwd
              have hbd : Below w9.heap.size w9 wd := by rw [hwd.out]; exact (Below.refl _ _).drew
              have hF : Below w.heap.size w wd ∧ Blk wd g8 31 #[.int .i64 y1, .int .i64 y2, .int .i64 y3, .int .i64 y4, .int .i64 y5, .int .i64 y6, .int .i64 y7, .slice ka nl kc, .slice ma nm mc] := ⟨below_trans B9.out B9.out.size hbd, K9.out.below hbd K9.out.lt⟩
              clear hwd
              refine F_take (i := 0) (d := some 48) (by kernel_rfl) (by kernel_rfl) (by decide) (s' := #[true, false, false, false, false, false, false, false, false, false, false, false, false]) (by kernel_rfl) rfl rfl (by kernel_rfl) (by kernel_rfl) (by kernel_rfl) (fun _ _ _ h => h) (Or.inl ⟨by kernel_rfl, fun W hW => by obtain ⟨x0, x1, x2, x3, x4, x5, x6, x7, x8, -⟩ := blk9 hW.2; go_simp; try with_reducible rfl⟩) hF ?_
              go_frame
              refine F_take (i := 1) (d := some 49) (by kernel_rfl) (by kernel_rfl) (by decide) (s' := #[true, true, false, false, false, false, false, false, false, false, false, false, false]) (by kernel_rfl) rfl rfl (by kernel_rfl) (by kernel_rfl) (by kernel_rfl) (fun _ _ _ h => h) (Or.inl ⟨by kernel_rfl, fun W hW => by obtain ⟨x0, x1, x2, x3, x4, x5, x6, x7, x8, -⟩ := blk9 hW.2; go_simp; try with_reducible rfl⟩) hF ?_
              go_frame
              refine F_take (i := 3) (d := some 51) (by kernel_rfl) (by kernel_rfl) (by decide) (s' := #[true, true, false, true, false, false, false, false, false, false, false, false, false]) (by kernel_rfl) rfl rfl (by kernel_rfl) (by kernel_rfl) (by kernel_rfl) (fun _ _ _ h => h) (Or.inl ⟨by kernel_rfl, fun W hW => by obtain ⟨x0, x1, x2, x3, x4, x5, x6, x7, x8, -⟩ := blk9 hW.2; go_simp; try with_reducible rfl⟩) hF ?_
              go_frame
              refine F_take (i := 6) (d := some 54) (by kernel_rfl) (by kernel_rfl) (by decide) (s' := #[true, true, false, true, false, false, true, false, false, false, false, false, false]) (by kernel_rfl) rfl rfl (by kernel_rfl) (by kernel_rfl) (by kernel_rfl) (fun _ _ _ h => h) (Or.inl ⟨by kernel_rfl, fun W hW => by obtain ⟨x0, x1, x2, x3, x4, x5, x6, x7, x8, -⟩ := blk9 hW.2; go_simp; try with_reducible rfl⟩) hF ?_
              go_frame
              refine F_take (i := 2) (d := some 50) (by kernel_rfl) (by kernel_rfl) (by decide) (s' := #[true, true, true, true, false, false, true, false, false, false, false, false, false]) (by kernel_rfl) rfl rfl (by kernel_rfl) (by kernel_rfl) (by kernel_rfl) (fun _ _ _ h => h) (Or.inl ⟨by kernel_rfl, fun W hW => by obtain ⟨x0, x1, x2, x3, x4, x5, x6, x7, x8, -⟩ := blk9 hW.2; go_simp; try with_reducible rfl⟩) hF ?_
              go_frame
              refine F_take (i := 4) (d := some 52) (by kernel_rfl) (by kernel_rfl) (by decide) (s' := #[true, true, true, true, true, false, true, false, false, false, false, false, false]) (by kernel_rfl) rfl rfl (by kernel_rfl) (by kernel_rfl) (by kernel_rfl) (fun _ _ _ h => h) (Or.inl ⟨by kernel_rfl, fun W hW => by obtain ⟨x0, x1, x2, x3, x4, x5, x6, x7, x8, -⟩ := blk9 hW.2; go_simp; try with_reducible rfl⟩) hF ?_
              go_frame
              refine F_take (i := 7) (d := some 55) (by kernel_rfl) (by kernel_rfl) (by decide) (s' := #[true, true, true, true, true, false, true, true, false, false, false, false, false]) (by kernel_rfl) rfl rfl (by kernel_rfl) (by kernel_rfl) (by kernel_rfl) (fun _ _ _ h => h) (Or.inl ⟨by kernel_rfl, fun W hW => by obtain ⟨x0, x1, x2, x3, x4, x5, x6, x7, x8, -⟩ := blk9 hW.2; go_simp; try with_reducible rfl⟩) hF ?_
              go_frame
              refine F_one (i := 5) (s' := #[true, true, true, true, true, true, true, true, false, false, false, false, false]) (by kernel_rfl) (by kernel_rfl) (wpOp_enterL (i := 5) (d := some 53) (f := 80) (args := #[.slice ka nl kc]) rfl rfl (by kernel_rfl) (by go_simp) ((cloneLnk ka kc ls wd w.heap.size (HL9.out.below hF.1) hF.1.size (by have := Hnl.out.2; omega) nl Hnl.out.1).mono ?_))
              rintro r v5w ⟨va, rfl, oA, hb5⟩
              obtain ⟨Aa, ca, rfl⟩ : ∃ A c, va = .slice A nl c := by obtain ⟨A, c, e⟩ := oA.shape; exact ⟨A, c, by rw [e, Hnl.out.1]⟩
              have oA := OwnR.lower oA hbd.size
              have hbd := below_trans hbd hbd.size hb5
              have hF : Below w.heap.size w v5w ∧ Blk v5w g8 31 #[.int .i64 y1, .int .i64 y2, .int .i64 y3, .int .i64 y4, .int .i64 y5, .int .i64 y6, .int .i64 y7, .slice ka nl kc, .slice ma nm mc] := ⟨below_trans hF.1 hF.1.size hb5, hF.2.below hb5 hF.2.lt⟩
              refine ⟨_, rfl, fun _ => hF, ?_⟩
              go_frame
              clear hb5
              refine F_one (i := 8) (s' := #[true, true, true, true, true, true, true, true, true, false, false, false, false]) (by kernel_rfl) (by kernel_rfl) (wpOp_enterL (i := 8) (d := some 56) (f := 81) (args := #[.slice ma nm mc]) rfl rfl (by kernel_rfl) (by go_simp) ((cloneInt ma mc ms v5w w.heap.size (HM9.out.below hF.1) hF.1.size (by have := Hnm.out.2; omega) nm Hnm.out.1).mono ?_))
              rintro r v8w ⟨vb, rfl, oB, hb8⟩
              obtain ⟨Ab, cb, rfl⟩ : ∃ A c, vb = .slice A nm c := by obtain ⟨A, c, e⟩ := oB.shape; exact ⟨A, c, by rw [e, Hnm.out.1]⟩
              have oA := OwnR.below oA hb8
              have oB := OwnR.lower oB hbd.size
              have hbd := below_trans hbd hbd.size hb8
              have hF : Below w.heap.size w v8w ∧ Blk v8w g8 31 #[.int .i64 y1, .int .i64 y2, .int .i64 y3, .int .i64 y4, .int .i64 y5, .int .i64 y6, .int .i64 y7, .slice ka nl kc, .slice ma nm mc] := ⟨below_trans hF.1 hF.1.size hb8, hF.2.below hb8 hF.2.lt⟩
              refine ⟨_, rfl, fun _ => hF, ?_⟩
              go_frame
              clear hb8
              refine F_take (i := 9) (d := some 57) (by kernel_rfl) (by kernel_rfl) (by decide) (s' := #[true, true, true, true, true, true, true, true, true, true, false, false, false]) (by kernel_rfl) rfl rfl (by kernel_rfl) (by kernel_rfl) (by kernel_rfl) (fun _ _ _ h => h) (Or.inl ⟨by kernel_rfl, fun W hW => by obtain ⟨x0, x1, x2, x3, x4, x5, x6, x7, x8, -⟩ := blk9 hW.2; go_simp; try with_reducible rfl⟩) hF ?_
              go_frame
              have HEl := seal_el (q := b) (h := ⟨y1, y2, y3, y4, y5, y6, y7⟩) X9.out.own HB9.out Hnl.out.1 Hnm.out.1 Hnl.out.2 Hnm.out.2 oA oB
              have X10 := X9.out.keep hbd
              have M10 := M9.out.below hbd M9.out.lt
              have B10 := hF.1
              clear oA oB
              have hbn := below_new v8w (.cells #[.int .i64 y1, .int .i64 y2, .int .i64 y3, .int .i64 y4, .int .i64 y5, .int .i64 y6, .int .i64 y7, .slice Aa nl ca, .slice Ab nm cb] 31)
              have hFn : Below w.heap.size w (v8w.alloc (.cells #[.int .i64 y1, .int .i64 y2, .int .i64 y3, .int .i64 y4, .int .i64 y5, .int .i64 y6, .int .i64 y7, .slice Aa nl ca, .slice Ab nm cb] 31)) ∧ Blk (v8w.alloc (.cells #[.int .i64 y1, .int .i64 y2, .int .i64 y3, .int .i64 y4, .int .i64 y5, .int .i64 y6, .int .i64 y7, .slice Aa nl ca, .slice Ab nm cb] 31)) g8 31 #[.int .i64 y1, .int .i64 y2, .int .i64 y3, .int .i64 y4, .int .i64 y5, .int .i64 y6, .int .i64 y7, .slice ka nl kc, .slice ma nm mc] := ⟨below_trans hF.1 hF.1.size hbn, hF.2.below hbn hF.2.lt⟩
              refine F_one (i := 10) (s' := #[true, true, true, true, true, true, true, true, true, true, true, false, false]) (by kernel_rfl) (by kernel_rfl) (wpOp_valueL (i := 10) (d := some 58) (w' := v8w.alloc (.cells #[.int .i64 y1, .int .i64 y2, .int .i64 y3, .int .i64 y4, .int .i64 y5, .int .i64 y6, .int .i64 y7, .slice Aa nl ca, .slice Ab nm cb] 31)) (v := .slice (some ⟨v8w.heap.size, 0, none⟩) 1 1) rfl rfl (by kernel_rfl) (by go_simp) ⟨fun _ => hFn, ?_⟩)
              go_frame
              have hkn : Blk (v8w.alloc (.cells #[.int .i64 y1, .int .i64 y2, .int .i64 y3, .int .i64 y4, .int .i64 y5, .int .i64 y6, .int .i64 y7, .slice Aa nl ca, .slice Ab nm cb] 31)) v8w.heap.size 31 (Lsa.cells ⟨⟨y1, y2, y3, y4, y5, y6, y7⟩, Aa, ca, ls, Ab, cb, ms⟩).toArray := by unfold Lsa.cells; simp only; rw [← Hnl.out.1, ← Hnm.out.1]; exact Blk.new _ _ _
              obtain ⟨v5, w5, hrun, hown5, hg5, hor5⟩ := app_row_run (e := 31) (sl := 22) Lsa.cells (fun _ => rfl) (by decide) (bytes := 104) (by decide) infoX rfl Tryz.underlying22 onesX 22 (b + 1) (.slice A7 O.length c7) O (X10.own.below hbn) v8w.heap.size ⟨⟨y1, y2, y3, y4, y5, y6, y7⟩, Aa, ca, ls, Ab, cb, ms⟩ hkn (by have := HOl.out; omega) (by have := M10.lt; simp; omega)
              have X11 := Lib.hid ((X10.keep hbn).app hown5 hg5 hor5 (HEl.1.keep hbn) HEl.2.1 HEl.2.2.1 HEl.2.2.2)
              have M11 := Lib.hid ((M10.below hbn M10.lt).grown hg5 (fun e => by have := (X10.own.block _ e.symm).1; omega))
              have B11 := Lib.hid (show Below w.heap.size w w5 from (below_trans B10 B10.size hbn).grown hg5 (Nat.le_trans B10.size hbn.size) (fun m e => by have := (X10.own.block m e).1; have := Hb0.out; omega))
              refine F_one (i := 11) (s' := #[true, true, true, true, true, true, true, true, true, true, true, true, false]) (by kernel_rfl) (by kernel_rfl) (wpOp_appendL (i := 11) (d := some 59) (t := 22) rfl rfl rfl (by kernel_rfl) rfl (by rfl) (by rfl) hrun ⟨fun _ => ⟨B11.out, hFn.2.grown hg5 (fun e => Hg8.out e.symm)⟩, ?_⟩)
              go_frame
              obtain ⟨A5, c5, hv5⟩ := hown5.shape
              subst hv5
              refine F_one (i := 12) (s' := #[true, true, true, true, true, true, true, true, true, true, true, true, true]) (by kernel_rfl) (by kernel_rfl) (wpOp_valueL (i := 12) (d := some 3) (w' := w5) (v := .slice A5 (O ++ [(⟨⟨y1, y2, y3, y4, y5, y6, y7⟩, Aa, ca, ls, Ab, cb, ms⟩ : Lsa)]).length c5) rfl rfl (by kernel_rfl) (by go_simp) ⟨fun h => absurd h (by decide), ?_⟩)
              go_frame
              refine F_done (by kernel_rfl) ?_ _
              clear hF hFn hkn hbn hrun hown5 hg5 hor5 X10 M10 B10 HEl hbd
              go_wp2
              go_roundw
              case measure => have := Hlt.out; simp [intOf]; omega
              case rel => exact ⟨k + 1, _, by go_num, Hlt.out, Hy.out _ rfl, X11.out, by have := M11.out; simpa [seenL, keyX, keyH] using this, B11.out⟩
    · have hkk : k = l.length := by omega
      subst hkk
      have hkl : ¬ (l.length : Int) < (l.length : Int) := by omega
      have hi := hst.is
      rw [List.take_length] at hi
      have Hi := Lib.hid hi
      clear hlt hst hi hk
      go_wp2
      go_ret
      exact ⟨⟨_, rfl, O, HSt.out.xs.lower (by have := Hb0.out; omega), Hi.out⟩, by have := HSt.out.bel; rw [Hb0.out] at this; exact this⟩

end Go.Proofs.YtpnbibokddhheaaGreat

/-
  Layer 20: pairs of vertices, hops and numbers as keys of maps.
-/
namespace Go.Proofs.YtpnbibokddhheaaGreat
open Go.RowKit

structure P4 where
  fk : Int
  fi : Int
  tk : Int
  ti : Int
deriving DecidableEq
def P4.cells (k : P4) : List Value := [.int .i64 k.fk, .int .i64 k.fi, .int .i64 k.tk, .int .i64 k.ti]
def P4.enc (k : P4) : Value := .agg #[.int .i64 k.fk, .int .i64 k.fi, .int .i64 k.tk, .int .i64 k.ti]
theorem eqP4_n (n : Nat) (a b c d a' b' c' d' : Int) (w : World) : (Op.equalIn (n + 1 + 1 + 1) 155 (.agg #[.int .i64 a, .int .i64 b, .int .i64 c, .int .i64 d]) (.agg #[.int .i64 a', .int .i64 b', .int .i64 c', .int .i64 d'])).run Tryz.prog w = .ok (a == a' && b == b' && c == c' && d == d') w := by
  have hS : Tryz.prog.underlying 155 = some (.struct (Tryz.prog.fieldsOf 155)) := by kernel_rfl
  have hp : Tryz.prog.stoodInHeld 155 = false := by kernel_rfl
  rw [run_equalIn_struct w (n + 1 + 1) 155 _ _ hS hp]
  simp only [Program.fieldsOf, Tryz.underlying155]
  have hv := eqV2_n n
  go_simp
  by_cases h1 : a = a' <;> by_cases h2 : b = b' <;> by_cases h3 : c = c' <;> by_cases h4 : d = d' <;> simp [h1, h2, h3, h4]
theorem eqP4 (a b : P4) (w : World) : (Op.equal 155 a.enc b.enc).run Tryz.prog w = .ok (decide (a = b)) w := by
  obtain ⟨a1, a2, a3, a4⟩ := a
  obtain ⟨b1, b2, b3, b4⟩ := b
  refine (eqP4_n 9997 a1 a2 a3 a4 b1 b2 b3 b4 w).trans ?_
  by_cases h1 : a1 = b1 <;> by_cases h2 : a2 = b2 <;> by_cases h3 : a3 = b3 <;> by_cases h4 : a4 = b4 <;> simp [h1, h2, h3, h4]
theorem checkP4_n (n : Nat) (e : Bool) (a b c d : Int) (w : World) : (Instr.checkKey e (n + 1 + 1 + 1) 155 (.agg #[.int .i64 a, .int .i64 b, .int .i64 c, .int .i64 d])).run Tryz.prog w = .ok () w := by
  have hc : ∀ x y w, (Instr.checkKey e (n + 1 + 1) 39 (.agg #[.int .i64 x, .int .i64 y])).run Tryz.prog w = .ok () w := fun x y w => checkV2_n n e x y w
  rw [Instr.checkKey]
  simp only [Sem.run_bind, run_underlying Tryz.underlying155, Result.andThen_ok]
  rw [← Array.forIn_toList]
  go_simp
theorem sameP4 (k : P4) : Instr.sameBits 10000 k.enc k.enc = true := by
  rw [show (10000 : Nat) = 9999 + 1 from rfl, P4.enc, Instr.sameBits]
  simp only [beq_self_eq_true, Bool.true_and]
  exact sameBits_agg _ _ fun v hv => by
    simp at hv
    rcases hv with rfl | rfl | rfl | rfl <;> exact sameBits_int _ _
theorem P4.enc_inj (a b : P4) (h : a.enc = b.enc) : a = b := by
  obtain ⟨a1, a2, a3, a4⟩ := a
  obtain ⟨b1, b2, b3, b4⟩ := b
  simp [P4.enc] at h
  simp [h]
theorem keyP4 : KeyOk Tryz.prog 155 P4.enc := KeyOk.of_struct Tryz.underlying155 eqP4 (fun e _k w => checkP4_n 9997 e _ _ _ _ w) sameP4 P4.enc_inj
end Go.Proofs.YtpnbibokddhheaaGreat
