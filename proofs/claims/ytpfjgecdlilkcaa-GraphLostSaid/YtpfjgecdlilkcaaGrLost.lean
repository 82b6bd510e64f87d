/-
  Layer 20 in plain words: a network's description without a member.
-/
import Derived.Test.YtpfjgecdlilkcaaGrOrder
namespace Go.Proofs.Ytpfjgecdlilkcaa
open Go.RowKit Go.Sort

/-- a description with a member less -/
def lessV (v : VX) (i : Nat) : VX := (v.1, v.2.1, v.2.2.eraseIdx i)
theorem memC_mono : ∀ {l : List Int} {a b : Int}, a ≤ b → memC b l = true → memC a l = true
  | [], _, _, _, _ => rfl
  | x :: l, a, b, h, hc => by
    rw [memC, Bool.and_eq_true, inB_iff] at hc ⊢
    exact ⟨by omega, hc.2⟩
theorem memC_erase : ∀ {l : List Int} {last : Int} (i : Nat), memC last l = true → memC last (l.eraseIdx i) = true
  | [], _, _, _ => rfl
  | x :: l, last, 0, h => by
    rw [memC, Bool.and_eq_true, inB_iff] at h
    exact memC_mono (by omega) h.2
  | x :: l, last, i + 1, h => by
    rw [memC, Bool.and_eq_true] at h
    rw [List.eraseIdx_cons_succ, memC, Bool.and_eq_true]
    exact ⟨h.1, memC_erase i h.2⟩
theorem memC_lost : ∀ {l : List Int} {last : Int} (i : Nat) (hi : i < l.length), memC last l = true → ∀ r, r ∈ l.eraseIdx i ↔ r ∈ l ∧ r ≠ l[i]
  | [], _, _, hi, _, _ => absurd hi (by simp)
  | x :: l, last, 0, hi, h, r => by
    rw [memC, Bool.and_eq_true] at h
    simp only [List.eraseIdx_cons_zero, List.getElem_cons_zero, List.mem_cons]
    constructor
    · intro hr
      have := memC_range h.2 r hr
      exact ⟨.inr hr, by omega⟩
    · rintro ⟨h1 | h1, h2⟩
      · exact absurd h1 h2
      · exact h1
  | x :: l, last, i + 1, hi, h, r => by
    rw [memC, Bool.and_eq_true] at h
    have hi' : i < l.length := by simpa using hi
    simp only [List.eraseIdx_cons_succ, List.getElem_cons_succ, List.mem_cons]
    rw [memC_lost i hi' h.2 r]
    have hx := memC_range h.2 l[i] (List.getElem_mem hi')
    constructor
    · rintro (h1 | ⟨h1, h2⟩)
      · exact ⟨.inl h1, by omega⟩
      · exact ⟨.inr h1, h2⟩
    · rintro ⟨h1 | h1, h2⟩
      · exact .inl h1
      · exact .inr ⟨h1, h2⟩
theorem less_right {v : VX} (hk : v.1.kind = 2) (h2 : 2 ≤ v.2.2.length) (i : Nat) (hr : rightB (xV v) = true) : rightB (xV (lessV v i)) = true := by
  unfold rightB xV lessV at *
  simp only [Bool.and_eq_true] at hr ⊢
  refine ⟨hr.1, ?_⟩
  have h1 := hr.2
  rw [if_neg (by omega)] at h1 ⊢
  simp only [Bool.and_eq_true] at h1 ⊢
  refine ⟨h1.1, ?_⟩
  have h3 := h1.2
  unfold membersB at h3 ⊢
  simp only [Bool.and_eq_true, decide_eq_true_eq] at h3 ⊢
  refine ⟨memC_erase i h3.1, ?_⟩
  rw [List.length_eraseIdx]
  split <;> omega
theorem less_cnt {v : VX} (hk : v.1.kind = 2) (h2 : 2 ≤ v.2.2.length) (i : Nat) (hr : rightB (xV v) = true) : cntV (lessV v i) = cntV v := by
  unfold cntV
  rw [less_right hk h2 i hr, hr]
  rfl
theorem hasV_swap (A T : List VX) {x y : VX} (h : keyV x = keyV y) (k : K3) : hasV (A ++ x :: T) k = hasV (A ++ y :: T) k := by
  unfold hasV
  simp [List.any_append, h]
theorem foldl_swap (A : List VX) {x y : VX} (h : keyV x = keyV y) : ∀ (S T : List VX), ∃ T', S.foldl addV (A ++ x :: T) = A ++ x :: T' ∧ S.foldl addV (A ++ y :: T) = A ++ y :: T'
  | [], T => ⟨T, rfl, rfl⟩
  | v :: S, T => by
    rw [List.foldl_cons, List.foldl_cons]
    by_cases hc : cntV v = true ∧ hasV (A ++ x :: T) (keyV v) = false
    · have hc' := hc
      rw [hasV_swap A T h] at hc'
      have e1 : addV (A ++ x :: T) v = A ++ x :: (T ++ [v]) := by unfold addV; rw [if_pos hc]; simp
      have e2 : addV (A ++ y :: T) v = A ++ y :: (T ++ [v]) := by unfold addV; rw [if_pos hc']; simp
      rw [e1, e2]
      exact foldl_swap A h S _
    · have hc' := hc
      rw [hasV_swap A T h] at hc'
      have e1 : addV (A ++ x :: T) v = A ++ x :: T := by unfold addV; rw [if_neg hc]
      have e2 : addV (A ++ y :: T) v = A ++ y :: T := by unfold addV; rw [if_neg hc']
      rw [e1, e2]
      exact foldl_swap A h S _
/-- it is counted in its place, or not at all -/
theorem counts_swap (P S : List VX) {x y : VX} (h : keyV x = keyV y) (hc : cntV y = cntV x) :
    ((cntV x = false ∨ hasV (countsV P) (keyV x) = true) → countsV (P ++ y :: S) = countsV (P ++ x :: S)) ∧
    ((cntV x = true ∧ hasV (countsV P) (keyV x) = false) → ∃ T, countsV (P ++ x :: S) = countsV P ++ x :: T ∧ countsV (P ++ y :: S) = countsV P ++ y :: T) := by
  have e : ∀ z, countsV (P ++ z :: S) = S.foldl addV (addV (countsV P) z) := fun z => by unfold countsV; rw [List.foldl_append, List.foldl_cons]
  rw [e, e]
  constructor
  · intro hn
    have e1 : addV (countsV P) x = countsV P := by
      unfold addV
      rw [if_neg]
      rintro ⟨h1, h2⟩
      rcases hn with g | g
      · rw [g] at h1; cases h1
      · rw [g] at h2; cases h2
    have e2 : addV (countsV P) y = countsV P := by
      unfold addV
      rw [if_neg]
      rintro ⟨h1, h2⟩
      rw [hc] at h1
      rw [← h] at h2
      rcases hn with g | g
      · rw [g] at h1; cases h1
      · rw [g] at h2; cases h2
    rw [e1, e2]
  · intro hy
    have e1 : addV (countsV P) x = countsV P ++ x :: [] := by unfold addV; rw [if_pos hy]
    have e2 : addV (countsV P) y = countsV P ++ y :: [] := by unfold addV; rw [if_pos (by rw [hc, ← h]; exact hy)]
    rw [e1, e2]
    exact foldl_swap _ h S []
theorem cost_none {C : List VX} (h : CntOk C) {r n : Int} : costC C r n = none ↔ ∀ c, ¬ CandP C r n c := by
  unfold costC
  rw [bestL_none]
  constructor
  · intro e c hc
    have := (mem_cand h).2 hc
    rw [e] at this
    cases this
  · intro hn
    rw [List.eq_nil_iff_forall_not_mem]
    exact fun c hc => hn c ((mem_cand h).1 hc)
theorem cost_less {A T : List VX} {x : VX} {i : Nat} (hi : i < x.2.2.length) (h2 : x.1.kind = 2) (h : CntOk (A ++ x :: T)) (h' : CntOk (A ++ lessV x i :: T)) (r n : Int) :
    costC (A ++ lessV x i :: T) r n = if n = x.1.id ∧ r = x.2.2[i] then none else costC (A ++ x :: T) r n := by
  have hxm : x ∈ A ++ x :: T := by simp
  have hxm' : lessV x i ∈ A ++ lessV x i :: T := by simp
  obtain ⟨-, -, hxc⟩ := cnt_cases (h.each x hxm)
  have hx2 : x.2.1 = [] ∧ membersB x.2.2 = true := by
    rcases hxc with ⟨g, -⟩ | ⟨-, -, -, g1, g2⟩
    · omega
    · exact ⟨g1, g2⟩
  have hmc : memC 0 x.2.2 = true := by
    have := hx2.2
    unfold membersB at this
    rw [Bool.and_eq_true] at this
    exact this.1
  have hlost := memC_lost i hi hmc
  have hnet : ∀ m, isNet m (lessV x i) = isNet m x := fun m => rfl
  have hin : ∀ z, z ∈ A ++ lessV x i :: T → z = lessV x i ∨ z ∈ A ++ x :: T := fun z hz => by
    simp only [List.mem_append, List.mem_cons] at hz ⊢
    rcases hz with g | g | g
    · exact .inr (.inl g)
    · exact .inl g
    · exact .inr (.inr (.inr g))
  have hin' : ∀ z, z ∈ A ++ x :: T → z = x ∨ z ∈ A ++ lessV x i :: T := fun z hz => by
    simp only [List.mem_append, List.mem_cons] at hz ⊢
    rcases hz with g | g | g
    · exact .inr (.inl g)
    · exact .inl g
    · exact .inr (.inr (.inr g))
  split
  · rename_i hc
    rw [cost_none h']
    rintro c ⟨x1, hx1, z, hz, y, hy, e1, e2, e3, e4, hn, hr⟩
    have hnx : isNet n (lessV x i) = true := by
      rw [hnet]
      unfold isNet
      simp [h2, hc.1]
    have := net_one h' hz hxm' hn hnx
    subst this
    exact ((hlost r).1 hr).2 hc.2
  · rename_i hc
    refine cost_ext h' h fun c => ?_
    constructor
    · rintro ⟨x1, hx1, z, hz, y, hy, e1, e2, e3, e4, hn, hr⟩
      have hx1' : x1 ∈ A ++ x :: T := by
        rcases hin x1 hx1 with g | g
        · rw [g] at hy
          have : y ∈ x.2.1 := hy
          rw [hx2.1] at this
          cases this
        · exact g
      rcases hin z hz with g | g
      · rw [g] at hn hr
        exact ⟨x1, hx1', x, hxm, y, hy, e1, e2, e3, e4, hn, ((hlost r).1 hr).1⟩
      · exact ⟨x1, hx1', z, g, y, hy, e1, e2, e3, e4, hn, hr⟩
    · rintro ⟨x1, hx1, z, hz, y, hy, e1, e2, e3, e4, hn, hr⟩
      have hx1' : x1 ∈ A ++ lessV x i :: T := by
        rcases hin' x1 hx1 with g | g
        · rw [g, hx2.1] at hy
          cases hy
        · exact g
      rcases hin' z hz with g | g
      · rw [g] at hn hr
        refine ⟨x1, hx1', lessV x i, hxm', y, hy, e1, e2, e3, e4, hn, (hlost r).2 ⟨hr, fun e => hc ⟨?_, e⟩⟩⟩
        unfold isNet at hn
        simp only [Bool.and_eq_true, decide_eq_true_eq] at hn
        exact hn.2.symm
      · exact ⟨x1, hx1', z, g, y, hy, e1, e2, e3, e4, hn, hr⟩
/-- it isn't between these two -/
def offE (lost id : Int) (e : Ed) : Bool := if e.fk = 2 then !(decide (e.ti = lost) && decide (e.fi = id)) else !(decide (e.fi = lost) && decide (e.ti = id))
theorem edges_off {f g : Int → Int → Option Int} {lost id : Int} (h : ∀ r n, g r n = if n = id ∧ r = lost then none else f r n) : edgesC g = (edgesC f).filter (offE lost id) := by
  refine sorted_ext ltE_irr ltE_asy (edgesC_sorted g) ((edgesC_sorted f).filter _) fun e => ?_
  rw [List.mem_filter, mem_edges, mem_edges]
  constructor
  · rintro ⟨r, n, c, hr, hn, hc, he⟩
    rw [h] at hc
    split at hc
    · cases hc
    · rename_i hno
      refine ⟨⟨r, n, c, hr, hn, hc, he⟩, ?_⟩
      unfold offE
      rcases he with rfl | rfl
      · rw [if_neg (show ¬ (1 : Int) = 2 by decide)]
        simp only [Bool.not_eq_true', Bool.and_eq_false_iff, decide_eq_false_iff_not]
        by_cases e1 : r = lost
        · exact .inr (fun e2 => hno ⟨e2, e1⟩)
        · exact .inl e1
      · rw [if_pos rfl]
        simp only [Bool.not_eq_true', Bool.and_eq_false_iff, decide_eq_false_iff_not]
        by_cases e1 : r = lost
        · exact .inr (fun e2 => hno ⟨e2, e1⟩)
        · exact .inl e1
  · rintro ⟨⟨r, n, c, hr, hn, hc, he⟩, ho⟩
    have hno : ¬ (n = id ∧ r = lost) := by
      rintro ⟨rfl, rfl⟩
      unfold offE at ho
      rcases he with rfl | rfl
      · rw [if_neg (show ¬ (1 : Int) = 2 by decide)] at ho
        simp at ho
      · rw [if_pos rfl] at ho
        simp at ho
    exact ⟨r, n, c, hr, hn, by rw [h, if_neg hno]; exact hc, he⟩
theorem lost_edges (P S : List VX) {x : VX} {i : Nat} (hi : i < x.2.2.length) (h2 : 2 ≤ x.2.2.length) (hk : x.1.kind = 2) (hr : rightB (xV x) = true) :
    ((cntV x = false ∨ hasV (countsV P) (keyV x) = true) → edgesV (P ++ lessV x i :: S) = edgesV (P ++ x :: S)) ∧
    ((cntV x = true ∧ hasV (countsV P) (keyV x) = false) → edgesV (P ++ lessV x i :: S) = (edgesV (P ++ x :: S)).filter (offE x.2.2[i] x.1.id)) := by
  have hs := counts_swap P S (x := x) (y := lessV x i) rfl (less_cnt hk h2 i hr)
  unfold edgesV
  constructor
  · intro h
    rw [hs.1 h]
  · intro h
    obtain ⟨T, e1, e2⟩ := hs.2 h
    have o1 := countsV_ok (P ++ x :: S)
    have o2 := countsV_ok (P ++ lessV x i :: S)
    rw [e1] at o1
    rw [e2] at o2
    rw [e1, e2]
    exact edges_off (fun r n => cost_less hi hk o1 o2 r n)
theorem counts_one (x : VX) : (countsV [x]).length = 0 ↔ cntV x = false := by
  unfold countsV addV
  simp only [List.foldl_cons, List.foldl_nil, List.nil_append]
  cases h : cntV x
  · simp
  · simp [hasV]

end Go.Proofs.Ytpfjgecdlilkcaa
