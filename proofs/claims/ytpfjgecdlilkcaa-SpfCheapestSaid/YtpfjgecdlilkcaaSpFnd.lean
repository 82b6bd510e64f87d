/-
  Layer 21: the search's state: what is found of each vertex, in places of the call's own; the edges by vertex.
-/
import Derived.Test.YtpfjgecdlilkcaaSpA
import Derived.Test.YtpfjgecdlilkcaaSpFlt
import Derived.Test.YtpfjgecdlilkcaaStMap
namespace Go.Proofs.Ytpfjgecdlilkcaa
open Go.RowKit

/-- what is found of a vertex: where its place lies, what is there -/
structure PlW where
  p : Nat
  A : Option Addr
  c : Nat
  pl : Pl
  done : Bool
abbrev Fnd := List (Vx × PlW)
def PlW.nv (x : PlW) : Value := .slice x.A x.pl.next.length x.c
def PlW.val (x : PlW) : Value := .pointer (some ⟨x.p, 0, none⟩)
def PlW.cells (x : PlW) : Array Value := #[.complex .f64 (flt x.pl.a.c) (flt x.pl.a.h), .slice x.A x.pl.next.length x.c, .bool x.done]
def valsF (F : Fnd) : List (Vx × Value) := F.map fun e => (e.1, e.2.val)
def getF (v : Vx) : Fnd → Option PlW
  | [] => none
  | e :: F => if e.1 = v then some e.2 else getF v F
def setF (v : Vx) (x : PlW) : Fnd → Fnd
  | [] => [(v, x)]
  | e :: F => if e.1 = v then (v, x) :: F else e :: setF v x F
def tabF (F : Fnd) : Tab := fun v => (getF v F).map (·.pl)
theorem getL_vals (v : Vx) : ∀ F : Fnd, getL v (valsF F) = (getF v F).map (·.val)
  | [] => rfl
  | e :: F => by
    have ih := getL_vals v F
    simp only [valsF, List.map_cons] at ih ⊢
    unfold getL getF
    by_cases h : e.1 = v
    · rw [if_pos h, if_pos h]; rfl
    · rw [if_neg h, if_neg h]; exact ih
theorem setL_vals (v : Vx) (x : PlW) : ∀ F : Fnd, setL v x.val (valsF F) = valsF (setF v x F)
  | [] => rfl
  | e :: F => by
    have ih := setL_vals v x F
    simp only [valsF, List.map_cons] at ih ⊢
    unfold setL setF
    by_cases h : e.1 = v
    · rw [if_pos h, if_pos h]; rfl
    · rw [if_neg h, if_neg h, ih]; rfl
theorem getF_set (u v : Vx) (x : PlW) : ∀ F : Fnd, getF u (setF v x F) = if u = v then some x else getF u F
  | [] => by
    unfold setF getF
    by_cases h : u = v
    · simp [h]
    · simp [h, Ne.symm h, getF]
  | e :: F => by
    have ih := getF_set u v x F
    unfold setF
    by_cases h1 : e.1 = v
    · rw [if_pos h1]
      by_cases h2 : u = v
      · simp [getF, h2]
      · have h3 : ¬ e.1 = u := fun e' => h2 (by rw [← e', h1])
        have h4 : ¬ v = u := fun e' => h2 e'.symm
        simp [getF, h2, h3, h4]
    · rw [if_neg h1]
      unfold getF
      by_cases h2 : e.1 = u
      · have h3 : ¬ u = v := fun e' => h1 (by rw [h2, e'])
        simp [h2, h3]
      · simp [h2, ih]
theorem getF_mem {v : Vx} {x : PlW} : ∀ {F : Fnd}, getF v F = some x → (v, x) ∈ F
  | [], h => by cases h
  | e :: F, h => by
    unfold getF at h
    by_cases he : e.1 = v
    · rw [if_pos he] at h
      cases h
      subst he
      simp
    · rw [if_neg he] at h
      exact List.mem_cons_of_mem _ (getF_mem h)
theorem getF_of_mem {v : Vx} {x : PlW} : ∀ {F : Fnd}, (F.map (·.1)).Nodup → (v, x) ∈ F → getF v F = some x
  | [], _, h => by simp at h
  | e :: F, hn, h => by
    simp only [List.map_cons, List.nodup_cons] at hn
    unfold getF
    rcases List.mem_cons.1 h with rfl | h
    · simp
    · have : e.1 ≠ v := fun he => hn.1 (by rw [he]; exact List.mem_map.2 ⟨_, h, rfl⟩)
      rw [if_neg this]
      exact getF_of_mem hn.2 h
theorem getF_none {v : Vx} : ∀ {F : Fnd}, getF v F = none → ∀ e ∈ F, e.1 ≠ v
  | [], _, e, he => by cases he
  | a :: F, h, e, he => by
    unfold getF at h
    by_cases ha : a.1 = v
    · rw [if_pos ha] at h; cases h
    · rw [if_neg ha] at h
      rcases List.mem_cons.1 he with rfl | he
      · exact ha
      · exact getF_none h e he
theorem keysF (F : Fnd) : (valsF F).map (·.1) = F.map (·.1) := by
  unfold valsF
  rw [List.map_map]
  rfl
theorem setF_keys {v : Vx} {x : PlW} : ∀ {F : Fnd}, (F.map (·.1)).Nodup → ((setF v x F).map (·.1)).Nodup := by
  intro F h
  have := (setL_keys (k := v) (v := x.val) (L := valsF F) (by rw [keysF]; exact h)).1
  rw [setL_vals, keysF] at this
  exact this
/-- what is there behind it: the new one, or one of another vertex -/
theorem mem_setF {v : Vx} {x : PlW} {F : Fnd} (hn : (F.map (·.1)).Nodup) {e : Vx × PlW} : e ∈ setF v x F ↔ e = (v, x) ∨ (e ∈ F ∧ e.1 ≠ v) := by
  have hk := setF_keys (v := v) (x := x) hn
  constructor
  · intro h
    have h1 := getF_of_mem hk (v := e.1) (x := e.2) h
    rw [getF_set] at h1
    by_cases hv : e.1 = v
    · rw [if_pos hv] at h1
      cases h1
      exact .inl (Prod.ext hv rfl)
    · rw [if_neg hv] at h1
      exact .inr ⟨getF_mem h1, hv⟩
  · intro h
    have : getF e.1 (setF v x F) = some e.2 := by
      rw [getF_set]
      rcases h with rfl | ⟨h, hv⟩
      · simp
      · rw [if_neg hv]
        exact getF_of_mem hn h
    exact getF_mem this
theorem tabF_set (v : Vx) (x : PlW) (F : Fnd) (u : Vx) : tabF (setF v x F) u = if u = v then some x.pl else tabF F u := by
  unfold tabF
  rw [getF_set]
  split <;> rfl
def PlaceB (w : World) (k : Nat) : Prop := ∃ cs, Blk w k 107 cs
/-- the places, and the map of them -/
structure FndAt (w : World) (B bf : Nat) (F : Fnd) : Prop where
  map : MapAt Vx.enc w bf (valsF F)
  base : B ≤ bf
  blk : ∀ e ∈ F, Blk w e.2.p 107 e.2.cells ∧ B ≤ e.2.p
  own : ∀ e ∈ F, OwnR 68 2 Hp.cells w B e.2.nv e.2.pl.next
  apart : ∀ e ∈ F, ∀ e' ∈ F, e.2.p = e'.2.p → e.1 = e'.1
/-- what turns but the map of what is found and places turns not -/
structure Mv (B bf : Nat) (w w' : World) : Prop where
  below : Below B w w'
  kept : ∀ k, k < w.heap.size → k ≠ bf → ¬ PlaceB w k → w'.heap[k]? = w.heap[k]?
section
variable {w w' w'' : World} {B bf : Nat} {F : Fnd}
theorem Mv.refl (B bf : Nat) (w : World) : Mv B bf w w := ⟨Below.refl _ _, fun _ _ _ _ => rfl⟩
theorem Mv.trans (h : Mv B bf w w') (h' : Mv B bf w' w'') (_hB : B ≤ w.heap.size) : Mv B bf w w'' := by
  refine ⟨h.below.trans h'.below, fun k hk hne hp => ?_⟩
  have e1 := h.kept k hk hne hp
  refine (h'.kept k (Nat.lt_of_lt_of_le hk h.below.size) hne ?_).trans e1
  rintro ⟨cs, hc⟩
  exact hp ⟨cs, e1.symm.trans hc⟩
theorem Mv.of_below (h : Below w.heap.size w w') (hB : B ≤ w.heap.size) : Mv B bf w w' := ⟨h.mono hB, fun k hk _ _ => h.block k hk⟩
theorem Mv.blk (h : Mv B bf w w') {k : Nat} {t : TypeId} {cs : Array Value} (hb : Blk w k t cs) (hne : k ≠ bf) (ht : t ≠ 107) : Blk w' k t cs := by
  refine (h.kept k hb.lt hne ?_).trans hb
  rintro ⟨cs', hc⟩
  have := hb.symm.trans hc
  injection this with this
  injection this with _ this
  exact ht this
theorem Mv.own {α : Type} {e : TypeId} {C : Nat} {cells : α → List Value} {v : Value} {L : List α} (h : Mv B bf w w') (ho : OwnR e C cells w B v L) (he : e ≠ 107) (hm : MapAt Vx.enc w bf (valsF F)) : OwnR e C cells w' B v L := by
  refine ⟨ho.1, ?_⟩
  rcases ho.2 with g | ⟨g, cap, cur, h1, h2, h3, h4⟩
  · exact .inl g
  · refine .inr ⟨g, cap, cur, h1, h2, h.blk h3 ?_ he, h4⟩
    rintro rfl
    obtain ⟨es, clock, h5, -⟩ := hm
    rw [h3] at h5
    cases h5
theorem Mv.map {enc : Vx → Value} {b : Nat} {L : List (Vx × Value)} (h : Mv B bf w w') (hm : MapAt enc w b L) (hne : b ≠ bf) : MapAt enc w' b L := by
  refine hm.same (h.kept b hm.lt hne ?_)
  rintro ⟨cs, hc⟩
  obtain ⟨es, clock, h5, -⟩ := hm
  have h6 : w.heap[b]? = some (.cells cs 107 (0, 0)) := hc
  rw [h6] at h5
  cases h5
theorem FndAt.keys (h : FndAt w B bf F) : (F.map (·.1)).Nodup := by
  have := h.map.nodup
  rw [keysF] at this
  exact this
theorem FndAt.below (h : FndAt w B bf F) (hb : Below w.heap.size w w') : FndAt w' B bf F where
  map := h.map.below hb h.map.lt
  base := h.base
  blk := fun e he => ⟨(h.blk e he).1.below hb (h.blk e he).1.lt, (h.blk e he).2⟩
  own := fun e he => (h.own e he).below hb
  apart := h.apart
theorem FndAt.get (h : FndAt w B bf F) {v : Vx} {x : PlW} (hv : getF v F = some x) : Blk w x.p 107 x.cells ∧ B ≤ x.p ∧ OwnR 68 2 Hp.cells w B x.nv x.pl.next :=
  ⟨(h.blk _ (getF_mem hv)).1, (h.blk _ (getF_mem hv)).2, h.own _ (getF_mem hv)⟩
theorem FndAt.ne_map (h : FndAt w B bf F) {x : PlW} (hb : Blk w x.p 107 x.cells) : x.p ≠ bf := by
  intro e
  obtain ⟨es, clock, h5, -⟩ := h.map
  rw [← e] at h5
  have h6 : w.heap[x.p]? = some (.cells x.cells 107 (0, 0)) := hb
  rw [h6] at h5
  cases h5
/-- a place is filled anew, where it lies -/
theorem FndAt.fill (h : FndAt w B bf F) {v : Vx} {x y : PlW} (hv : getF v F = some x) (hp : y.p = x.p) (hb : Blk w' y.p 107 y.cells) (ho : OwnR 68 2 Hp.cells w' B y.nv y.pl.next) (hg : w.grownBy w' (some x.p)) : FndAt w' B bf (setF v y F) ∧ Mv B bf w w' := by
  have hx := getF_mem hv
  have hk := h.keys
  obtain ⟨hxb, hxB, -⟩ := h.get hv
  have hvals : valsF (setF v y F) = valsF F := by
    rw [← setL_vals]
    have hyx : y.val = x.val := by unfold PlW.val; rw [hp]
    rw [hyx]
    have hgL : getL v (valsF F) = some x.val := by rw [getL_vals, hv]; rfl
    have : ∀ L : List (Vx × Value), getL v L = some x.val → setL v x.val L = L := by
      intro L
      induction L with
      | nil => intro g; cases g
      | cons e L ih =>
        intro g
        unfold getL at g
        unfold setL
        by_cases he : e.1 = v
        · rw [if_pos he] at g ⊢
          injection g with g
          rw [← he, ← g]
        · rw [if_neg he] at g ⊢
          rw [ih g]
    exact this _ hgL
  refine ⟨⟨?_, h.base, ?_, ?_, ?_⟩, ?_, ?_⟩
  · rw [hvals]
    exact h.map.grown hg (fun e => h.ne_map hxb (by injection e with e; exact e.symm))
  · intro e he
    rcases (mem_setF hk).1 he with rfl | ⟨he, hne⟩
    · exact ⟨hb, by rw [hp]; exact hxB⟩
    · exact ⟨(h.blk e he).1.grown hg (fun e' => hne (h.apart e he _ hx (by injection e'))), (h.blk e he).2⟩
  · intro e he
    rcases (mem_setF hk).1 he with rfl | ⟨he, hne⟩
    · exact ho
    · refine (h.own e he).kept hg (.inr fun e' => ?_)
      rcases (h.own e he).2 with ⟨g, -⟩ | ⟨g, cap, cur, h1, h2, h3, h4⟩
      · rw [g] at e'; cases e'
      · rw [h1] at e'
        have e2 : g = x.p := by injection e'
        rw [e2] at h3
        have h6 : w.heap[x.p]? = some (.cells x.cells 107 (0, 0)) := hxb
        rw [h6] at h3
        injection h3 with h3
        injection h3 with _ h3
        revert h3
        decide
  · intro e he e' he' hpp
    rcases (mem_setF hk).1 he with rfl | ⟨he, hne⟩ <;> rcases (mem_setF hk).1 he' with rfl | ⟨he', hne'⟩
    · rfl
    · exact h.apart (v, x) hx e' he' (hp.symm.trans hpp)
    · exact h.apart e he (v, x) hx (hpp.trans hp)
    · exact h.apart e he e' he' hpp
  · exact ⟨hg.os, hg.tape, hg.output, hg.size, fun k hk => hg.block k (by have := hxb.lt; omega) (fun e => by injection e with e; omega)⟩
  · intro k hk hne hnp
    exact hg.block k hk (fun e => hnp ⟨_, by injection e with e; rw [e]; exact hxb⟩)
/-- a place of a block that is new -/
theorem FndAt.put (h : FndAt w B bf F) {v : Vx} {y : PlW} {w1 : World} (hb1 : Below w.heap.size w w1) (hp : w.heap.size ≤ y.p) (hb : Blk w1 y.p 107 y.cells) (ho : OwnR 68 2 Hp.cells w1 B y.nv y.pl.next) (hB : B ≤ w.heap.size)
    (hm : MapAt Vx.enc w' bf (setL v y.val (valsF F))) (hg : w1.grownBy w' (some bf)) : FndAt w' B bf (setF v y F) ∧ Mv B bf w w' := by
  have hk := h.keys
  have h1 := h.below hb1
  rw [setL_vals] at hm
  have hnm : ∀ {x : Nat} {t : TypeId} {cs : Array Value}, Blk w1 x t cs → some x ≠ some bf := by
    intro x t cs hx e
    injection e with e
    obtain ⟨es, clock, h5, -⟩ := h1.map
    rw [← e] at h5
    have h6 : w1.heap[x]? = some (.cells cs t (0, 0)) := hx
    rw [h6] at h5
    cases h5
  have hno : ∀ {v : Value} {L : List Hp}, OwnR 68 2 Hp.cells w1 B v L → OwnR 68 2 Hp.cells w' B v L := by
    intro v L ho
    refine ho.kept hg (.inr fun e => ?_)
    rcases ho.2 with ⟨g, -⟩ | ⟨g, cap, cur, h1, h2, h3, h4⟩
    · rw [g] at e; cases e
    · rw [h1] at e
      exact hnm h3 e
  refine ⟨⟨hm, h.base, ?_, ?_, ?_⟩, ?_, ?_⟩
  · intro e he
    rcases (mem_setF hk).1 he with rfl | ⟨he, hne⟩
    · exact ⟨hb.grown hg (hnm hb), by simp only; omega⟩
    · exact ⟨(h1.blk e he).1.grown hg (hnm (h1.blk e he).1), (h1.blk e he).2⟩
  · intro e he
    rcases (mem_setF hk).1 he with rfl | ⟨he, hne⟩
    · exact hno ho
    · exact hno (h1.own e he)
  · intro e he e' he' hpp
    rcases (mem_setF hk).1 he with rfl | ⟨he, hne⟩ <;> rcases (mem_setF hk).1 he' with rfl | ⟨he', hne'⟩
    · rfl
    · have := (h.blk e' he').1.lt
      simp only at hpp
      omega
    · have := (h.blk e he).1.lt
      simp only at hpp
      omega
    · exact h.apart e he e' he' hpp
  · refine (hb1.mono hB).grown hg (Nat.le_trans hB hb1.size) ?_
    intro k hk
    injection hk with hk
    rw [← hk]
    exact h.base
  · intro k hk hne hnp
    exact (hg.block k (Nat.lt_of_lt_of_le hk hb1.size) (fun e => hne (by injection e))).trans (hb1.block k hk)
end

end Go.Proofs.Ytpfjgecdlilkcaa
