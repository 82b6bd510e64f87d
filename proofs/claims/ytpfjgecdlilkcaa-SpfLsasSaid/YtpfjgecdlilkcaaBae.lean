/-
  Layer 21: the search's state: what is found of each vertex, in places of the call's own; the edges by vertex.
-/
import Derived.WideKeyEntry
import Derived.Test.YtpfjgecdlilkcaaBaa
import Derived.Test.YtpfjgecdlilkcaaBac
import Derived.Test.YtpfjgecdlilkcaaBad
namespace Go.Proofs.Ytpfjgecdlilkcaa
open Go.RowKit

/-- what is found of a vertex: where its place lies, what is there -/
structure PlW where
  p : Nat
  A : Option Addr
  c : Nat
  pl : Pl
  done : Bool
abbrev Fnd := List (Vx × PlW)
def PlW.nv (x : PlW) : Value := .slice x.A x.pl.next.length x.c
def PlW.val (x : PlW) : Value := .pointer (some ⟨x.p, 0, none⟩)
def PlW.cells (x : PlW) : Array Value := #[.complex .f64 (flt x.pl.a.c) (flt x.pl.a.h), .slice x.A x.pl.next.length x.c, .bool x.done]
def valsF (F : Fnd) : List (Vx × Value) := F.map fun e => (e.1, e.2.val)
def getF (v : Vx) : Fnd → Option PlW
  | [] => none
  | e :: F => if e.1 = v then some e.2 else getF v F
def setF (v : Vx) (x : PlW) : Fnd → Fnd
  | [] => [(v, x)]
  | e :: F => if e.1 = v then (v, x) :: F else e :: setF v x F
def tabF (F : Fnd) : Tab := fun v => (getF v F).map (·.pl)
theorem getL_vals (v : Vx) : ∀ F : Fnd, getL v (valsF F) = (getF v F).map (·.val)
  | [] => rfl
  | e :: F => by
    have ih := getL_vals v F
    simp only [valsF, List.map_cons] at ih ⊢
    unfold getL getF
    by_cases h : e.1 = v
    · rw [if_pos h, if_pos h]; rfl
    · rw [if_neg h, if_neg h]; exact ih
theorem setL_vals (v : Vx) (x : PlW) : ∀ F : Fnd, setL v x.val (valsF F) = valsF (setF v x F)
  | [] => rfl
  | e :: F => by
    have ih := setL_vals v x F
    simp only [valsF, List.map_cons] at ih ⊢
    unfold setL setF
    by_cases h : e.1 = v
    · rw [if_pos h, if_pos h]; rfl
    · rw [if_neg h, if_neg h, ih]; rfl
theorem getF_set (u v : Vx) (x : PlW) : ∀ F : Fnd, getF u (setF v x F) = if u = v then some x else getF u F
  | [] => by
    unfold setF getF
    by_cases h : u = v
    · simp [h]
    · simp [h, Ne.symm h, getF]
  | e :: F => by
    have ih := getF_set u v x F
    unfold setF
    by_cases h1 : e.1 = v
    · rw [if_pos h1]
      by_cases h2 : u = v
      · simp [getF, h2]
      · have h3 : ¬ e.1 = u := fun e' => h2 (by rw [← e', h1])
        have h4 : ¬ v = u := fun e' => h2 e'.symm
        simp [getF, h2, h3, h4]
    · rw [if_neg h1]
      unfold getF
      by_cases h2 : e.1 = u
      · have h3 : ¬ u = v := fun e' => h1 (by rw [h2, e'])
        simp [h2, h3]
      · simp [h2, ih]
theorem getF_mem {v : Vx} {x : PlW} : ∀ {F : Fnd}, getF v F = some x → (v, x) ∈ F
  | [], h => by cases h
  | e :: F, h => by
    unfold getF at h
    by_cases he : e.1 = v
    · rw [if_pos he] at h
      cases h
      subst he
      simp
    · rw [if_neg he] at h
      exact List.mem_cons_of_mem _ (getF_mem h)
theorem getF_of_mem {v : Vx} {x : PlW} : ∀ {F : Fnd}, (F.map (·.1)).Nodup → (v, x) ∈ F → getF v F = some x
  | [], _, h => by simp at h
  | e :: F, hn, h => by
    simp only [List.map_cons, List.nodup_cons] at hn
    unfold getF
    rcases List.mem_cons.1 h with rfl | h
    · simp
    · have : e.1 ≠ v := fun he => hn.1 (by rw [he]; exact List.mem_map.2 ⟨_, h, rfl⟩)
      rw [if_neg this]
      exact getF_of_mem hn.2 h
theorem getF_none {v : Vx} : ∀ {F : Fnd}, getF v F = none → ∀ e ∈ F, e.1 ≠ v
  | [], _, e, he => by cases he
  | a :: F, h, e, he => by
    unfold getF at h
    by_cases ha : a.1 = v
    · rw [if_pos ha] at h; cases h
    · rw [if_neg ha] at h
      rcases List.mem_cons.1 he with rfl | he
      · exact ha
      · exact getF_none h e he
theorem keysF (F : Fnd) : (valsF F).map (·.1) = F.map (·.1) := by
  unfold valsF
  rw [List.map_map]
  rfl
theorem setF_keys {v : Vx} {x : PlW} : ∀ {F : Fnd}, (F.map (·.1)).Nodup → ((setF v x F).map (·.1)).Nodup := by
  intro F h
  have := (setL_keys (k := v) (v := x.val) (L := valsF F) (by rw [keysF]; exact h)).1
  rw [setL_vals, keysF] at this
  exact this
/-- what is there behind it: the new one, or one of another vertex -/
theorem mem_setF {v : Vx} {x : PlW} {F : Fnd} (hn : (F.map (·.1)).Nodup) {e : Vx × PlW} : e ∈ setF v x F ↔ e = (v, x) ∨ (e ∈ F ∧ e.1 ≠ v) := by
  have hk := setF_keys (v := v) (x := x) hn
  constructor
  · intro h
    have h1 := getF_of_mem hk (v := e.1) (x := e.2) h
    rw [getF_set] at h1
    by_cases hv : e.1 = v
    · rw [if_pos hv] at h1
      cases h1
      exact .inl (Prod.ext hv rfl)
    · rw [if_neg hv] at h1
      exact .inr ⟨getF_mem h1, hv⟩
  · intro h
    have : getF e.1 (setF v x F) = some e.2 := by
      rw [getF_set]
      rcases h with rfl | ⟨h, hv⟩
      · simp
      · rw [if_neg hv]
        exact getF_of_mem hn h
    exact getF_mem this
theorem tabF_set (v : Vx) (x : PlW) (F : Fnd) (u : Vx) : tabF (setF v x F) u = if u = v then some x.pl else tabF F u := by
  unfold tabF
  rw [getF_set]
  split <;> rfl
def PlaceB (w : World) (k : Nat) : Prop := ∃ cs, Blk w k 107 cs
/-- the places, and the map of them -/
structure FndAt (w : World) (B bf : Nat) (F : Fnd) : Prop where
  map : MapAt Vx.enc w bf (valsF F)
  base : B ≤ bf
  blk : ∀ e ∈ F, Blk w e.2.p 107 e.2.cells ∧ B ≤ e.2.p
  own : ∀ e ∈ F, OwnR 68 2 Hp.cells w B e.2.nv e.2.pl.next
  apart : ∀ e ∈ F, ∀ e' ∈ F, e.2.p = e'.2.p → e.1 = e'.1
/-- what turns but the map of what is found and places turns not -/
structure Mv (B bf : Nat) (w w' : World) : Prop where
  below : Below B w w'
  kept : ∀ k, k < w.heap.size → k ≠ bf → ¬ PlaceB w k → w'.heap[k]? = w.heap[k]?
section
variable {w w' w'' : World} {B bf : Nat} {F : Fnd}
theorem Mv.refl (B bf : Nat) (w : World) : Mv B bf w w := ⟨Below.refl _ _, fun _ _ _ _ => rfl⟩
theorem Mv.trans (h : Mv B bf w w') (h' : Mv B bf w' w'') (_hB : B ≤ w.heap.size) : Mv B bf w w'' := by
  refine ⟨h.below.trans h'.below, fun k hk hne hp => ?_⟩
  have e1 := h.kept k hk hne hp
  refine (h'.kept k (Nat.lt_of_lt_of_le hk h.below.size) hne ?_).trans e1
  rintro ⟨cs, hc⟩
  exact hp ⟨cs, e1.symm.trans hc⟩
theorem Mv.of_below (h : Below w.heap.size w w') (hB : B ≤ w.heap.size) : Mv B bf w w' := ⟨h.mono hB, fun k hk _ _ => h.block k hk⟩
theorem Mv.blk (h : Mv B bf w w') {k : Nat} {t : TypeId} {cs : Array Value} (hb : Blk w k t cs) (hne : k ≠ bf) (ht : t ≠ 107) : Blk w' k t cs := by
  refine (h.kept k hb.lt hne ?_).trans hb
  rintro ⟨cs', hc⟩
  have := hb.symm.trans hc
  injection this with this
  injection this with _ this
  exact ht this
theorem Mv.own {α : Type} {e : TypeId} {C : Nat} {cells : α → List Value} {v : Value} {L : List α} (h : Mv B bf w w') (ho : OwnR e C cells w B v L) (he : e ≠ 107) (hm : MapAt Vx.enc w bf (valsF F)) : OwnR e C cells w' B v L := by
  refine ⟨ho.1, ?_⟩
  rcases ho.2 with g | ⟨g, cap, cur, h1, h2, h3, h4⟩
  · exact .inl g
  · refine .inr ⟨g, cap, cur, h1, h2, h.blk h3 ?_ he, h4⟩
    rintro rfl
    obtain ⟨es, clock, h5, -⟩ := hm
    rw [h3] at h5
    cases h5
theorem Mv.map {enc : Vx → Value} {b : Nat} {L : List (Vx × Value)} (h : Mv B bf w w') (hm : MapAt enc w b L) (hne : b ≠ bf) : MapAt enc w' b L := by
  refine hm.same (h.kept b hm.lt hne ?_)
  rintro ⟨cs, hc⟩
  obtain ⟨es, clock, h5, -⟩ := hm
  have h6 : w.heap[b]? = some (.cells cs 107 (0, 0)) := hc
  rw [h6] at h5
  cases h5
theorem FndAt.keys (h : FndAt w B bf F) : (F.map (·.1)).Nodup := by
  have := h.map.nodup
  rw [keysF] at this
  exact this
theorem FndAt.below (h : FndAt w B bf F) (hb : Below w.heap.size w w') : FndAt w' B bf F where
  map := h.map.below hb h.map.lt
  base := h.base
  blk := fun e he => ⟨(h.blk e he).1.below hb (h.blk e he).1.lt, (h.blk e he).2⟩
  own := fun e he => (h.own e he).below hb
  apart := h.apart
theorem FndAt.get (h : FndAt w B bf F) {v : Vx} {x : PlW} (hv : getF v F = some x) : Blk w x.p 107 x.cells ∧ B ≤ x.p ∧ OwnR 68 2 Hp.cells w B x.nv x.pl.next :=
  ⟨(h.blk _ (getF_mem hv)).1, (h.blk _ (getF_mem hv)).2, h.own _ (getF_mem hv)⟩
theorem FndAt.ne_map (h : FndAt w B bf F) {x : PlW} (hb : Blk w x.p 107 x.cells) : x.p ≠ bf := by
  intro e
  obtain ⟨es, clock, h5, -⟩ := h.map
  rw [← e] at h5
  have h6 : w.heap[x.p]? = some (.cells x.cells 107 (0, 0)) := hb
  rw [h6] at h5
  cases h5
/-- a place is filled anew, where it lies -/
theorem FndAt.fill (h : FndAt w B bf F) {v : Vx} {x y : PlW} (hv : getF v F = some x) (hp : y.p = x.p) (hb : Blk w' y.p 107 y.cells) (ho : OwnR 68 2 Hp.cells w' B y.nv y.pl.next) (hg : w.grownBy w' (some x.p)) : FndAt w' B bf (setF v y F) ∧ Mv B bf w w' := by
  have hx := getF_mem hv
  have hk := h.keys
  obtain ⟨hxb, hxB, -⟩ := h.get hv
  have hvals : valsF (setF v y F) = valsF F := by
    rw [← setL_vals]
    have hyx : y.val = x.val := by unfold PlW.val; rw [hp]
    rw [hyx]
    have hgL : getL v (valsF F) = some x.val := by rw [getL_vals, hv]; rfl
    have : ∀ L : List (Vx × Value), getL v L = some x.val → setL v x.val L = L := by
      intro L
      induction L with
      | nil => intro g; cases g
      | cons e L ih =>
        intro g
        unfold getL at g
        unfold setL
        by_cases he : e.1 = v
        · rw [if_pos he] at g ⊢
          injection g with g
          rw [← he, ← g]
        · rw [if_neg he] at g ⊢
          rw [ih g]
    exact this _ hgL
  refine ⟨⟨?_, h.base, ?_, ?_, ?_⟩, ?_, ?_⟩
  · rw [hvals]
    exact h.map.grown hg (fun e => h.ne_map hxb (by injection e with e; exact e.symm))
  · intro e he
    rcases (mem_setF hk).1 he with rfl | ⟨he, hne⟩
    · exact ⟨hb, by rw [hp]; exact hxB⟩
    · exact ⟨(h.blk e he).1.grown hg (fun e' => hne (h.apart e he _ hx (by injection e'))), (h.blk e he).2⟩
  · intro e he
    rcases (mem_setF hk).1 he with rfl | ⟨he, hne⟩
    · exact ho
    · refine (h.own e he).kept hg (.inr fun e' => ?_)
      rcases (h.own e he).2 with ⟨g, -⟩ | ⟨g, cap, cur, h1, h2, h3, h4⟩
      · rw [g] at e'; cases e'
      · rw [h1] at e'
        have e2 : g = x.p := by injection e'
        rw [e2] at h3
        have h6 : w.heap[x.p]? = some (.cells x.cells 107 (0, 0)) := hxb
        rw [h6] at h3
        injection h3 with h3
        injection h3 with _ h3
        revert h3
        decide
  · intro e he e' he' hpp
    rcases (mem_setF hk).1 he with rfl | ⟨he, hne⟩ <;> rcases (mem_setF hk).1 he' with rfl | ⟨he', hne'⟩
    · rfl
    · exact h.apart (v, x) hx e' he' (hp.symm.trans hpp)
    · exact h.apart e he (v, x) hx (hpp.trans hp)
    · exact h.apart e he e' he' hpp
  · exact ⟨hg.os, hg.tape, hg.output, hg.size, fun k hk => hg.block k (by have := hxb.lt; omega) (fun e => by injection e with e; omega)⟩
  · intro k hk hne hnp
    exact hg.block k hk (fun e => hnp ⟨_, by injection e with e; rw [e]; exact hxb⟩)
/-- a place of a block that is new -/
theorem FndAt.put (h : FndAt w B bf F) {v : Vx} {y : PlW} {w1 : World} (hb1 : Below w.heap.size w w1) (hp : w.heap.size ≤ y.p) (hb : Blk w1 y.p 107 y.cells) (ho : OwnR 68 2 Hp.cells w1 B y.nv y.pl.next) (hB : B ≤ w.heap.size)
    (hm : MapAt Vx.enc w' bf (setL v y.val (valsF F))) (hg : w1.grownBy w' (some bf)) : FndAt w' B bf (setF v y F) ∧ Mv B bf w w' := by
  have hk := h.keys
  have h1 := h.below hb1
  rw [setL_vals] at hm
  have hnm : ∀ {x : Nat} {t : TypeId} {cs : Array Value}, Blk w1 x t cs → some x ≠ some bf := by
    intro x t cs hx e
    injection e with e
    obtain ⟨es, clock, h5, -⟩ := h1.map
    rw [← e] at h5
    have h6 : w1.heap[x]? = some (.cells cs t (0, 0)) := hx
    rw [h6] at h5
    cases h5
  have hno : ∀ {v : Value} {L : List Hp}, OwnR 68 2 Hp.cells w1 B v L → OwnR 68 2 Hp.cells w' B v L := by
    intro v L ho
    refine ho.kept hg (.inr fun e => ?_)
    rcases ho.2 with ⟨g, -⟩ | ⟨g, cap, cur, h1, h2, h3, h4⟩
    · rw [g] at e; cases e
    · rw [h1] at e
      exact hnm h3 e
  refine ⟨⟨hm, h.base, ?_, ?_, ?_⟩, ?_, ?_⟩
  · intro e he
    rcases (mem_setF hk).1 he with rfl | ⟨he, hne⟩
    · exact ⟨hb.grown hg (hnm hb), by simp only; omega⟩
    · exact ⟨(h1.blk e he).1.grown hg (hnm (h1.blk e he).1), (h1.blk e he).2⟩
  · intro e he
    rcases (mem_setF hk).1 he with rfl | ⟨he, hne⟩
    · exact hno ho
    · exact hno (h1.own e he)
  · intro e he e' he' hpp
    rcases (mem_setF hk).1 he with rfl | ⟨he, hne⟩ <;> rcases (mem_setF hk).1 he' with rfl | ⟨he', hne'⟩
    · rfl
    · have := (h.blk e' he').1.lt
      simp only at hpp
      omega
    · have := (h.blk e he).1.lt
      simp only at hpp
      omega
    · exact h.apart e he e' he' hpp
  · refine (hb1.mono hB).grown hg (Nat.le_trans hB hb1.size) ?_
    intro k hk
    injection hk with hk
    rw [← hk]
    exact h.base
  · intro k hk hne hnp
    exact (hg.block k (Nat.lt_of_lt_of_le hk hb1.size) (fun e => hne (by injection e))).trans (hb1.block k hk)
end

end Go.Proofs.Ytpfjgecdlilkcaa

/-
  Two numbers compared, one behind the other; a row that is sorted strictly.
-/
namespace Go.Proofs.Ytpfjgecdlilkcaa
open Go.RowKit Go.Sort Go.Proofs

def cmp2 (a1 a2 b1 b2 : Int) : Int := orL [cmpI a1 b1, cmpI a2 b2]
theorem lit2 (w : World) (x0 x1 : Int) (t : TypeId) : ∀ k, (hk : k < [x0, x1].length) → (w.alloc (.cells #[.int .i64 x0, .int .i64 x1] t)).cell? ⟨w.heap.size, k, none⟩ = some (.int .i64 [x0, x1][k]) := by
  intro k hk
  rw [(Blk.new w t _).cell k]
  match k, hk with
  | 0, _ => rfl
  | 1, _ => rfl
theorem or2_s (a b : Int) (W : World) : Calls Try.prog 39 #[.slice (some ⟨W.heap.size, 0, none⟩) 2 2] (W.alloc (.cells #[.int .i64 a, .int .i64 b] 3)) fun r w' => r = .returned (.int .i64 (orL [a, b])) ∧ W.alloc (.cells #[.int .i64 a, .int .i64 b] 3) = w' :=
  or_s [a, b] (by simp) W.heap.size 2 _ (lit2 _ _ _ _) 2 (by simp) rfl
theorem cmp2_lt (a1 a2 b1 b2 : Int) : (cmp2 a1 a2 b1 b2 < 0 ↔ a1 < b1 ∨ (a1 = b1 ∧ a2 < b2)) ∧ (cmp2 a1 a2 b1 b2 = 0 ↔ a1 = b1 ∧ a2 = b2) := by
  unfold cmp2
  rcases cmpI_cases a1 b1 with ⟨h, e⟩ | ⟨h, h', e⟩ | ⟨h, h', e⟩ <;> rw [e] <;> rcases cmpI_cases a2 b2 with ⟨g, e2⟩ | ⟨g, g', e2⟩ | ⟨g, g', e2⟩ <;> rw [e2] <;> simp [orL] <;> omega
theorem or2_lt (x y : Int) : orL [x, y] < 0 ↔ x < 0 ∨ (x = 0 ∧ y < 0) := by
  by_cases h : x = 0 <;> simp [orL, h] <;> omega
/-- pairs apart by where they lead: sorted, they are so strictly -/
theorem sort_strict {α : Type} {R : α → α → Prop} {N M : List α} (hp : N.Perm M) (hs : N.Pairwise fun x y => ¬ R y x) (ha : M.Pairwise fun x y => R x y ∨ R y x) : N.Pairwise R := by
  have h1 : N.Pairwise fun x y => R x y ∨ R y x := hp.symm.pairwise ha (fun {x y} h => h.symm)
  exact (hs.and h1).imp fun {x y} h => h.2.resolve_right h.1

end Go.Proofs.Ytpfjgecdlilkcaa

/-
  An entry of a map by struct keys that is asked for, and stored into behind that (m[k] = append(m[k], ..)).
-/
namespace Go.Proofs.Ytpfjgecdlilkcaa
open Go.RowKit Go.MapKept Go.WideElems

section
variable {κ : Type} [DecidableEq κ] {P : Program} {kt et mt : TypeId} {enc : κ → Value} {w w' : World} {b : Nat} {L : List (κ × Value)}
/-- block b is a map of just these; the one of k bears the stamp st -/
def EntryAt (enc : κ → Value) (w : World) (b : Nat) (L : List (κ × Value)) (k : κ) (st : Nat) : Prop :=
  ∃ es clock j e, w.heap[b]? = some (.map es clock) ∧ entE es.toList = entL enc L ∧ (∀ x ∈ es.toList, x.born < clock) ∧ (es.toList.map (·.born)).Nodup ∧ (L.map (·.1)).Nodup ∧
    es[j]? = some e ∧ e.born = st ∧ e.key = enc k ∧ ∀ v, setL k v L = L.set j (k, v)
theorem EntryAt.map {k : κ} {st : Nat} (h : EntryAt enc w b L k st) : MapAt enc w b L := by
  obtain ⟨es, clock, j, e, h1, h2, h3, h4, h5, -⟩ := h
  exact ⟨es, clock, h1, h2, h3, h4, h5⟩
theorem EntryAt.same {k : κ} {st : Nat} (h : EntryAt enc w b L k st) (he : w'.heap[b]? = w.heap[b]?) : EntryAt enc w' b L k st := by
  obtain ⟨es, clock, j, e, h1, h2⟩ := h
  exact ⟨es, clock, j, e, he.trans h1, h2⟩
theorem EntryAt.grown {k : κ} {st : Nat} {row : Option Nat} (h : EntryAt enc w b L k st) (hg : w.grownBy w' row) (hne : some b ≠ row) : EntryAt enc w' b L k st := h.same (hg.block b h.map.lt hne)
theorem EntryAt.below {k : κ} {st : Nat} {B : Nat} (h : EntryAt enc w b L k st) (hb : Below B w w') (hB : b < B) : EntryAt enc w' b L k st := h.same (hb.block b hB)
theorem setL_new (k : κ) (v z : Value) : ∀ {L : List (κ × Value)}, (∀ e ∈ L, e.1 ≠ k) → setL k v (L ++ [(k, z)]) = L ++ [(k, v)]
  | [], _ => by simp [setL]
  | e :: L, h => by
    rw [List.cons_append, setL, if_neg (h e List.mem_cons_self), setL_new k v z (fun x hx => h x (List.mem_cons_of_mem _ hx))]
    rfl
theorem MapAt.entry_run (h : MapAt enc w b L) (K : KeyOk P kt enc) (ht : P.underlying mt = some (.map kt et)) {z : Value} (hz : ∀ w, (zeroValue et).run P w = .ok z w) (k : κ) :
    ∃ (w' : World) (st : Nat), (Instr.mapEntry mt (.map (some b)) (enc k)).run P w = .ok (.tuple #[(getL k L).getD z, goInt st]) w' ∧ EntryAt enc w' b (setL k ((getL k L).getD z) L) k st ∧ w.grownBy w' (some b) ∧ w'.heap.size = w.heap.size := by
  obtain ⟨es, clock, hb, hm, h1, h2, h3⟩ := h
  have hf := K.find k es.toList L w hm
  have hlen : es.toList.length = L.length := by simpa [entE, entL] using congrArg List.length hm
  cases hl : look k L 0 with
  | none =>
    rw [hl] at hf
    obtain ⟨h6, h4, h5⟩ := look_none hl
    rw [h6]
    refine ⟨{ w with heap := w.heap.setIfInBounds b (.map (es.push { key := enc k, val := z, born := clock }) (clock + 1)) }, clock, ?_, ⟨_, _, es.size, { key := enc k, val := z, born := clock }, (heap_set hb).1, ?_, ?_, ?_, (setL_keys h3).1, by simp, rfl, rfl, ?_⟩, ⟨rfl, rfl, rfl, by simp, fun i hi hne => (heap_set hb).2 i fun e => hne (by rw [e])⟩, by simp⟩
    · simp [Instr.mapEntry, run_underlying ht, MapKept.run_getObj_map hb, K.check, hf, hz, MapKept.run_setObj_map _ hb, Result.andThen]
    · simp only [Option.getD]
      rw [h5 z]
      simp only [entE, entL] at hm
      simp [entE, entL, hm]
    · intro x hx
      simp only [Array.toList_push, List.mem_append, List.mem_singleton] at hx
      rcases hx with hx | rfl
      · have := h1 x hx; omega
      · exact Nat.lt_succ_self _
    · simp only [Array.toList_push, List.map_append, List.map_cons, List.map_nil]
      refine List.nodup_append.2 ⟨h2, by simp, ?_⟩
      intro a ha c hc
      simp only [List.mem_singleton] at hc
      subst hc
      obtain ⟨x, hx, rfl⟩ := List.mem_map.1 ha
      exact Nat.ne_of_lt (h1 x hx)
    · intro v
      simp only [Option.getD]
      have hsz : es.size = L.length := by rw [← hlen]; rfl
      rw [h5 z, setL_new k v z h4, hsz, List.set_append_right _ _ (Nat.le_refl _)]
      simp
  | some jv =>
    obtain ⟨j, v0⟩ := jv
    rw [hl] at hf
    obtain ⟨n, hjn, h4, h6, h5⟩ := look_some hl
    obtain rfl : j = n := by omega
    have hjL : j < L.length := (List.getElem?_eq_some_iff.1 h4).1
    have hjs : j < es.size := by have : es.toList.length = es.size := rfl; omega
    have hkv : es[j].key = enc k ∧ es[j].val = v0 := by
      have := congrArg (fun l => l[j]?) hm
      simp only [entE, entL, List.getElem?_map, h4, Option.map_some, Array.getElem?_toList, Array.getElem?_eq_getElem hjs, Option.some.injEq, Prod.mk.injEq] at this
      exact this
    have hstay : (Instr.keyThatStays (enc k) (enc k)).run P w = .ok (enc k) w := by simp [Instr.keyThatStays, K.same]
    have hsame : es.modify j (fun e => { e with key := enc k }) = es := by
      apply Array.ext_getElem?
      intro i
      rw [Array.getElem?_modify]
      by_cases hij : j = i
      · subst hij
        rw [if_pos rfl, Array.getElem?_eq_getElem hjs]
        simp only [Option.map_some, Option.some.injEq]
        have h7 := hkv.1
        cases hx : es[j] with
        | mk key val born =>
          rw [hx] at h7
          simp only at h7
          rw [h7]
      · rw [if_neg hij]
    have hset : setL k v0 L = L := by
      rw [h5 v0]
      exact set_self L j _ h4
    have hsw : ({ w with heap := w.heap.setIfInBounds b (.map es clock) } : World).heap[b]? = some (.map es clock) := (heap_set hb).1
    rw [h6]
    simp only [Option.getD]
    rw [hset]
    refine ⟨{ w with heap := w.heap.setIfInBounds b (.map es clock) }, es[j].born, ?_, ⟨es, clock, j, es[j], hsw, hm, h1, h2, h3, Array.getElem?_eq_getElem hjs, rfl, hkv.1, h5⟩, ⟨rfl, rfl, rfl, by simp, fun i hi hne => (heap_set hb).2 i fun e => hne (by rw [e])⟩, by simp⟩
    simp [Instr.mapEntry, run_underlying ht, MapKept.run_getObj_map hb, K.check, hf, Array.getElem?_eq_getElem hjs, hkv.1, hstay, hsame, MapKept.run_setObj_map _ hb, Result.andThen]
theorem EntryAt.store_run {k : κ} {st : Nat} (h : EntryAt enc w b L k st) (v : Value) :
    ∃ w', (Instr.entryStore mt (.map (some b)) (goInt st) v).run P w = .ok () w' ∧ MapAt enc w' b (setL k v L) ∧ w.grownBy w' (some b) ∧ w'.heap.size = w.heap.size := by
  obtain ⟨es, clock, j, e, hb, hm, h1, h2, h3, hj, hst, hkey, h5⟩ := h
  subst hst
  have hidx : es.findIdx? (fun x => ((x.born : Nat) : Int) == ((e.born : Nat) : Int)) = some j := by
    rw [findIdx_arr]
    exact findIdx_born h2 (by simpa using hj)
  have hjs : j < es.size := (Array.getElem?_eq_some_iff.1 hj).1
  have hej : es[j] = e := (Array.getElem?_eq_some_iff.1 hj).2
  refine ⟨{ w with heap := w.heap.setIfInBounds b (.map (es.modify j fun x => { x with val := v }) clock) }, ?_, ⟨_, _, (heap_set hb).1, ?_, ?_, ?_, (setL_keys h3).1⟩, ⟨rfl, rfl, rfl, by simp, fun i hi hne => (heap_set hb).2 i fun e => hne (by rw [e])⟩, by simp⟩
  · simp [Instr.entryStore, MapKept.run_getObj_map hb, asInt, asIntOf, goInt, hidx, MapKept.run_setObj_map _ hb, Result.andThen]
  · rw [h5 v]
    simp only [entL, List.map_set]
    simp only [entL] at hm
    rw [← hm]
    apply List.ext_getElem?
    intro i
    simp only [entE, List.getElem?_map, Array.getElem?_toList, Array.getElem?_modify, List.getElem?_set, List.length_map]
    by_cases hij : j = i
    · subst hij
      simp [hjs, hej, hkey]
    · simp [hij]
  · intro x hx
    obtain ⟨i, hi⟩ := List.getElem?_of_mem hx
    rw [Array.getElem?_toList, Array.getElem?_modify] at hi
    by_cases hij : j = i
    · subst hij
      simp only [if_true, Array.getElem?_eq_getElem hjs, Option.map_some, Option.some.injEq] at hi
      rw [← hi]
      exact h1 es[j] (by simp)
    · rw [if_neg hij] at hi
      exact h1 x (List.mem_of_getElem? (by rwa [Array.getElem?_toList]))
  · have : (es.modify j fun x => { x with val := v }).toList.map (·.born) = es.toList.map (·.born) := by
      apply List.ext_getElem?
      intro i
      simp only [List.getElem?_map, Array.getElem?_toList, Array.getElem?_modify]
      by_cases hij : j = i
      · subst hij
        simp only [if_true]
        cases es[j]? <;> rfl
      · simp [hij]
    rw [this]
    exact h2
end

end Go.Proofs.Ytpfjgecdlilkcaa

/-
  Layer 21 in plain words: how many hops there may be.
-/
namespace Go.Proofs.Ytpfjgecdlilkcaa

def okHp (h : Hp) : Prop := (0 ≤ h.lan ∧ h.lan ≤ 3) ∧ (0 ≤ h.id ∧ h.id ≤ 15)
def allHp : List Hp := (List.range 4).flatMap fun i : Nat => (List.range 16).map fun j : Nat => (⟨(i : Int), (j : Int)⟩ : Hp)
theorem mem_allHp {h : Hp} (ho : okHp h) : h ∈ allHp := by
  obtain ⟨⟨h1, h2⟩, h3, h4⟩ := ho
  obtain ⟨a, b⟩ := h
  simp only at h1 h2 h3 h4
  unfold allHp
  rw [List.mem_flatMap]
  refine ⟨a.toNat, by rw [List.mem_range]; omega, ?_⟩
  rw [List.mem_map]
  exact ⟨b.toNat, by rw [List.mem_range]; omega, by rw [Int.toNat_of_nonneg h1, Int.toNat_of_nonneg h3]⟩
theorem hops_few {L : List Hp} (hs : L.Pairwise ltH) (ho : ∀ h ∈ L, okHp h) : L.length ≤ 64 := by
  have hn : L.Nodup := hs.imp fun {a b} h => by rintro rfl; exact ltH_irr _ h
  have := nodup_len L allHp hn fun h hh => mem_allHp (ho h hh)
  exact Nat.le_trans this (by decide)
section
variable {E : List Ed} {r : Vx} {O : List Vx} {Z : List Ed} {T : Tab}
theorem Dij.hops_ok (h : Dij E r O Z T) (hr : r.kind = 1) : ∀ v q, T v = some q → ∀ x ∈ q.next, okHp x ∧ (v.kind = 1 → x.id ≠ 0) := by
  have key : ∀ n v q, rankV v q.a = n → T v = some q → ∀ x ∈ q.next, okHp x ∧ (v.kind = 1 → x.id ≠ 0) := by
    intro n
    induction n using Nat.strongRecOn with
    | ind n ih =>
      intro v q hn hv x hx
      by_cases hvr : v = r
      · rw [hvr, h.root] at hv
        cases hv
        cases hx
      · obtain ⟨e, he, hd, p, hp, hc, hxe⟩ := ((h.next v q hv hvr).2 x).1 hx
        obtain ⟨-, hcnt, -⟩ := h.edges e he
        subst hd
        obtain ⟨hsm, hdm, hk⟩ := cntE_iff.1 hcnt
        have hlt : rankV e.src p.a < n := by
          rw [← hn]
          have := rank_step hcnt p.a
          unfold rankV stepV at this
          unfold rankV
          simp only at this
          omega
        unfold extH at hxe
        by_cases hs : e.src = r
        · rw [if_pos hs, List.mem_singleton] at hxe
          have h1 : e.fk = 1 := by rw [← hr, ← hs]; rfl
          have h2 : e.dst.kind = 2 := by show e.tk = 2; omega
          rcases mayV_iff.1 hdm with ⟨g, -⟩ | ⟨-, g1, g2⟩
          · omega
          · have g3 : (0 : Int) ≤ e.ti := g1
            have g4 : e.ti ≤ 63 := g2
            subst hxe
            exact ⟨⟨⟨by simp only; omega, by simp only; omega⟩, by simp, by simp⟩, fun g => by omega⟩
        · rw [if_neg hs, List.mem_map] at hxe
          obtain ⟨y, hy, hxy⟩ := hxe
          obtain ⟨ho, hi⟩ := ih _ hlt e.src p rfl hp y hy
          by_cases hy0 : y.id = 0
          · rw [if_pos hy0] at hxy
            have h1 : e.fk ≠ 1 := fun g => hi g hy0
            have h2 : e.dst.kind = 1 := by show e.tk = 1; omega
            rcases mayV_iff.1 hdm with ⟨-, g1, g2⟩ | ⟨g, -⟩
            · have g3 : (1 : Int) ≤ e.ti := g1
              have g4 : e.ti ≤ 15 := g2
              subst hxy
              exact ⟨⟨ho.1, by simp only; omega, by simp only; omega⟩, fun _ => by simp only; omega⟩
            · omega
          · rw [if_neg hy0] at hxy
            subst hxy
            exact ⟨ho, fun _ => hy0⟩
  exact fun v q => key _ v q rfl
theorem Dij.few (h : Dij E r O Z T) (hr : r.kind = 1) {v : Vx} {q : Pl} (hv : T v = some q) : q.next.length ≤ 64 := by
  by_cases hvr : v = r
  · rw [hvr, h.root] at hv
    cases hv
    simp
  · exact hops_few (h.next v q hv hvr).1 fun x hx => (h.hops_ok hr v q hv x hx).1
theorem Dij.low (h : Dij E r O Z T) {v : Vx} {q : Pl} (hv : T v = some q) : q.a.c ≤ 7900 ∧ q.a.h ≤ 79 := by
  have h1 := h.small v q hv
  have h2 := h.len
  omega
end

end Go.Proofs.Ytpfjgecdlilkcaa

/-
  Layer 21 in plain words: what the search has found is the tree.
-/
namespace Go.Proofs.Ytpfjgecdlilkcaa

theorem tree_of_dij {E : List Ed} {r : Vx} {O : List Vx} {Z : List Ed} {T : Tab} {DD : Vx → Vx → Option Val2} {L : List Nk} (h : Dij E r O Z T) (hall : ∀ v p, T v = some p → v ∈ O) (hZ : ∀ e ∈ E, cntE e = true → e.src ∈ O → e ∈ Z) (hD : Dists E DD) (hr : r.kind = 1)
    (hs : L.Pairwise fun x y => ltX x.v y.v) (hL : ∀ n ∈ L, T n.v = some ⟨n.a, n.next⟩) (hT : ∀ v p, T v = some p → ∃ n ∈ L, n.v = v) : TreeIs E DD r L := by
  obtain ⟨h1, h2⟩ := h.ends hall hZ
  have he : (fun v => (T v).map (·.a)) = DD r := h1.unique (hD r) (fun _ _ => Iff.rfl)
  rw [he] at h2
  have hn := hops_iff hD hr h2
  have hDT : ∀ v, DD r v = (T v).map (·.a) := fun v => by rw [← he]
  refine ⟨hs, ?_, ?_, ?_⟩
  · intro v a ha
    rw [hDT] at ha
    obtain ⟨p, hp, -⟩ := Option.map_eq_some_iff.1 ha
    exact hT v p hp
  · intro n hm
    rw [hDT, hL n hm]
    rfl
  · intro n hm
    have hTn := hL n hm
    constructor
    · by_cases hvr : n.v = r
      · rw [hvr, h.root] at hTn
        have : n.next = [] := by
          injection hTn with e
          injection e with _ e
          exact e.symm
        rw [this]
        exact List.Pairwise.nil
      · exact (h.next _ _ hTn hvr).1
    · intro hp
      have := hn n.v n.a (by rw [hDT, hTn]; rfl) hp
      simp only [hTn, Option.map_some, Option.getD_some] at this
      exact this

end Go.Proofs.Ytpfjgecdlilkcaa

/-
  Layer 21: the document's words of one vertex, one edge; where a vertex' row is.
-/
namespace Go.Proofs.Ytpfjgecdlilkcaa
open Go.RowKit

/-- a row of costs -/
def rcells (p : RowV) : List Value := [.int .i64 p.1.kind, .int .i64 p.1.id, .int .i64 p.2.c, .int .i64 p.2.h]
theorem onesRw (x : RowV) : ∀ u ∈ rcells x, u.oneCell' = true := by
  intro u hu
  simp [rcells] at hu
  rcases hu with rfl | rfl | rfl | rfl <;> rfl
theorem infoRw : (Try.prog.info? 120).map (fun i => (i.zero, i.size, i.bytes)) = some (some (.agg #[.int .i64 0, .int .i64 0, .int .i64 0, .int .i64 0]), 4, 32) := by kernel_rfl
theorem row_rw {w : World} {B : Nat} {A : Option Addr} {l : List RowV} (h : RowsAt 4 rcells w B A l) (k : Nat) (hk : k < l.length) :
    ∃ b o, A = some ⟨b, o, none⟩ ∧ b < B ∧ w.cell? ⟨b, o + k * 4, none⟩ = some (.int .i64 l[k].1.kind) ∧ w.cell? ⟨b, o + k * 4 + 1, none⟩ = some (.int .i64 l[k].1.id) ∧ w.cell? ⟨b, o + k * 4 + 2, none⟩ = some (.int .i64 l[k].2.c) ∧ w.cell? ⟨b, o + k * 4 + 3, none⟩ = some (.int .i64 l[k].2.h) := by
  obtain ⟨b, o, e, hb, hc⟩ := h (by omega)
  exact ⟨b, o, e, hb, by simpa using hc k hk 0 _ (by omega) rfl, hc k hk 1 _ (by omega) rfl, hc k hk 2 _ (by omega) rfl, hc k hk 3 _ (by omega) rfl⟩
set_option maxHeartbeats 2000000 in
set_option maxRecDepth 100000 in
theorem refMay_any (k i : Int) (w : World) {t : Bool} (ht : mayV ⟨k, i⟩ = t) : Calls Try.prog 57 #[.agg #[.int .i64 k, .int .i64 i]] w fun r w' => r = .returned (.bool t) ∧ Below w.heap.size w w' := by
  subst ht
  have Hb := Lib.hid ((Below.refl w.heap.size w).alloc (Nat.le_refl _) (.cells #[.int .i64 k, .int .i64 i] 40))
  have hk := Blk.new w 40 #[.int .i64 k, .int .i64 i]
  obtain ⟨w0, hW0⟩ : ∃ w0, w.alloc (.cells #[.int .i64 k, .int .i64 i] 40) = w0 := ⟨_, rfl⟩
  rw [hW0] at hk Hb
  obtain ⟨a0, a1, -, -⟩ := hk.cells2
  clear hk
  by_cases h1 : k = 1
  · subst h1
    by_cases h2 : 1 ≤ i
    · by_cases h3 : i ≤ 15
      · have Hr := Lib.hid (show mayV ⟨1, i⟩ = true by simp [mayV, h2, h3])
        go_enter Try.func57, Try.ntmps57
        go_wp2
        go_ret
        exact ⟨by rw [Hr.out]; rfl, Hb.out⟩
      · have Hr := Lib.hid (show mayV ⟨1, i⟩ = false by simp [mayV, h3])
        go_enter Try.func57, Try.ntmps57
        go_wp2
        go_ret
        exact ⟨by rw [Hr.out]; rfl, Hb.out⟩
    · have Hr := Lib.hid (show mayV ⟨1, i⟩ = false by simp [mayV, h2])
      go_enter Try.func57, Try.ntmps57
      go_wp2
      go_ret
      exact ⟨by rw [Hr.out]; rfl, Hb.out⟩
  · by_cases h2 : k = 2
    · subst h2
      by_cases h3 : 0 ≤ i
      · by_cases h4 : i ≤ 63
        · have Hr := Lib.hid (show mayV ⟨2, i⟩ = true by simp [mayV, h3, h4])
          go_enter Try.func57, Try.ntmps57
          go_wp2
          go_ret
          exact ⟨by rw [Hr.out]; rfl, Hb.out⟩
        · have Hr := Lib.hid (show mayV ⟨2, i⟩ = false by simp [mayV, h4])
          go_enter Try.func57, Try.ntmps57
          go_wp2
          go_ret
          exact ⟨by rw [Hr.out]; rfl, Hb.out⟩
      · have Hr := Lib.hid (show mayV ⟨2, i⟩ = false by simp [mayV, h3])
        go_enter Try.func57, Try.ntmps57
        go_wp2
        go_ret
        exact ⟨by rw [Hr.out]; rfl, Hb.out⟩
    · have Hr := Lib.hid (show mayV ⟨k, i⟩ = false by simp [mayV, h1, h2])
      go_enter Try.func57, Try.ntmps57
      go_wp2
      go_ret
      exact ⟨by rw [Hr.out]; rfl, Hb.out⟩
set_option maxHeartbeats 4000000 in
set_option maxRecDepth 100000 in
theorem refCnt_any (e1 e2 e3 e4 e5 : Int) (w : World) {t : Bool} (ht : cntE ⟨e1, e2, e3, e4, e5⟩ = t) : Calls Try.prog 31 #[.agg #[.int .i64 e1, .int .i64 e2, .int .i64 e3, .int .i64 e4, .int .i64 e5]] w fun r w' => r = .returned (.bool t) ∧ Below w.heap.size w w' := by
  subst ht
  have Hb := Lib.hid ((Below.refl w.heap.size w).alloc (Nat.le_refl _) (.cells #[.int .i64 e1, .int .i64 e2, .int .i64 e3, .int .i64 e4, .int .i64 e5] 42))
  have hk := Blk.new w 42 #[.int .i64 e1, .int .i64 e2, .int .i64 e3, .int .i64 e4, .int .i64 e5]
  obtain ⟨w0, hW0⟩ : ∃ w0, w.alloc (.cells #[.int .i64 e1, .int .i64 e2, .int .i64 e3, .int .i64 e4, .int .i64 e5] 42) = w0 := ⟨_, rfl⟩
  rw [hW0] at hk Hb
  have HK := Lib.hid hk
  obtain ⟨a0, a1, a2, a3, a4, -⟩ := hk.cells5
  clear hk
  obtain ⟨m1, hm1⟩ : ∃ m, mayV ⟨e1, e2⟩ = m := ⟨_, rfl⟩
  obtain ⟨m2, hm2⟩ : ∃ m, mayV ⟨e3, e4⟩ = m := ⟨_, rfl⟩
  have HM1 := Lib.hid (fun W => refMay_any e1 e2 W hm1)
  have HM2 := Lib.hid (fun W => refMay_any e3 e4 W hm2)
  have Hc := Lib.hid (show cntE ⟨e1, e2, e3, e4, e5⟩ = (m1 && m2 && ((decide (e1 = 1) && decide (e3 = 2) && decide (1 ≤ e5 ∧ e5 ≤ 100)) || (decide (e1 = 2) && decide (e3 = 1) && decide (e5 = 0)))) by rw [← hm1, ← hm2]; rfl)
  clear hm1 hm2
  go_enter Try.func31, Try.ntmps31
  go_wp2_with fail
  with_reducible refine Calls.mono (HM1.out _) ?_
  rintro r w1 ⟨rfl, hb1⟩
  have HB1 := Lib.hid (below_trans Hb.out Hb.out.size hb1)
  have HK1 := Lib.hid (HK.out.below hb1 HK.out.lt)
  clear a0 a1 a2 a3 a4 hb1
  obtain ⟨a0, a1, a2, a3, a4, -⟩ := HK1.out.cells5
  cases m1 with
  | false =>
    go_wp2
    go_ret
    exact ⟨by rw [Hc.out]; rfl, HB1.out⟩
  | true =>
    go_wp2_with fail
    with_reducible refine Calls.mono (HM2.out _) ?_
    rintro r w2 ⟨rfl, hb2⟩
    have HB2 := Lib.hid (below_trans HB1.out HB1.out.size hb2)
    have HK2 := Lib.hid (HK1.out.below hb2 HK1.out.lt)
    clear a0 a1 a2 a3 a4 hb2
    obtain ⟨a0, a1, a2, a3, a4, -⟩ := HK2.out.cells5
    cases m2 with
    | false =>
      go_wp2
      go_ret
      exact ⟨by rw [Hc.out]; rfl, HB2.out⟩
    | true =>
      by_cases h1 : e1 = 1
      · subst h1
        by_cases h2 : e3 = 2
        · subst h2
          by_cases h3 : 1 ≤ e5
          · by_cases h4 : e5 ≤ 100
            · have Hr := Lib.hid (Hc.out.trans (c := true) (by simp [h3, h4]))
              go_wp2
              go_ret
              exact ⟨by rw [Hr.out]; rfl, HB2.out⟩
            · have Hr := Lib.hid (Hc.out.trans (c := false) (by simp [h4]))
              have hd4 : decide (e5 ≤ 100) = false := by simp [h4]
              go_wp2
              go_ret
              exact ⟨by rw [Hr.out]; rfl, HB2.out⟩
          · have Hr := Lib.hid (Hc.out.trans (c := false) (by simp [h3]))
            go_wp2
            go_ret
            exact ⟨by rw [Hr.out]; rfl, HB2.out⟩
        · have Hr := Lib.hid (Hc.out.trans (c := false) (by simp [h2]))
          go_wp2
          go_ret
          exact ⟨by rw [Hr.out]; rfl, HB2.out⟩
      · by_cases h2 : e1 = 2
        · subst h2
          by_cases h3 : e3 = 1
          · subst h3
            by_cases h4 : e5 = 0
            · subst h4
              have Hr := Lib.hid (Hc.out.trans (c := true) (by simp))
              go_wp2
              go_ret
              exact ⟨by rw [Hr.out]; rfl, HB2.out⟩
            · have Hr := Lib.hid (Hc.out.trans (c := false) (by simp [h4]))
              have hd4 : (e5 == 0) = false := by simp [h4]
              go_wp2
              go_ret
              exact ⟨by rw [Hr.out]; rfl, HB2.out⟩
          · have Hr := Lib.hid (Hc.out.trans (c := false) (by simp [h3]))
            go_wp2
            go_ret
            exact ⟨by rw [Hr.out]; rfl, HB2.out⟩
        · have Hr := Lib.hid (Hc.out.trans (c := false) (by simp [h1, h2]))
          go_wp2
          go_ret
          exact ⟨by rw [Hr.out]; rfl, HB2.out⟩
/-- where a vertex' row is; -1: there is none -/
def fixV (L : List RowV) (v : Vx) : Int := if ixV v L < L.length then (ixV v L : Int) else -1
theorem ix_take {L : List RowV} {v : Vx} {k : Nat} (hk : k ≤ L.length) (h : ∀ p ∈ L.take k, p.1 ≠ v) : k ≤ ixV v L := by
  unfold ixV
  rcases Nat.lt_or_ge (L.findIdx fun p => decide (p.1 = v)) k with hlt | hge
  · exfalso
    have h1 : L.findIdx (fun p => decide (p.1 = v)) < L.length := by omega
    have h2 := List.findIdx_getElem (p := fun p : RowV => decide (p.1 = v)) (xs := L) (w := h1)
    rw [decide_eq_true_eq] at h2
    refine h _ ?_ h2
    rw [List.mem_take_iff_getElem]
    exact ⟨_, by omega, rfl⟩
  · exact hge
theorem ix_at {L : List RowV} {v : Vx} {k : Nat} (hk : k < L.length) (h : ∀ p ∈ L.take k, p.1 ≠ v) (he : L[k].1 = v) : fixV L v = k := by
  have h1 := ix_take (by omega) h
  have h2 : ixV v L = k := by
    unfold ixV at h1 ⊢
    rcases Nat.lt_or_ge k (L.findIdx fun p => decide (p.1 = v)) with hlt | hge
    · have := List.not_of_lt_findIdx hlt
      simp [he] at this
    · omega
  unfold fixV
  rw [h2, if_pos hk]
theorem ix_not {L : List RowV} {v : Vx} (h : ∀ p ∈ L, p.1 ≠ v) : fixV L v = -1 := by
  have h1 := ix_take (Nat.le_refl _) (by rw [List.take_length]; exact h)
  unfold fixV
  rw [if_neg (by omega)]
theorem notin_more {L : List RowV} {v : Vx} {k : Nat} (hk : k < L.length) (h : ∀ p ∈ L.take k, p.1 ≠ v) (he : L[k].1 ≠ v) : ∀ p ∈ L.take (k + 1), p.1 ≠ v := by
  intro p hp
  rw [List.take_succ_eq_append_getElem hk, List.mem_append, List.mem_singleton] at hp
  rcases hp with hp | rfl
  · exact h p hp
  · exact he
set_option maxHeartbeats 2000000 in
set_option maxRecDepth 100000 in
theorem refFind_any (A : Option Addr) (c : Nat) (L : List RowV) (k1 k2 : Int) (w : World) (hL : RowsAt 4 rcells w w.heap.size A L) (hlen : L.length ≤ 2 ^ 20) (n : Nat) (hn : n = L.length) {z : Int} (hz : fixV L ⟨k1, k2⟩ = z) :
    Calls Try.prog 59 #[.slice A n c, .agg #[.int .i64 k1, .int .i64 k2]] w fun r w' => r = .returned (.int .i64 z) ∧ Below w.heap.size w w' := by
  subst hn
  have HL := Lib.hid (hL.below ((Below.refl w.heap.size w).alloc (Nat.le_refl _) (.cells #[.int .i64 k1, .int .i64 k2] 40)))
  have Hk := Lib.hid (Blk.new w 40 #[.int .i64 k1, .int .i64 k2])
  have Hb0 := Lib.hid ((Below.refl w.heap.size w).alloc (Nat.le_refl _) (.cells #[.int .i64 k1, .int .i64 k2] 40))
  have Hz := Lib.hid hz
  have hk0 := Hk.out.lt
  clear hL hz
  obtain ⟨w0, hW0⟩ : ∃ w0, w.alloc (.cells #[.int .i64 k1, .int .i64 k2] 40) = w0 := ⟨_, rfl⟩
  rw [hW0] at HL Hk Hb0 hk0
  go_enter Try.func59, Try.ntmps59
  go_wp2
  go_loopw [5] (fun i wr => ∃ k : Nat, i = .int .i64 k ∧ k ≤ L.length ∧ (∀ p ∈ L.take k, p.1 ≠ ⟨k1, k2⟩) ∧ Below w0.heap.size w0 wr) (fun i _ => L.length - (intOf i).toNat)
  case atStart => exact ⟨0, rfl, Nat.zero_le _, by simp, Below.refl _ _⟩
  case round =>
    obtain ⟨k, rfl, hk, h0, hb⟩ := hrel
    have hLr := (HL.out.more Hb0.out.size).below hb
    have hkr := Hk.out.below hb hk0
    obtain ⟨y0, y1, -, -⟩ := hkr.cells2
    have H0 := Lib.hid h0
    have Hb := Lib.hid hb
    by_cases hlt : k < L.length
    · obtain ⟨g, o, rfl, -, z0, z1, z2, z3⟩ := row_rw hLr k hlt
      have hkl : (k : Int) < (L.length : Int) := by omega
      have Hat := Lib.hid (fun he => ix_at hlt h0 (v := ⟨k1, k2⟩) he)
      have Hmore := Lib.hid (fun he => notin_more hlt h0 (v := ⟨k1, k2⟩) he)
      clear hLr hkr h0 hb
      generalize L[k] = e at *
      obtain ⟨⟨e1, e2⟩, ⟨e3, e4⟩⟩ := e
      simp only at z0 z1 z2 z3
      have heq := fun w => eqVxN e1 e2 k1 k2 w
      by_cases he : (⟨e1, e2⟩ : Vx) = ⟨k1, k2⟩
      · have Hz2 := Lib.hid ((Hz.out.symm.trans (Hat.out he)))
        rw [decide_eq_true he] at heq
        clear he
        go_wp2
        go_quiet (fail)
        go_wp2
        go_ret
        exact ⟨by rw [Hz2.out]; rfl, below_drewN (Hb0.out.trans (Hb.out.mono Hb0.out.size)) _⟩
      · have Hmore2 := Lib.hid (Hmore.out he)
        rw [decide_eq_false he] at heq
        clear he
        go_wp2
        go_quiet (fail)
        go_wp2
        go_roundw
        case measure => simp [intOf]; omega
        case rel => exact ⟨k + 1, by go_num, hlt, Hmore2.out, below_drewN Hb.out _⟩
    · have hkk : k = L.length := by omega
      subst hkk
      have Hz2 := Lib.hid (Hz.out.symm.trans (ix_not (by rw [List.take_length] at h0; exact h0)))
      clear hLr hkr h0 hb
      go_wp2
      go_ret
      exact ⟨by rw [Hz2.out]; rfl, Hb0.out.trans (Hb.out.mono Hb0.out.size)⟩

end Go.Proofs.Ytpfjgecdlilkcaa

/-
  Layer 21: rows of costs: how large they get; what one edge does, case by case; stored in a row that the call made itself.
-/
namespace Go.Proofs.Ytpfjgecdlilkcaa
open Go.RowKit

def BndR (x : Nat) (L : List RowV) : Prop := ∀ p ∈ L, p.2.c ≤ 100 * x ∧ p.2.h ≤ x
theorem fix_some {L : List RowV} {v : Vx} {a : Val2} (h : getR L v = some a) : ∃ k : Nat, ∃ hk : k < L.length, fixV L v = k ∧ ixV v L = k ∧ L[k] = (v, a) := by
  obtain ⟨hi, e⟩ := ix_lt h
  exact ⟨_, hi, by unfold fixV; rw [if_pos hi], rfl, e⟩
theorem fix_none {L : List RowV} {v : Vx} (h : getR L v = none) : fixV L v = -1 := ix_not (get_none.1 h)
theorem relax_off {L : List RowV} {e : Ed} (h : cntE e = false) : relax L e = L := by unfold relax; rw [h]; rfl
theorem relax_out {L : List RowV} {e : Ed} (h : getR L e.src = none) : relax L e = L := by unfold relax; rw [h]; simp
theorem relax_new {L : List RowV} {e : Ed} {a : Val2} (hc : cntE e = true) (h : getR L e.src = some a) (hd : getR L e.dst = none) : relax L e = L ++ [(e.dst, stepV a e)] := by unfold relax; rw [if_pos hc, h]; simp only; rw [hd]
theorem relax_old {L : List RowV} {e : Ed} {a b : Val2} (hc : cntE e = true) (h : getR L e.src = some a) (hd : getR L e.dst = some b) : relax L e = if lessV (stepV a e) b = true then L.set (ixV e.dst L) (e.dst, stepV a e) else L := by unfold relax; rw [if_pos hc, h]; simp only; rw [hd]
theorem cost_le {e : Ed} (h : cntE e = true) : e.cost.toNat ≤ 100 ∧ (0 ≤ e.cost ∧ e.cost ≤ 100) ∧ hopN e ≤ 1 := by
  obtain ⟨-, -, h⟩ := cntE_iff.1 h
  unfold hopN
  refine ⟨by omega, by omega, ?_⟩
  split <;> omega
theorem BndR.relax {x : Nat} {L : List RowV} (h : BndR x L) (e : Ed) : BndR (x + 1) (relax L e) := by
  have hw : ∀ p ∈ L, p.2.c ≤ 100 * (x + 1) ∧ p.2.h ≤ x + 1 := fun p hp => by have := h p hp; omega
  cases hc : cntE e with
  | false => rw [relax_off hc]; exact hw
  | true =>
    cases h1 : getR L e.src with
    | none => rw [relax_out h1]; exact hw
    | some a =>
      obtain ⟨k, hk, -, -, ha⟩ := fix_some h1
      have hm : (e.src, a) ∈ L := by rw [← ha]; exact List.getElem_mem hk
      have hb := h _ hm
      have hl := cost_le hc
      have hs : (stepV a e).c ≤ 100 * (x + 1) ∧ (stepV a e).h ≤ x + 1 := by
        unfold stepV
        simp only at hb ⊢
        omega
      cases h2 : getR L e.dst with
      | none =>
        rw [relax_new hc h1 h2]
        intro p hp
        rcases List.mem_append.1 hp with hp | hp
        · exact hw p hp
        · rw [List.mem_singleton] at hp
          rw [hp]
          exact hs
      | some b =>
        rw [relax_old hc h1 h2]
        split
        · intro p hp
          rcases List.mem_or_eq_of_mem_set hp with hp | hp
          · exact hw p hp
          · rw [hp]
            exact hs
        · exact hw
theorem BndR.round : ∀ (T : List Ed) {x : Nat} {L : List RowV}, BndR x L → BndR (x + T.length) (roundR T L)
  | [], _, _, h => h
  | e :: T, x, _, h => by
    have := BndR.round T (h.relax e)
    rw [List.length_cons, show x + (T.length + 1) = x + 1 + T.length by omega]
    exact this
theorem BndR.iter (E : List Ed) : ∀ (k : Nat) {x : Nat} {L : List RowV}, BndR x L → BndR (x + k * E.length) (iterR E k L)
  | 0, _, _, h => by rw [Nat.zero_mul]; exact h
  | k + 1, x, _, h => by
    have := BndR.iter E k (h.round E)
    rw [Nat.add_mul, Nat.one_mul, show x + (k * E.length + E.length) = x + E.length + k * E.length by omega]
    exact this
/-- what the rows are when the rounds so far are done, and so many edges of the next one -/
def rowsV (E : List Ed) (r : Vx) (k i : Nat) : List RowV := roundR (E.take i) (iterR E k [(r, ⟨0, 0⟩)])
theorem rowsV_zero (E : List Ed) (r : Vx) (k : Nat) : rowsV E r k 0 = iterR E k [(r, ⟨0, 0⟩)] := rfl
theorem rowsV_last (E : List Ed) (r : Vx) (k : Nat) : rowsV E r k E.length = iterR E (k + 1) [(r, ⟨0, 0⟩)] := by
  unfold rowsV
  rw [List.take_length, iterR_succ]
theorem rowsV_next (E : List Ed) (r : Vx) (k : Nat) {i : Nat} (hi : i < E.length) : rowsV E r k (i + 1) = relax (rowsV E r k i) E[i] := relax_snoc E hi _
theorem rowsV_ok {E : List Ed} {r : Vx} (hr : mayV r = true) (k i : Nat) : (rowsV E r k i).length ≤ 79 :=
  (((RowsOk.start E hr).iter k).round (E.take i)).len (E := E) (r := r)
theorem rowsV_small {E : List Ed} {r : Vx} {k i : Nat} (hk : k ≤ 200) (hi : i ≤ E.length) (hE : E.length ≤ 4000) : ∀ p ∈ rowsV E r k i, p.2.c ≤ 100000000 ∧ p.2.h ≤ 1000000 := by
  have h0 : BndR 0 [(r, (⟨0, 0⟩ : Val2))] := fun p hp => by
    rw [List.mem_singleton] at hp
    rw [hp]
    simp
  have h1 := (h0.iter E k).round (E.take i)
  intro p hp
  have := h1 p hp
  have h2 : k * E.length ≤ 200 * 4000 := Nat.mul_le_mul hk hE
  have h3 : (E.take i).length ≤ 4000 := by rw [List.length_take]; omega
  omega
theorem rowsV_stop {E : List Ed} {r : Vx} {k : Nat} (hk : k ≤ 200) (h : rowsV E r k E.length = iterR E k [(r, ⟨0, 0⟩)]) : iterR E 200 [(r, ⟨0, 0⟩)] = rowsV E r k E.length := by
  rw [h]
  refine iterR_stop hk ?_
  rw [rowsV_last, iterR_succ] at h
  exact h

theorem set_flatRw (l : List RowV) (k : Nat) (c : RowV) (hk : k < l.length) :
    (l.set k c).flatMap rcells = ((((l.flatMap rcells).set (k * 4) (.int .i64 c.1.kind)).set (k * 4 + 1) (.int .i64 c.1.id)).set (k * 4 + 2) (.int .i64 c.2.c)).set (k * 4 + 3) (.int .i64 c.2.h) := by
  induction l generalizing k with
  | nil => simp at hk
  | cons d l ih =>
    cases k with
    | zero => simp [rcells]
    | succ k =>
      have h := ih k (by simpa using hk)
      simp only [List.set_cons_succ, List.flatMap_cons, h]
      have h4 : (rcells d).length = 4 := rfl
      rw [List.set_append_right _ _ (by omega), List.set_append_right _ _ (by omega), List.set_append_right _ _ (by omega), List.set_append_right _ _ (by omega)]
      simp only [h4, show (k + 1) * 4 - 4 = k * 4 by omega, show (k + 1) * 4 + 1 - 4 = k * 4 + 1 by omega, show (k + 1) * 4 + 2 - 4 = k * 4 + 2 by omega, show (k + 1) * 4 + 3 - 4 = k * 4 + 3 by omega]
abbrev OwnRw (w : World) (B : Nat) (v : Value) (l : List RowV) : Prop := OwnR 120 4 rcells w B v l
section
variable {w : World} {B g cap n : Nat} {l : List RowV}
theorem OwnRw.set4 (h : OwnRw w B (.slice (some ⟨g, 0, none⟩) n cap) l) (hn : n = l.length) (k : Nat) (hk : k < l.length) (c : RowV) :
    OwnRw ((((w.setCell ⟨g, k * 4, none⟩ (.int .i64 c.1.kind)).setCell ⟨g, k * 4 + 1, none⟩ (.int .i64 c.1.id)).setCell ⟨g, k * 4 + 2, none⟩ (.int .i64 c.2.c)).setCell ⟨g, k * 4 + 3, none⟩ (.int .i64 c.2.h)) B (.slice (some ⟨g, 0, none⟩) n cap) (l.set k c) := by
  subst hn
  unfold OwnRw OwnR
  rw [set_flatRw l k c hk, List.length_set]
  exact ((((World.ownsRow.stored h (k * 4) (.int .i64 c.1.kind)).1.stored (k * 4 + 1) (.int .i64 c.1.id)).1.stored (k * 4 + 2) (.int .i64 c.2.c)).1.stored (k * 4 + 3) (.int .i64 c.2.h)).1
end
theorem Blk.set4s {w : World} {g : Nat} {t : TypeId} {a b c d : Value} (h : Blk w g t #[a, b, c, d]) (a' b' c' d' : Value) : Blk ((((w.setCell ⟨g, 0, none⟩ a').setCell ⟨g, 1, none⟩ b').setCell ⟨g, 2, none⟩ c').setCell ⟨g, 3, none⟩ d') g t #[a', b', c', d'] := h.set4
theorem below_set4 {B : Nat} {w w' : World} {g j : Nat} (h : Below B w w') (hg : B ≤ g) (a b c d : Value) : Below B w ((((w'.setCell ⟨g, j, none⟩ a).setCell ⟨g, j + 1, none⟩ b).setCell ⟨g, j + 2, none⟩ c).setCell ⟨g, j + 3, none⟩ d) :=
  (((h.setCell (p := ⟨g, j, none⟩) hg _).setCell (p := ⟨g, j + 1, none⟩) hg _).setCell (p := ⟨g, j + 2, none⟩) hg _).setCell (p := ⟨g, j + 3, none⟩) hg _
theorem below_set4z {B : Nat} {w w' : World} {g : Nat} (h : Below B w w') (hg : B ≤ g) (a b c d : Value) : Below B w ((((w'.setCell ⟨g, 0, none⟩ a).setCell ⟨g, 1, none⟩ b).setCell ⟨g, 2, none⟩ c).setCell ⟨g, 3, none⟩ d) :=
  (((h.setCell (p := ⟨g, 0, none⟩) hg _).setCell (p := ⟨g, 1, none⟩) hg _).setCell (p := ⟨g, 2, none⟩) hg _).setCell (p := ⟨g, 3, none⟩) hg _

end Go.Proofs.Ytpfjgecdlilkcaa

/-
  Layer 21 in plain words: the document's hops, row by row of its costs.
-/
namespace Go.Proofs.Ytpfjgecdlilkcaa

/-- each row's hops: in order, just those for which P holds -/
structure HopsOf (R : List RowV) (N : List (List Hp)) (P : Vx → Nat → Hp → Prop) : Prop where
  len : N.length = R.length
  each : ∀ j (hj : j < R.length), (N[j]'(by omega)).Pairwise ltH ∧ ∀ h, h ∈ N[j]'(by omega) ↔ P R[j].1 R[j].2.c h
section
variable {R : List RowV} {N : List (List Hp)} {P P' : Vx → Nat → Hp → Prop}
theorem HopsOf.congr (h : HopsOf R N P) (hp : ∀ p ∈ R, ∀ x, P p.1 p.2.c x ↔ P' p.1 p.2.c x) : HopsOf R N P' :=
  ⟨h.len, fun j hj => ⟨(h.each j hj).1, fun x => ((h.each j hj).2 x).trans (hp _ (List.getElem_mem hj) x)⟩⟩
theorem HopsOf.add (h : HopsOf R N P) (hn : (R.map (·.1)).Nodup) {j : Nat} (hj : j < R.length) (x : Hp) : HopsOf R (N.set j (addHp x (N[j]'(by have := h.len; omega)))) (fun v c y => P v c y ∨ (v = R[j].1 ∧ y = x)) := by
  have hl := h.len
  refine ⟨by rw [List.length_set]; exact hl, fun k hk => ?_⟩
  by_cases hjk : j = k
  · subst hjk
    rw [List.getElem_set_self]
    refine ⟨add_sorted (h.each j hj).1, fun y => ?_⟩
    rw [mem_add, (h.each j hj).2]
    constructor
    · rintro (g | g)
      · exact .inr ⟨rfl, g⟩
      · exact .inl g
    · rintro (g | ⟨-, g⟩)
      · exact .inr g
      · exact .inl g
  · rw [List.getElem_set_ne hjk]
    refine ⟨(h.each k hk).1, fun y => ?_⟩
    rw [(h.each k hk).2]
    constructor
    · exact .inl
    · rintro (g | ⟨g, -⟩)
      · exact g
      · exfalso
        have h1 : (R.map (·.1))[j]'(by simpa using hj) = (R.map (·.1))[k]'(by simpa using hk) := by simp [g]
        exact hjk ((List.getElem_inj hn).1 h1)
theorem HopsOf.start (R : List RowV) : HopsOf R (List.replicate R.length []) (fun _ _ _ => False) :=
  ⟨List.length_replicate, fun j hj => by rw [List.getElem_replicate]; exact ⟨List.Pairwise.nil, by simp⟩⟩
end

/-- a hop right over an edge -/
def Hop1 (r : Vx) (e : Ed) (v : Vx) (c : Nat) (h : Hp) : Prop := cntE e = true ∧ e.src = r ∧ e.dst = v ∧ c = e.cost.toNat ∧ h = ⟨e.ti / 16, 0⟩
/-- a hop over two edges, and by the least cost from there -/
def Hop2 (DD : Vx → Vx → Option Val2) (r : Vx) (e f : Ed) (v : Vx) (c : Nat) (h : Hp) : Prop :=
  cntE e = true ∧ e.src = r ∧ cntE f = true ∧ f.src = e.dst ∧ (∃ b, DD f.dst v = some b ∧ e.cost.toNat + b.c = c) ∧ h = ⟨e.ti / 16, f.ti⟩
/-- behind some of the edges -/
def HopA (E : List Ed) (DD : Vx → Vx → Option Val2) (r : Vx) (X : List Ed) (v : Vx) (c : Nat) (h : Hp) : Prop := ∃ e ∈ X, Hop1 r e v c h ∨ ∃ f ∈ E, Hop2 DD r e f v c h
def HopB (E : List Ed) (DD : Vx → Vx → Option Val2) (r : Vx) (X : List Ed) (e : Ed) (Y : List Ed) (v : Vx) (c : Nat) (h : Hp) : Prop := HopA E DD r X v c h ∨ Hop1 r e v c h ∨ ∃ f ∈ Y, Hop2 DD r e f v c h
def HopC (E : List Ed) (DD : Vx → Vx → Option Val2) (r : Vx) (X : List Ed) (e : Ed) (Y : List Ed) (f : Ed) (V : List Vx) (v : Vx) (c : Nat) (h : Hp) : Prop := HopB E DD r X e Y v c h ∨ (v ∈ V ∧ Hop2 DD r e f v c h)
section
variable {E X Y : List Ed} {r : Vx} {DD : Vx → Vx → Option Val2} {R : List RowV} {N : List (List Hp)} {e f : Ed} {V : List Vx}
theorem hopA_start : HopsOf R (List.replicate R.length []) (HopA E DD r []) := (HopsOf.start R).congr fun p _ x => by simp [HopA]
/-- an edge that does not count, or that begins elsewhere -/
theorem hopA_skip (h : HopsOf R N (HopA E DD r X)) (hc : ¬ (cntE e = true ∧ e.src = r)) : HopsOf R N (HopA E DD r (X ++ [e])) := h.congr fun p _ x => by
  unfold HopA
  constructor
  · rintro ⟨d, hd, g⟩
    exact ⟨d, List.mem_append_left _ hd, g⟩
  · rintro ⟨d, hd, g⟩
    rcases List.mem_append.1 hd with hd | hd
    · exact ⟨d, hd, g⟩
    · rw [List.mem_singleton] at hd
      subst hd
      exfalso
      rcases g with ⟨g1, g2, -⟩ | ⟨f, -, g1, g2, -⟩
      · exact hc ⟨g1, g2⟩
      · exact hc ⟨g1, g2⟩
/-- the edge's own hop is laid -/
theorem hopB_first (h : HopsOf R N (HopA E DD r X)) (hn : (R.map (·.1)).Nodup) (hc : cntE e = true) (hs : e.src = r) {j : Nat} (hj : j < R.length) (hv : R[j].1 = e.dst) (hcost : R[j].2.c = e.cost.toNat) :
    HopsOf R (N.set j (addHp ⟨e.ti / 16, 0⟩ (N[j]'(by have := h.len; omega)))) (HopB E DD r X e []) := (h.add hn hj _).congr fun p hp x => by
  unfold HopB Hop1
  constructor
  · rintro (g | ⟨g1, g2⟩)
    · exact .inl g
    · refine .inr (.inl ⟨hc, hs, by rw [g1, hv], ?_, g2⟩)
      obtain ⟨k, hk, rfl⟩ := List.getElem_of_mem hp
      have h1 : (R.map (·.1))[k]'(by simpa using hk) = (R.map (·.1))[j]'(by simpa using hj) := by simpa using g1
      have := (List.getElem_inj hn).1 h1
      subst this
      exact hcost
  · rintro (g | ⟨-, -, g1, -, g2⟩ | ⟨d, hd, -⟩)
    · exact .inl g
    · exact .inr ⟨by rw [← g1, hv], g2⟩
    · cases hd
theorem hopB_none (h : HopsOf R N (HopA E DD r X)) (hn : (R.map (·.1)).Nodup) {j : Nat} (hj : j < R.length) (hv : R[j].1 = e.dst) (hcost : R[j].2.c ≠ e.cost.toNat) : HopsOf R N (HopB E DD r X e []) := h.congr fun p hp x => by
  unfold HopB Hop1
  constructor
  · exact .inl
  · rintro (g | ⟨-, -, g1, g3, -⟩ | ⟨d, hd, -⟩)
    · exact g
    · exfalso
      obtain ⟨k, hk, rfl⟩ := List.getElem_of_mem hp
      have h1 : (R.map (·.1))[k]'(by simpa using hk) = (R.map (·.1))[j]'(by simpa using hj) := by simpa using (g1.symm.trans hv.symm)
      have := (List.getElem_inj hn).1 h1
      subst this
      exact hcost g3
    · cases hd
theorem hopB_skip (h : HopsOf R N (HopB E DD r X e Y)) (hc : ¬ (cntE f = true ∧ f.src = e.dst)) : HopsOf R N (HopB E DD r X e (Y ++ [f])) := h.congr fun p _ x => by
  unfold HopB
  constructor
  · rintro (g | g | ⟨d, hd, g⟩)
    · exact .inl g
    · exact .inr (.inl g)
    · exact .inr (.inr ⟨d, List.mem_append_left _ hd, g⟩)
  · rintro (g | g | ⟨d, hd, g⟩)
    · exact .inl g
    · exact .inr (.inl g)
    · rcases List.mem_append.1 hd with hd | hd
      · exact .inr (.inr ⟨d, hd, g⟩)
      · rw [List.mem_singleton] at hd
        subst hd
        exact absurd ⟨g.2.2.1, g.2.2.2.1⟩ hc
theorem hopC_start (h : HopsOf R N (HopB E DD r X e Y)) : HopsOf R N (HopC E DD r X e Y f []) := h.congr fun p _ x => by simp [HopC]
/-- a row that is reached at that cost -/
theorem hopC_add (h : HopsOf R N (HopC E DD r X e Y f V)) (hn : (R.map (·.1)).Nodup) (hc : cntE e = true) (hs : e.src = r) (hcf : cntE f = true) (hsf : f.src = e.dst) {j : Nat} (hj : j < R.length) {b : Val2} (hb : DD f.dst R[j].1 = some b) (hcost : e.cost.toNat + b.c = R[j].2.c) :
    HopsOf R (N.set j (addHp ⟨e.ti / 16, f.ti⟩ (N[j]'(by have := h.len; omega)))) (HopC E DD r X e Y f (V ++ [R[j].1])) := (h.add hn hj _).congr fun p hp x => by
  unfold HopC
  constructor
  · rintro ((g | ⟨g1, g2⟩) | ⟨g1, g2⟩)
    · exact .inl g
    · exact .inr ⟨List.mem_append_left _ g1, g2⟩
    · refine .inr ⟨by rw [g1]; simp, hc, hs, hcf, hsf, ?_, g2⟩
      obtain ⟨k, hk, rfl⟩ := List.getElem_of_mem hp
      have h1 : (R.map (·.1))[k]'(by simpa using hk) = (R.map (·.1))[j]'(by simpa using hj) := by simpa using g1
      have := (List.getElem_inj hn).1 h1
      subst this
      exact ⟨b, hb, hcost⟩
  · rintro (g | ⟨g1, g2⟩)
    · exact .inl (.inl g)
    · rcases List.mem_append.1 g1 with g1 | g1
      · exact .inl (.inr ⟨g1, g2⟩)
      · rw [List.mem_singleton] at g1
        exact .inr ⟨g1, g2.2.2.2.2.2⟩
theorem hopC_not (h : HopsOf R N (HopC E DD r X e Y f V)) (hn : (R.map (·.1)).Nodup) {j : Nat} (hj : j < R.length) (hcost : ∀ b, DD f.dst R[j].1 = some b → e.cost.toNat + b.c ≠ R[j].2.c) : HopsOf R N (HopC E DD r X e Y f (V ++ [R[j].1])) := h.congr fun p hp x => by
  unfold HopC
  constructor
  · rintro (g | ⟨g1, g2⟩)
    · exact .inl g
    · exact .inr ⟨List.mem_append_left _ g1, g2⟩
  · rintro (g | ⟨g1, g2⟩)
    · exact .inl g
    · rcases List.mem_append.1 g1 with g1 | g1
      · exact .inr ⟨g1, g2⟩
      · rw [List.mem_singleton] at g1
        exfalso
        obtain ⟨k, hk, rfl⟩ := List.getElem_of_mem hp
        have h1 : (R.map (·.1))[k]'(by simpa using hk) = (R.map (·.1))[j]'(by simpa using hj) := by simpa using g1
        have := (List.getElem_inj hn).1 h1
        subst this
        obtain ⟨-, -, -, -, ⟨b, hb, hc⟩, -⟩ := g2
        exact hcost b hb hc
theorem hopC_end (h : HopsOf R N (HopC E DD r X e Y f (R.map (·.1)))) : HopsOf R N (HopB E DD r X e (Y ++ [f])) := h.congr fun p hp x => by
  unfold HopC HopB
  constructor
  · rintro ((g | g | ⟨d, hd, g⟩) | ⟨-, g⟩)
    · exact .inl g
    · exact .inr (.inl g)
    · exact .inr (.inr ⟨d, List.mem_append_left _ hd, g⟩)
    · exact .inr (.inr ⟨f, by simp, g⟩)
  · rintro (g | g | ⟨d, hd, g⟩)
    · exact .inl (.inl g)
    · exact .inl (.inr (.inl g))
    · rcases List.mem_append.1 hd with hd | hd
      · exact .inl (.inr (.inr ⟨d, hd, g⟩))
      · rw [List.mem_singleton] at hd
        subst hd
        exact .inr ⟨List.mem_map.2 ⟨p, hp, rfl⟩, g⟩
theorem hopB_end (h : HopsOf R N (HopB E DD r X e E)) : HopsOf R N (HopA E DD r (X ++ [e])) := h.congr fun p hp x => by
  unfold HopB HopA
  constructor
  · rintro (⟨d, hd, g⟩ | g | ⟨d, hd, g⟩)
    · exact ⟨d, List.mem_append_left _ hd, g⟩
    · exact ⟨e, by simp, .inl g⟩
    · exact ⟨e, by simp, .inr ⟨d, hd, g⟩⟩
  · rintro ⟨d, hd, g⟩
    rcases List.mem_append.1 hd with hd | hd
    · exact .inl ⟨d, hd, g⟩
    · rw [List.mem_singleton] at hd
      subst hd
      rcases g with g | g
      · exact .inr (.inl g)
      · exact .inr (.inr g)
end
/-- a row's value and hops -/
def rowT (R : List RowV) (N : List (List Hp)) (v : Vx) : Option (Val2 × List Hp) := (getR R v).map fun a => (a, N.getD (ixV v R) [])
theorem tree_of_rows {E : List Ed} {r : Vx} {DD : Vx → Vx → Option Val2} {N : List (List Hp)} (hD : Dists E DD) (hm : mayV r = true) (h : HopsOf (iterR E 200 [(r, ⟨0, 0⟩)]) N (HopA E DD r E)) : TreeIs E DD r (nodesO (rowT (iterR E 200 [(r, ⟨0, 0⟩)]) N) ordV) := by
  have hc := costs_dist (hD r)
  refine tree_of_ord hD hm ?_ ?_
  · intro v
    rw [← hc]
    unfold rowT
    rw [Option.map_map]
    cases getR (iterR E 200 [(r, ⟨0, 0⟩)]) v <;> rfl
  · intro v a n hv
    unfold rowT at hv
    obtain ⟨a', ha, e⟩ := Option.map_eq_some_iff.1 hv
    injection e with e1 e2
    subst e1
    obtain ⟨hi, hx⟩ := ix_lt ha
    have hl := h.len
    obtain ⟨h1, h2⟩ := h.each _ hi
    have hn : N[ixV v (iterR E 200 [(r, ⟨0, 0⟩)])]'(by omega) = n := by
      rw [← e2, List.getD_eq_getElem?_getD, List.getElem?_eq_getElem (by omega)]
      rfl
    rw [hn] at h1 h2
    rw [hx] at h2
    refine ⟨h1, fun x => (h2 x).trans ?_⟩
    rw [hc] at ha
    unfold HopA isHop Hop1 Hop2
    constructor
    · rintro ⟨e, he, ⟨g1, g2, g3, g4, g5⟩ | ⟨f, hf, g1, g2, g3, g4, ⟨b, g5, g6⟩, g7⟩⟩
      · exact ⟨e, he, g1, g2, _, ha, .inl ⟨g3, g4, g5⟩⟩
      · exact ⟨e, he, g1, g2, _, ha, .inr ⟨f, hf, g3, g4, b, g5, g6, g7⟩⟩
    · rintro ⟨e, he, g1, g2, a2, ha2, g⟩
      rw [ha] at ha2
      cases ha2
      rcases g with ⟨g3, g4, g5⟩ | ⟨f, hf, g3, g4, b, g5, g6, g7⟩
      · exact ⟨e, he, .inl ⟨g1, g2, g3, g4, g5⟩⟩
      · exact ⟨e, he, .inr ⟨f, hf, g1, g2, g3, g4, ⟨b, g5, g6⟩, g7⟩⟩

end Go.Proofs.Ytpfjgecdlilkcaa
