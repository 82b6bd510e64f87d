/-
  Layer 21: the edges by the vertices from which they go: rows of the call's own in a map of its own.
-/
import Derived.Shelf.SlGeneric
import Derived.Shelf.SlSortCmp.NoneTotal
import Derived.Ground.SlsfProg
import Derived.Test.YtpfjgecdlilkcaaProg
import Derived.Test.YtpfjgecdlilkcaaBae
import Derived.Test.YtpfjgecdlilkcaaBak
import Derived.Test.YtpfjgecdlilkcaaBal
namespace Go.Proofs.Ytpfjgecdlilkcaa
open Go.RowKit

abbrev EdR := Value × List Ed
abbrev EdG := List (Vx × EdR)
def edV (G : EdG) : List (Vx × Value) := G.map fun e => (e.1, e.2.1)
def getG (v : Vx) : EdG → Option EdR
  | [] => none
  | e :: G => if e.1 = v then some e.2 else getG v G
def setG (v : Vx) (x : EdR) : EdG → EdG
  | [] => [(v, x)]
  | e :: G => if e.1 = v then (v, x) :: G else e :: setG v x G
theorem getL_edV (v : Vx) : ∀ G : EdG, getL v (edV G) = (getG v G).map (·.1)
  | [] => rfl
  | e :: G => by
    have ih := getL_edV v G
    simp only [edV, List.map_cons] at ih ⊢
    unfold getL getG
    by_cases h : e.1 = v
    · rw [if_pos h, if_pos h]; rfl
    · rw [if_neg h, if_neg h]; exact ih
theorem setL_edV (v : Vx) (x : EdR) : ∀ G : EdG, setL v x.1 (edV G) = edV (setG v x G)
  | [] => rfl
  | e :: G => by
    have ih := setL_edV v x G
    simp only [edV, List.map_cons] at ih ⊢
    unfold setL setG
    by_cases h : e.1 = v
    · rw [if_pos h, if_pos h]; rfl
    · rw [if_neg h, if_neg h, ih]; rfl
theorem setL_twice {κ : Type} [DecidableEq κ] (k : κ) (a b : Value) : ∀ L : List (κ × Value), setL k a (setL k b L) = setL k a L
  | [] => by simp [setL]
  | e :: L => by
    have ih := setL_twice k a b L
    by_cases h : e.1 = k
    · simp [setL, h]
    · simp [setL, h, ih]
theorem getG_set (u v : Vx) (x : EdR) : ∀ G : EdG, getG u (setG v x G) = if u = v then some x else getG u G
  | [] => by
    unfold setG getG
    by_cases h : u = v
    · simp [h]
    · simp [h, Ne.symm h, getG]
  | e :: G => by
    have ih := getG_set u v x G
    unfold setG
    by_cases h1 : e.1 = v
    · rw [if_pos h1]
      by_cases h2 : u = v
      · simp [getG, h2]
      · have h3 : ¬ e.1 = u := fun e' => h2 (by rw [← e', h1])
        have h4 : ¬ v = u := fun e' => h2 e'.symm
        simp [getG, h2, h3, h4]
    · rw [if_neg h1]
      unfold getG
      by_cases h2 : e.1 = u
      · have h3 : ¬ u = v := fun e' => h1 (by rw [h2, e'])
        simp [h2, h3]
      · simp [h2, ih]
theorem getG_mem {v : Vx} {x : EdR} : ∀ {G : EdG}, getG v G = some x → (v, x) ∈ G
  | [], h => by cases h
  | e :: G, h => by
    unfold getG at h
    by_cases he : e.1 = v
    · rw [if_pos he] at h
      cases h
      subst he
      simp
    · rw [if_neg he] at h
      exact List.mem_cons_of_mem _ (getG_mem h)
theorem getG_of_mem {v : Vx} {x : EdR} : ∀ {G : EdG}, (G.map (·.1)).Nodup → (v, x) ∈ G → getG v G = some x
  | [], _, h => by simp at h
  | e :: G, hn, h => by
    simp only [List.map_cons, List.nodup_cons] at hn
    unfold getG
    rcases List.mem_cons.1 h with rfl | h
    · simp
    · have : e.1 ≠ v := fun he => hn.1 (by rw [he]; exact List.mem_map.2 ⟨_, h, rfl⟩)
      rw [if_neg this]
      exact getG_of_mem hn.2 h
theorem keysG (G : EdG) : (edV G).map (·.1) = G.map (·.1) := by
  unfold edV
  rw [List.map_map]
  rfl
theorem mem_setG {v : Vx} {x : EdR} {G : EdG} (hn : (G.map (·.1)).Nodup) {e : Vx × EdR} (he : e ∈ setG v x G) : e = (v, x) ∨ (e ∈ G ∧ e.1 ≠ v) := by
  have hk : ((setG v x G).map (·.1)).Nodup := by
    have := (setL_keys (k := v) (v := x.1) (L := edV G) (by rw [keysG]; exact hn)).1
    rw [setL_edV, keysG] at this
    exact this
  have h1 := getG_of_mem hk (v := e.1) (x := e.2) he
  rw [getG_set] at h1
  by_cases hv : e.1 = v
  · rw [if_pos hv] at h1
    cases h1
    exact .inl (Prod.ext hv rfl)
  · rw [if_neg hv] at h1
    exact .inr ⟨getG_mem h1, hv⟩
theorem own_ne_map {α κ : Type} {e : TypeId} {C b B : Nat} {cells : α → List Value} {enc : κ → Value} {w : World} {v : Value} {L : List α} {M : List (κ × Value)} (ho : OwnR e C cells w B v L) (hm : MapAt enc w b M) : v.ownBlock = none ∨ v.ownBlock ≠ some b := by
  rcases ho.2 with ⟨g', -⟩ | ⟨g', cap, cur, h1, h2, h3, h4⟩
  · rw [g']; exact .inl rfl
  · right
    rw [h1]
    intro e'
    have e2 : g' = b := by injection e'
    obtain ⟨es, clock, h5, -⟩ := hm
    rw [e2, h5] at h3
    cases h3
abbrev OwnE (w : World) (B : Nat) (v : Value) (L : List Ed) : Prop := OwnR 42 5 Ed.cells w B v L
structure EdgAt (w : World) (B be : Nat) (G : EdG) : Prop where
  map : MapAt Vx.enc w be (edV G)
  base : B ≤ be
  own : ∀ e ∈ G, OwnE w B e.2.1 e.2.2
  apart : ∀ e ∈ G, ∀ e' ∈ G, e.1 ≠ e'.1 → e.2.1.ownBlock = none ∨ e.2.1.ownBlock ≠ e'.2.1.ownBlock
/-- what they say: of the edges so far those that count, by where they begin -/
def EdgOf (E : List Ed) (G : EdG) : Prop := ∀ v, ((getG v G).map (·.2)).getD [] = E.filter fun e => cntE e && decide (e.src = v)
section
variable {w w' w1 w2 w3 : World} {B be : Nat} {G : EdG} {E : List Ed}
theorem EdgAt.keys (h : EdgAt w B be G) : (G.map (·.1)).Nodup := by
  have := h.map.nodup
  rw [keysG] at this
  exact this
theorem EdgAt.below (h : EdgAt w B be G) (hb : Below w.heap.size w w') : EdgAt w' B be G := ⟨h.map.below hb h.map.lt, h.base, fun e he => (h.own e he).below hb, h.apart⟩
/-- what turns but places and the map of them leaves the edges as they are -/
theorem EdgAt.mv {bf : Nat} {F : Fnd} (h : EdgAt w B be G) (hm : Mv B bf w w') (hne : be ≠ bf) (hf : MapAt Vx.enc w bf (valsF F)) : EdgAt w' B be G := ⟨hm.map h.map hne, h.base, fun e he => hm.own (h.own e he) (by decide) hf, h.apart⟩
theorem edgOf_nil : EdgOf [] [] := fun _v => rfl
theorem edgOf_skip (h : EdgOf E G) {e : Ed} (hc : cntE e = false) : EdgOf (E ++ [e]) G := fun v => by rw [h v, List.filter_append]; simp [hc]
theorem edgOf_put (h : EdgOf E G) {e : Ed} (hc : cntE e = true) {v' : Value} : EdgOf (E ++ [e]) (setG e.src (v', ((getG e.src G).map (·.2)).getD [] ++ [e]) G) := fun v => by
  rw [getG_set, List.filter_append]
  by_cases hv : v = e.src
  · subst hv
    rw [if_pos rfl, ← h e.src]
    simp [hc]
  · rw [if_neg hv, h v]
    simp [Ne.symm hv]
/-- one more edge in its row -/
theorem EdgAt.put (h : EdgAt w B be G) {k : Vx} {x0 : EdR} (hx0 : (getG k G).getD (.slice none 0 0, []) = x0) {st : Nat} (he : EntryAt Vx.enc w1 be (setL k x0.1 (edV G)) k st) (hg1 : w.grownBy w1 (some be)) {x : EdR} (ho : OwnE w2 B x.1 x.2) (hg2 : w1.grownBy w2 x0.1.ownBlock) (hor : x.1.ownBlock = x0.1.ownBlock ∨ x.1.ownBlock = some w1.heap.size)
    (hm : MapAt Vx.enc w3 be (setL k x.1 (setL k x0.1 (edV G)))) (hg3 : w2.grownBy w3 (some be)) (_hB : B ≤ w.heap.size) : EdgAt w3 B be (setG k x G) := by
  rw [setL_twice, setL_edV] at hm
  have hno : ∀ e ∈ G, e.1 ≠ k → e.2.1.ownBlock = none ∨ e.2.1.ownBlock ≠ x0.1.ownBlock := by
    intro e hm1 hne
    cases hg : getG k G with
    | none =>
      rw [hg] at hx0
      simp only [Option.getD] at hx0
      subst hx0
      cases hv : e.2.1.ownBlock with
      | none => exact .inl rfl
      | some b => exact .inr (by simp [Value.ownBlock])
    | some y =>
      rw [hg] at hx0
      simp only [Option.getD] at hx0
      subst hx0
      exact h.apart e hm1 _ (getG_mem hg) hne
  have hol : ∀ e ∈ G, e.1 ≠ k → OwnE w2 B e.2.1 e.2.2 := fun e hm1 hne => OwnR.kept (OwnR.kept (h.own e hm1) hg1 (own_ne_map (h.own e hm1) h.map)) hg2 (hno e hm1 hne)
  have hm2 := (he.grown hg2 (fun e => by
    rcases hv : x0.1.ownBlock with _ | b
    · rw [hv] at e; cases e
    · cases hg : getG k G with
      | none =>
        rw [hg] at hx0
        simp only [Option.getD] at hx0
        rw [← hx0] at hv
        cases hv
      | some y =>
        rw [hg] at hx0
        simp only [Option.getD] at hx0
        subst hx0
        rcases own_ne_map (h.own _ (getG_mem hg)) h.map with g | g
        · rw [g] at e; cases e
        · exact g e.symm)).map
  refine ⟨hm, h.base, ?_, ?_⟩
  · intro e hm1
    rcases mem_setG h.keys hm1 with rfl | ⟨hm1, hne⟩
    · exact OwnR.kept ho hg3 (own_ne_map ho hm2)
    · exact OwnR.kept (hol e hm1 hne) hg3 (own_ne_map (hol e hm1 hne) hm2)
  · intro e hm1 e' hm1' hee
    rcases mem_setG h.keys hm1 with rfl | ⟨hm1, hne⟩ <;> rcases mem_setG h.keys hm1' with rfl | ⟨hm1', hne'⟩
    · exact absurd rfl hee
    · rcases hor with e1 | e1
      · rcases hno e' hm1' hne' with g | g
        · cases hv : x.1.ownBlock with
          | none => exact .inl rfl
          | some b => right; rw [g]; simp
        · right
          simp only
          rw [e1]
          exact fun q => g q.symm
      · right
        simp only
        rw [e1]
        intro q
        have := ((h.own e' hm1').block _ q.symm).2
        have := hg1.size
        omega
    · rcases hor with e1 | e1
      · rcases hno e hm1 hne with g | g
        · exact .inl g
        · right; simp only; rw [e1]; exact g
      · right
        simp only
        rw [e1]
        intro q
        have := ((h.own e hm1).block _ q).2
        have := hg1.size
        omega
    · exact h.apart e hm1 e' hm1' hee
end

end Go.Proofs.Ytpfjgecdlilkcaa

/-
  Layer 21: the search's rounds, by what is found (places apart).
-/
namespace Go.Proofs.Ytpfjgecdlilkcaa
open Go.RowKit

structure DjSt (E : List Ed) (r : Vx) (F : Fnd) (O : List Vx) (Z : List Ed) : Prop where
  dij : Dij E r O Z (tabF F)
  dn : ∀ v x, getF v F = some x → (x.done = true ↔ v ∈ O)
  all : ∀ e ∈ E, cntE e = true → e.src ∈ O → e ∈ Z
/-- in the midst of the edges of u -/
structure DjIn (E : List Ed) (r : Vx) (F : Fnd) (O : List Vx) (Z : List Ed) (u : Vx) (p : Pl) : Prop where
  dij : Dij E r O Z (tabF F)
  dn : ∀ v x, getF v F = some x → (x.done = true ↔ v ∈ O)
  at_ : tabF F u = some p
  mem : u ∈ O
  last : ∀ v q, v ∈ O → tabF F v = some q → rankV v q.a ≤ rankV u p.a
  room : p.a.c + 100 ≤ 100 * O.length ∧ p.a.h + 1 ≤ O.length
section
variable {E : List Ed} {r u : Vx} {F F' : Fnd} {O : List Vx} {Z : List Ed} {p : Pl}
theorem tabF_get {v : Vx} {q : Pl} (h : tabF F v = some q) : ∃ x, getF v F = some x ∧ x.pl = q := by
  unfold tabF at h
  obtain ⟨x, hx, e⟩ := Option.map_eq_some_iff.1 h
  exact ⟨x, hx, e⟩
theorem DjSt.start (hr : mayV r = true) {x : PlW} (hx : x.pl = ⟨⟨0, 0⟩, []⟩) (hd : x.done = false) : DjSt E r (setF r x []) [] [] where
  dij := Dij.start hr fun v => by
    rw [tabF_set, hx]
    rfl
  dn := fun v y hy => by
    rw [getF_set] at hy
    by_cases hv : v = r
    · rw [if_pos hv] at hy
      cases hy
      simp [hd]
    · rw [if_neg hv] at hy
      cases hy
  all := fun e _ _ h => by cases h
theorem DjSt.may (h : DjSt E r F O Z) (hk : (F.map (·.1)).Nodup) : ∀ e ∈ F, mayV e.1 = true := fun e he => h.dij.may _ _ (tabF_some (getF_of_mem (v := e.1) (x := e.2) hk he))
theorem DjSt.low (h : DjSt E r F O Z) (hk : (F.map (·.1)).Nodup) : ∀ e ∈ F, e.2.pl.a.c ≤ 100000 := fun e he => by
  have := (h.dij.low (tabF_some (getF_of_mem (v := e.1) (x := e.2) hk he))).1
  omega
theorem DjIn.low (h : DjIn E r F O Z u p) (hr : r.kind = 1) {v : Vx} {x : PlW} (hx : getF v F = some x) : x.pl.a.c ≤ 100000 ∧ x.pl.a.h ≤ 1000 ∧ x.pl.next.length ≤ 2 ^ 16 := by
  have h1 := h.dij.low (tabF_some hx)
  have h2 := h.dij.few hr (tabF_some hx)
  omega
theorem tabF_done {x : PlW} (hu : getF u F = some x) (d : Bool) : tabF (setF u ⟨x.p, x.A, x.c, x.pl, d⟩ F) = tabF F := by
  funext v
  rw [tabF_set]
  by_cases hv : v = u
  · rw [if_pos hv, hv, tabF_some hu]
  · rw [if_neg hv]
theorem DjSt.pick (h : DjSt E r F O Z) (hk : (F.map (·.1)).Nodup) {x : PlW} (hb : BestOf F (some (u, x))) : DjIn E r (setF u ⟨x.p, x.A, x.c, x.pl, true⟩ F) (O ++ [u]) Z u x.pl := by
  obtain ⟨hm, hd, hmin⟩ := hb
  have hu : getF u F = some x := getF_of_mem hk hm
  have ht := tabF_done hu true
  have hno : u ∉ O := fun g => by
    have := (h.dn u x hu).2 g
    simp only at hd
    rw [hd] at this
    cases this
  have hsm := h.dij.small _ _ (tabF_some hu)
  have hpk := h.dij.pick (tabF_some hu) hno (fun v q hv hq => by
    obtain ⟨y, hy, rfl⟩ := tabF_get hq
    refine hmin (v, y) (getF_mem hy) ?_
    cases hyd : y.done with
    | false => simp only
    | true => exact absurd ((h.dn v y hy).1 hyd) hv)
  refine ⟨by rw [ht]; exact hpk, ?_, by rw [ht]; exact tabF_some hu, by simp, ?_, ?_⟩
  · intro v y hy
    rw [getF_set] at hy
    by_cases hv : v = u
    · rw [if_pos hv] at hy
      cases hy
      simp [hv]
    · rw [if_neg hv] at hy
      rw [h.dn v y hy, List.mem_append, List.mem_singleton]
      constructor
      · exact .inl
      · rintro (g | g)
        · exact g
        · exact absurd g hv
  · intro v q hv hq
    rw [ht] at hq
    rcases List.mem_append.1 hv with hv | hv
    · exact h.dij.order v q u x.pl hv hq hno (tabF_some hu)
    · rw [List.mem_singleton] at hv
      subst hv
      rw [tabF_some hu] at hq
      cases hq
      exact Nat.le_refl _
  · rw [List.length_append, List.length_singleton]
    omega
theorem DjIn.step (h : DjIn E r F O Z u p) {e : Ed} (he : e ∈ E) (hc : cntE e = true) (hs : e.src = u) (hr : r.kind = 1) (hst : StepF r F F' e p) : DjIn E r F' O (Z ++ [e]) u p := by
  obtain ⟨h1, h2, h3⟩ := h.dij.step h.at_ h.mem h.last h.room he hc hs hr hst.tab
  refine ⟨h1, ?_, h2, h.mem, fun v q hv hq => h.last v q hv (by rw [← h3 v hv]; exact hq), h.room⟩
  intro v x hx
  by_cases hv : v = e.dst
  · subst hv
    obtain ⟨y', hy', hcase⟩ := hst.dst
    rw [hx] at hy'
    cases hy'
    rcases hcase with ⟨y, hy, hd⟩ | ⟨hd, hlt⟩
    · rw [hd]; exact h.dn _ y hy
    · rw [hd]
      constructor
      · intro g; cases g
      · intro g
        exfalso
        obtain ⟨q, hq⟩ := h.dij.had _ g
        obtain ⟨y, hy, rfl⟩ := tabF_get hq
        have h4 := hlt y hy
        have h5 := h.last _ _ g hq
        have h6 := rank_step hc p.a
        rw [hs] at h6
        unfold rankV stepV at *
        simp only at h5 h6
        omega
  · rw [hst.oth v hv] at hx
    exact h.dn v x hx
theorem DjIn.ends (h : DjIn E r F O Z u p) {O' : List Vx} (hO : O = O' ++ [u]) (h1 : ∀ e ∈ E, cntE e = true → e.src ∈ O' → e ∈ Z) (h2 : ∀ e ∈ E, cntE e = true → e.src = u → e ∈ Z) : DjSt E r F O Z := by
  refine ⟨h.dij, h.dn, fun e he hc hm => ?_⟩
  rw [hO] at hm
  rcases List.mem_append.1 hm with hm | hm
  · exact h1 e he hc hm
  · rw [List.mem_singleton] at hm
    exact h2 e he hc hm
/-- all is done: what is found is the tree -/
theorem DjSt.tree (h : DjSt E r F O Z) (hk : (F.map (·.1)).Nodup) (hb : BestOf F none) {DD : Vx → Vx → Option Val2} (hD : Dists E DD) (hr : r.kind = 1) {L : List Nk} (hs : L.Pairwise fun x y => ltX x.v y.v) (hL : ∀ n, n ∈ L ↔ ∃ e ∈ F, n = ⟨e.1, e.2.pl.a, e.2.pl.next⟩) : TreeIs E DD r L := by
  have hall : ∀ v q, tabF F v = some q → v ∈ O := fun v q hq => by
    obtain ⟨x, hx, rfl⟩ := tabF_get hq
    exact (h.dn v x hx).1 (hb _ (getF_mem hx))
  refine tree_of_dij h.dij hall h.all hD hr hs ?_ ?_
  · intro n hn
    obtain ⟨e, he, rfl⟩ := (hL n).1 hn
    exact tabF_some (getF_of_mem (v := e.1) (x := e.2) hk he)
  · intro v q hq
    obtain ⟨x, hx, rfl⟩ := tabF_get hq
    exact ⟨⟨v, x.pl.a, x.pl.next⟩, (hL _).2 ⟨(v, x), getF_mem hx, rfl⟩, rfl⟩
end

end Go.Proofs.Ytpfjgecdlilkcaa

/-
  The library's slices.SortFunc, laid at this program: written by lay-plain.mjs of the kit.
-/
namespace Go.Proofs
open Go.Shelf
def Try.sortNode_ren : Go.Shelf.Ren := ⟨fun | 6 => 54 | 15 => 64 | 14 => 76 | 28 => 85 | 29 => 86 | 20 => 100 | 21 => 101 | 22 => 102 | 23 => 103 | 24 => 104 | 25 => 105 | 26 => 106 | 27 => 107 | 46 => 119 | 47 => 109 | 48 => 110 | 49 => 120 | 50 => 121 | 57 => 132 | n => n, fun | 22 => 53 | 24 => 59 | 25 => 113 | 3 => 3 | 39 => 69 | 0 => 0 | 53 => 143 | 55 => 145 | 4 => 4 | 46 => 137 | 45 => 136 | 50 => 82 | 5 => 5 | 9 => 9 | 66 => 160 | 70 => 164 | 76 => 173 | 77 => 174 | n => n, fun | n => n⟩
theorem Try.sortNode : Go.Proofs.SlLaysF0.n6 Try.prog Try.sortNode_ren := {
  mixed := by kernel_rfl
  f6 := ⟨Try.f54.name, by decide, Try.func54.trans (congrArg some (by kernel_rfl))⟩
  f14 := ⟨Try.f76.name, by decide, Try.func76.trans (congrArg some (by kernel_rfl))⟩
  f15 := Try.func64.trans (congrArg some (by kernel_rfl))
  f20 := ⟨Try.f100.name, by decide, Try.func100.trans (congrArg some (by kernel_rfl))⟩
  f21 := ⟨Try.f101.name, by decide, Try.func101.trans (congrArg some (by kernel_rfl))⟩
  f22 := ⟨Try.f102.name, by decide, Try.func102.trans (congrArg some (by kernel_rfl))⟩
  f23 := ⟨Try.f103.name, by decide, Try.func103.trans (congrArg some (by kernel_rfl))⟩
  f24 := ⟨Try.f104.name, by decide, Try.func104.trans (congrArg some (by kernel_rfl))⟩
  f25 := ⟨Try.f105.name, by decide, Try.func105.trans (congrArg some (by kernel_rfl))⟩
  f26 := ⟨Try.f106.name, by decide, Try.func106.trans (congrArg some (by kernel_rfl))⟩
  f27 := ⟨Try.f107.name, by decide, Try.func107.trans (congrArg some (by kernel_rfl))⟩
  f28 := Try.func85.trans (congrArg some (by kernel_rfl))
  f29 := Try.func86.trans (congrArg some (by kernel_rfl))
  f46 := ⟨Try.f119.name, by decide, Try.func119.trans (congrArg some (by kernel_rfl))⟩
  f47 := Try.func109.trans (congrArg some (by kernel_rfl))
  f48 := Try.func110.trans (congrArg some (by kernel_rfl))
  f49 := ⟨Try.f120.name, by decide, Try.func120.trans (congrArg some (by kernel_rfl))⟩
  f50 := ⟨Try.f121.name, by decide, Try.func121.trans (congrArg some (by kernel_rfl))⟩
  f57 := ⟨Try.f132.name, by decide, Try.func132.trans (congrArg some (by kernel_rfl))⟩
  t0 := Try.underlying0
  a0 := Try.isAgg0
  z0 := Try.sizeOf0
  v0 := Try.zeroValue0
  t3 := Try.underlying3
  a3 := Try.isAgg3
  z3 := Try.sizeOf3
  v3 := Try.zeroValue3
  t4 := Try.underlying4
  a4 := Try.isAgg4
  z4 := Try.sizeOf4
  v4 := Try.zeroValue4
  t5 := Try.underlying5
  a5 := Try.isAgg5
  z5 := Try.sizeOf5
  v5 := Try.zeroValue5
  t9 := Try.underlying9
  a9 := Try.isAgg9
  z9 := Try.sizeOf9
  v9 := Try.zeroValue9
  t22 := Try.underlying53
  a22 := Try.isAgg53
  z22 := Try.sizeOf53
  v22 := Try.zeroValue53
  t25 := Try.underlying113
  a25 := Try.isAgg113
  z25 := Try.sizeOf113
  v25 := Try.zeroValue113
  t39 := Try.underlying69
  a39 := Try.isAgg69
  z39 := Try.sizeOf69
  v39 := Try.zeroValue69
  t45 := Try.underlying136
  a45 := Try.isAgg136
  z45 := Try.sizeOf136
  v45 := Try.zeroValue136
  t46 := Try.underlying137
  a46 := Try.isAgg137
  z46 := Try.sizeOf137
  v46 := Try.zeroValue137
  t50 := Try.underlying82
  a50 := Try.isAgg82
  z50 := Try.sizeOf82
  v50 := Try.zeroValue82
  t53 := Try.underlying143
  a53 := Try.isAgg143
  z53 := Try.sizeOf143
  v53 := Try.zeroValue143
  t55 := Try.underlying145
  a55 := Try.isAgg145
  z55 := Try.sizeOf145
  v55 := Try.zeroValue145
  t66 := Try.underlying160
  a66 := Try.isAgg160
  z66 := Try.sizeOf160
  v66 := Try.zeroValue160
  t70 := Try.underlying164
  a70 := Try.isAgg164
  z70 := Try.sizeOf164
  v70 := Try.zeroValue164
  t76 := Try.underlying173
  a76 := Try.isAgg173
  z76 := Try.sizeOf173
  v76 := Try.zeroValue173
  t77 := Try.underlying174
  a77 := Try.isAgg174
  z77 := Try.sizeOf174
  v77 := Try.zeroValue174 }
end Go.Proofs

/-
  Layer 21: nodes in memory; how they are compared; sorted.
-/
namespace Go.Proofs.Ytpfjgecdlilkcaa
open Go.RowKit Go.Sort Go.Proofs

/-- a node as it lies in memory -/
structure NodeM where
  v : Vx
  a : Val2
  A : Option Addr
  c : Nat
  next : List Hp
def NodeM.nk (x : NodeM) : Nk := ⟨x.v, x.a, x.next⟩
def NodeM.nv (x : NodeM) : Value := .slice x.A x.next.length x.c
def NodeM.cells (x : NodeM) : List Value := [.int .i64 x.v.kind, .int .i64 x.v.id, .int .i64 x.a.c, .int .i64 x.a.h, .slice x.A x.next.length x.c]
theorem onesN (x : NodeM) : ∀ u ∈ NodeM.cells x, u.oneCell' = true := by
  intro u hu
  simp [NodeM.cells] at hu
  rcases hu with rfl | rfl | rfl | rfl | rfl <;> rfl
theorem infoN : (Try.prog.info? 59).map (fun i => (i.zero, i.size, i.bytes)) = some (some (.agg #[.int .i64 0, .int .i64 0, .int .i64 0, .int .i64 0, .slice none 0 0]), 5, 56) := by kernel_rfl
instance : Inhabited NodeM := ⟨⟨⟨0, 0⟩, ⟨0, 0⟩, none, 0, []⟩⟩
def cmpN (a b : NodeM) : Int := cmp2 a.v.kind a.v.id b.v.kind b.v.id
set_option maxHeartbeats 2000000 in
set_option maxRecDepth 100000 in
theorem nodeCmp_any (a b : NodeM) (w : World) : Calls Try.prog 55 #[.agg a.cells.toArray, .agg b.cells.toArray] w fun r w' => r = .returned (.int .i64 (cmpN a b)) ∧ ∃ q os', w' = grow (w.drewN q) os' := by
  obtain ⟨⟨a1, a2⟩, ⟨a3, a4⟩, aA, ac, an⟩ := a
  obtain ⟨⟨b1, b2⟩, ⟨b3, b4⟩, bA, bc, bn⟩ := b
  unfold cmpN NodeM.cells
  simp only
  obtain ⟨al, hal⟩ : ∃ n, an.length = n := ⟨_, rfl⟩
  obtain ⟨bl, hbl⟩ : ∃ n, bn.length = n := ⟨_, rfl⟩
  rw [hal, hbl]
  clear hal hbl
  obtain ⟨w0, hW0⟩ : ∃ w0, (w.alloc (.cells #[.int .i64 a1, .int .i64 a2, .int .i64 a3, .int .i64 a4, .slice aA al ac] 59)).alloc (.cells #[.int .i64 b1, .int .i64 b2, .int .i64 b3, .int .i64 b4, .slice bA bl bc] 59) = w0 := ⟨_, rfl⟩
  have hA : Blk w0 w.heap.size 59 #[.int .i64 a1, .int .i64 a2, .int .i64 a3, .int .i64 a4, .slice aA al ac] := by rw [← hW0]; exact (Blk.new w _ _).alloc _
  have hB : Blk w0 (w.heap.size + 1) 59 #[.int .i64 b1, .int .i64 b2, .int .i64 b3, .int .i64 b4, .slice bA bl bc] := by rw [← hW0]; exact Blk.size (by simp)
  have Hg : Hid (∃ os, w0 = grow w os) := Lib.hid ⟨_, by rw [← hW0, alloc_eq_grow, alloc_eq_grow, grow_grow]⟩
  obtain ⟨a_0, a_1⟩ : _ ∧ _ := ⟨hA.cell 0, hA.cell 1⟩
  obtain ⟨b_0, b_1⟩ : _ ∧ _ := ⟨hB.cell 0, hB.cell 1⟩
  simp only [List.getElem?_toArray, List.getElem?_cons_zero, List.getElem?_cons_succ] at a_0 a_1 b_0 b_1
  clear hA hB
  go_enter Try.func55, Try.ntmps55
  go_wp2_with fail
  refine wp_drew_tail 14 (by kernel_rfl) (by kernel_rfl) ?_
  simp only [List.take_succ_cons, List.take_zero, List.drop_succ_cons, List.drop_zero]
  repeat (go_big_quiet_step (exact cmp_q _ _ _ _))
  refine wpQuiet_nil ?_
  rintro w3 ⟨dq, rfl⟩
  go_wp2_with (go_at_call 39; (with_reducible refine Calls.mono (or2_s _ _ _) ?_); rintro r w4 ⟨rfl, rfl⟩)
  go_ret
  obtain ⟨os, hos⟩ := Hg.out
  refine ⟨rfl, dq, os.push (.cells #[.int .i64 (cmpI a1 b1), .int .i64 (cmpI a2 b2)] 3), ?_⟩
  subst hos
  simp [grow, World.alloc, World.drewN]
theorem cmpN_lt (a b : NodeM) : cmpN a b < 0 ↔ ltX a.v b.v := by
  unfold cmpN ltX
  rw [(cmp2_lt _ _ _ _).1]
theorem ltOf_N {a b : NodeM} : (ltOf cmpN a b = true ↔ ltX a.v b.v) ∧ (ltOf cmpN a b = false ↔ ¬ ltX a.v b.v) := by
  unfold ltOf
  rw [← cmpN_lt]
  simp
theorem swoN : SWO (ltOf cmpN) where
  irrefl := fun x => ltOf_N.2.2 (ltX_irr x.v)
  trans := fun x y z h1 h2 => by rw [ltOf_N.1] at *; unfold ltX at *; omega
  ntrans := fun x y z h1 h2 => by rw [ltOf_N.2] at *; unfold ltX at *; omega
theorem call_N (xs : Array Value) (w : World) : (callFunc 55 xs).run Try.prog w = .ok (.enter 55 xs) w := callOf Try.func55 rfl (by kernel_rfl) xs w
theorem sortNs (v : Value) (M : List NodeM) (B : Nat) (w : World) (hown : OwnR 59 5 NodeM.cells w B v M) (hlen : M.length ≤ 2 ^ 20) (ha : M.Pairwise fun x y => ltX x.v y.v ∨ ltX y.v x.v) :
    Calls Try.prog 54 #[v, .func (.func 55) #[] #[]] w fun r w' => r = .returned (.tuple #[]) ∧ (∃ N, OwnR 59 5 NodeM.cells w' B v N ∧ N.Perm M ∧ N.Pairwise fun x y => ltX x.v y.v) ∧ w.grownBy w' v.ownBlock := by
  have h := sort_row Try.sortNode (C := 5) Try.isAgg59 Try.sizeOf59 NodeM.cells (fun _ => rfl) onesN cmpN swoN 55 call_N (fun x y w => nodeCmp_any x y w) v M B w hown hlen
  change Calls Try.prog 54 _ _ _ at h
  refine h.mono ?_
  rintro r w' ⟨rfl, N, hN, hpN, hsN, hg⟩
  exact ⟨rfl, ⟨N, hN, hpN, sort_strict (R := fun x y : NodeM => ltX x.v y.v) hpN (hsN.imp fun {x y} h => ltOf_N.2.1 h) ha⟩, hg⟩

end Go.Proofs.Ytpfjgecdlilkcaa
