/-
  Layer 21: the search's rounds, by what is found (places apart).
-/
import Derived.Test.YtpfjgecdlilkcaaSpEdg
import Derived.Test.YtpfjgecdlilkcaaSpSmall
import Derived.Test.YtpfjgecdlilkcaaSpEnd
namespace Go.Proofs.Ytpfjgecdlilkcaa
open Go.RowKit

structure DjSt (E : List Ed) (r : Vx) (F : Fnd) (O : List Vx) (Z : List Ed) : Prop where
  dij : Dij E r O Z (tabF F)
  dn : ∀ v x, getF v F = some x → (x.done = true ↔ v ∈ O)
  all : ∀ e ∈ E, cntE e = true → e.src ∈ O → e ∈ Z
/-- in the midst of the edges of u -/
structure DjIn (E : List Ed) (r : Vx) (F : Fnd) (O : List Vx) (Z : List Ed) (u : Vx) (p : Pl) : Prop where
  dij : Dij E r O Z (tabF F)
  dn : ∀ v x, getF v F = some x → (x.done = true ↔ v ∈ O)
  at_ : tabF F u = some p
  mem : u ∈ O
  last : ∀ v q, v ∈ O → tabF F v = some q → rankV v q.a ≤ rankV u p.a
  room : p.a.c + 100 ≤ 100 * O.length ∧ p.a.h + 1 ≤ O.length
section
variable {E : List Ed} {r u : Vx} {F F' : Fnd} {O : List Vx} {Z : List Ed} {p : Pl}
theorem tabF_get {v : Vx} {q : Pl} (h : tabF F v = some q) : ∃ x, getF v F = some x ∧ x.pl = q := by
  unfold tabF at h
  obtain ⟨x, hx, e⟩ := Option.map_eq_some_iff.1 h
  exact ⟨x, hx, e⟩
theorem DjSt.start (hr : mayV r = true) {x : PlW} (hx : x.pl = ⟨⟨0, 0⟩, []⟩) (hd : x.done = false) : DjSt E r (setF r x []) [] [] where
  dij := Dij.start hr fun v => by
    rw [tabF_set, hx]
    rfl
  dn := fun v y hy => by
    rw [getF_set] at hy
    by_cases hv : v = r
    · rw [if_pos hv] at hy
      cases hy
      simp [hd]
    · rw [if_neg hv] at hy
      cases hy
  all := fun e _ _ h => by cases h
theorem DjSt.may (h : DjSt E r F O Z) (hk : (F.map (·.1)).Nodup) : ∀ e ∈ F, mayV e.1 = true := fun e he => h.dij.may _ _ (tabF_some (getF_of_mem (v := e.1) (x := e.2) hk he))
theorem DjSt.low (h : DjSt E r F O Z) (hk : (F.map (·.1)).Nodup) : ∀ e ∈ F, e.2.pl.a.c ≤ 100000 := fun e he => by
  have := (h.dij.low (tabF_some (getF_of_mem (v := e.1) (x := e.2) hk he))).1
  omega
theorem DjIn.low (h : DjIn E r F O Z u p) (hr : r.kind = 1) {v : Vx} {x : PlW} (hx : getF v F = some x) : x.pl.a.c ≤ 100000 ∧ x.pl.a.h ≤ 1000 ∧ x.pl.next.length ≤ 2 ^ 16 := by
  have h1 := h.dij.low (tabF_some hx)
  have h2 := h.dij.few hr (tabF_some hx)
  omega
theorem tabF_done {x : PlW} (hu : getF u F = some x) (d : Bool) : tabF (setF u ⟨x.p, x.A, x.c, x.pl, d⟩ F) = tabF F := by
  funext v
  rw [tabF_set]
  by_cases hv : v = u
  · rw [if_pos hv, hv, tabF_some hu]
  · rw [if_neg hv]
theorem DjSt.pick (h : DjSt E r F O Z) (hk : (F.map (·.1)).Nodup) {x : PlW} (hb : BestOf F (some (u, x))) : DjIn E r (setF u ⟨x.p, x.A, x.c, x.pl, true⟩ F) (O ++ [u]) Z u x.pl := by
  obtain ⟨hm, hd, hmin⟩ := hb
  have hu : getF u F = some x := getF_of_mem hk hm
  have ht := tabF_done hu true
  have hno : u ∉ O := fun g => by
    have := (h.dn u x hu).2 g
    simp only at hd
    rw [hd] at this
    cases this
  have hsm := h.dij.small _ _ (tabF_some hu)
  have hpk := h.dij.pick (tabF_some hu) hno (fun v q hv hq => by
    obtain ⟨y, hy, rfl⟩ := tabF_get hq
    refine hmin (v, y) (getF_mem hy) ?_
    cases hyd : y.done with
    | false => simp only
    | true => exact absurd ((h.dn v y hy).1 hyd) hv)
  refine ⟨by rw [ht]; exact hpk, ?_, by rw [ht]; exact tabF_some hu, by simp, ?_, ?_⟩
  · intro v y hy
    rw [getF_set] at hy
    by_cases hv : v = u
    · rw [if_pos hv] at hy
      cases hy
      simp [hv]
    · rw [if_neg hv] at hy
      rw [h.dn v y hy, List.mem_append, List.mem_singleton]
      constructor
      · exact .inl
      · rintro (g | g)
        · exact g
        · exact absurd g hv
  · intro v q hv hq
    rw [ht] at hq
    rcases List.mem_append.1 hv with hv | hv
    · exact h.dij.order v q u x.pl hv hq hno (tabF_some hu)
    · rw [List.mem_singleton] at hv
      subst hv
      rw [tabF_some hu] at hq
      cases hq
      exact Nat.le_refl _
  · rw [List.length_append, List.length_singleton]
    omega
theorem DjIn.step (h : DjIn E r F O Z u p) {e : Ed} (he : e ∈ E) (hc : cntE e = true) (hs : e.src = u) (hr : r.kind = 1) (hst : StepF r F F' e p) : DjIn E r F' O (Z ++ [e]) u p := by
  obtain ⟨h1, h2, h3⟩ := h.dij.step h.at_ h.mem h.last h.room he hc hs hr hst.tab
  refine ⟨h1, ?_, h2, h.mem, fun v q hv hq => h.last v q hv (by rw [← h3 v hv]; exact hq), h.room⟩
  intro v x hx
  by_cases hv : v = e.dst
  · subst hv
    obtain ⟨y', hy', hcase⟩ := hst.dst
    rw [hx] at hy'
    cases hy'
    rcases hcase with ⟨y, hy, hd⟩ | ⟨hd, hlt⟩
    · rw [hd]; exact h.dn _ y hy
    · rw [hd]
      constructor
      · intro g; cases g
      · intro g
        exfalso
        obtain ⟨q, hq⟩ := h.dij.had _ g
        obtain ⟨y, hy, rfl⟩ := tabF_get hq
        have h4 := hlt y hy
        have h5 := h.last _ _ g hq
        have h6 := rank_step hc p.a
        rw [hs] at h6
        unfold rankV stepV at *
        simp only at h5 h6
        omega
  · rw [hst.oth v hv] at hx
    exact h.dn v x hx
theorem DjIn.ends (h : DjIn E r F O Z u p) {O' : List Vx} (hO : O = O' ++ [u]) (h1 : ∀ e ∈ E, cntE e = true → e.src ∈ O' → e ∈ Z) (h2 : ∀ e ∈ E, cntE e = true → e.src = u → e ∈ Z) : DjSt E r F O Z := by
  refine ⟨h.dij, h.dn, fun e he hc hm => ?_⟩
  rw [hO] at hm
  rcases List.mem_append.1 hm with hm | hm
  · exact h1 e he hc hm
  · rw [List.mem_singleton] at hm
    exact h2 e he hc hm
/-- all is done: what is found is the tree -/
theorem DjSt.tree (h : DjSt E r F O Z) (hk : (F.map (·.1)).Nodup) (hb : BestOf F none) {DD : Vx → Vx → Option Val2} (hD : Dists E DD) (hr : r.kind = 1) {L : List Nk} (hs : L.Pairwise fun x y => ltX x.v y.v) (hL : ∀ n, n ∈ L ↔ ∃ e ∈ F, n = ⟨e.1, e.2.pl.a, e.2.pl.next⟩) : TreeIs E DD r L := by
  have hall : ∀ v q, tabF F v = some q → v ∈ O := fun v q hq => by
    obtain ⟨x, hx, rfl⟩ := tabF_get hq
    exact (h.dn v x hx).1 (hb _ (getF_mem hx))
  refine tree_of_dij h.dij hall h.all hD hr hs ?_ ?_
  · intro n hn
    obtain ⟨e, he, rfl⟩ := (hL n).1 hn
    exact tabF_some (getF_of_mem (v := e.1) (x := e.2) hk he)
  · intro v q hq
    obtain ⟨x, hx, rfl⟩ := tabF_get hq
    exact ⟨⟨v, x.pl.a, x.pl.next⟩, (hL _).2 ⟨(v, x), getF_mem hx, rfl⟩, rfl⟩
end

end Go.Proofs.Ytpfjgecdlilkcaa
