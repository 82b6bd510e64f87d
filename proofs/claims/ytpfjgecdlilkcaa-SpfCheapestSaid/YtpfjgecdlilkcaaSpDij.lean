/-
  Layer 21 in plain words: the nearest one first gives the least values, and the hops.
-/
import Derived.Test.YtpfjgecdlilkcaaSpBell
namespace Go.Proofs.Ytpfjgecdlilkcaa

/-- hops in order, each once -/
def ltH (a b : Hp) : Prop := a.lan < b.lan ∨ (a.lan = b.lan ∧ a.id < b.id)
/-- what is known of a vertex -/
structure Pl where
  a : Val2
  next : List Hp
abbrev Tab := Vx → Option Pl
/-- lists of hops with just these members, in order -/
structure JoinH (L M N : List Hp) : Prop where
  sorted : N.Pairwise ltH
  mem : ∀ h, h ∈ N ↔ h ∈ L ∨ h ∈ M
/-- one edge from a vertex that is done -/
def StepT (r : Vx) (T T' : Tab) (e : Ed) : Prop :=
  ∃ p, T e.src = some p ∧ (∀ v, v ≠ e.dst → T' v = T v) ∧
    ((∃ q, T e.dst = some q ∧ q.a.c < p.a.c + e.cost.toNat ∧ T' e.dst = some q) ∨
     (∃ q n, T e.dst = some q ∧ q.a.c = p.a.c + e.cost.toNat ∧ JoinH q.next (extH r e p.next) n ∧ T' e.dst = some ⟨⟨q.a.c, min (p.a.h + hopN e) q.a.h⟩, n⟩) ∨
     (∃ n, (∀ q, T e.dst = some q → p.a.c + e.cost.toNat < q.a.c) ∧ JoinH [] (extH r e p.next) n ∧ T' e.dst = some ⟨stepV p.a e, n⟩))
/-- behind the edges Z of the vertices O, which are done -/
structure Dij (E : List Ed) (r : Vx) (O : List Vx) (Z : List Ed) (T : Tab) : Prop where
  root : T r = some ⟨⟨0, 0⟩, []⟩
  may : ∀ v p, T v = some p → mayV v = true
  had : ∀ v ∈ O, ∃ p, T v = some p
  nodup : O.Nodup
  edges : ∀ e ∈ Z, e ∈ E ∧ cntE e = true ∧ e.src ∈ O
  closed : ∀ e ∈ Z, ∀ p, T e.src = some p → ∃ q, T e.dst = some q ∧ leV q.a (stepV p.a e)
  tight : ∀ v q, T v = some q → v ≠ r → ∃ e ∈ Z, e.dst = v ∧ ∃ p, T e.src = some p ∧ q.a = stepV p.a e
  next : ∀ v q, T v = some q → v ≠ r → q.next.Pairwise ltH ∧ ∀ h, h ∈ q.next ↔ ∃ e ∈ Z, e.dst = v ∧ ∃ p, T e.src = some p ∧ q.a.c = p.a.c + e.cost.toNat ∧ h ∈ extH r e p.next
  order : ∀ u p v q, u ∈ O → T u = some p → v ∉ O → T v = some q → rankV u p.a ≤ rankV v q.a
  small : ∀ v q, T v = some q → q.a.c ≤ 100 * O.length ∧ q.a.h ≤ O.length
section
variable {E : List Ed} {r : Vx} {O : List Vx} {Z : List Ed} {T T' : Tab}
theorem Dij.start (hr : mayV r = true) (hT : ∀ v, T v = if v = r then some ⟨⟨0, 0⟩, []⟩ else none) : Dij E r [] [] T where
  root := by rw [hT, if_pos rfl]
  may := fun v p h => by
    rw [hT] at h
    split at h
    · rename_i e; rw [e]; exact hr
    · cases h
  had := fun v h => absurd h (by simp)
  nodup := List.nodup_nil
  edges := fun e h => absurd h (by simp)
  closed := fun e h => absurd h (by simp)
  tight := fun v q h hne => by rw [hT, if_neg hne] at h; cases h
  next := fun v q h hne => by rw [hT, if_neg hne] at h; cases h
  order := fun u p v q h => absurd h (by simp)
  small := fun v q h => by
    rw [hT] at h
    split at h
    · cases h; simp
    · cases h
theorem Dij.len (h : Dij E r O Z T) : O.length ≤ 79 := may_len h.nodup fun v hv => by
  obtain ⟨p, hp⟩ := h.had v hv
  exact h.may v p hp
/-- the next vertex is done -/
theorem Dij.pick (h : Dij E r O Z T) {u : Vx} {p : Pl} (hu : T u = some p) (hno : u ∉ O) (hmin : ∀ v q, v ∉ O → T v = some q → rankV u p.a ≤ rankV v q.a) : Dij E r (O ++ [u]) Z T := by
  refine ⟨h.root, h.may, ?_, ?_, ?_, h.closed, h.tight, h.next, ?_, ?_⟩
  · intro v hv
    rcases List.mem_append.1 hv with hv | hv
    · exact h.had v hv
    · rw [List.mem_singleton] at hv
      rw [hv]
      exact ⟨p, hu⟩
  · rw [List.nodup_append]
    refine ⟨h.nodup, by simp, fun a ha b hb e => ?_⟩
    rw [List.mem_singleton] at hb
    exact hno (by rw [← hb, ← e]; exact ha)
  · intro e he
    obtain ⟨h1, h2, h3⟩ := h.edges e he
    exact ⟨h1, h2, List.mem_append_left _ h3⟩
  · intro x px v q hx hpx hv hq
    have hvO : v ∉ O := fun g => hv (List.mem_append_left _ g)
    rcases List.mem_append.1 hx with hx | hx
    · exact h.order x px v q hx hpx hvO hq
    · rw [List.mem_singleton] at hx
      subst hx
      rw [hu] at hpx
      cases hpx
      exact hmin v q hvO hq
  · intro v q hq
    have := h.small v q hq
    rw [List.length_append, List.length_singleton]
    omega
/-- an edge of the one that was done last -/
theorem Dij.step {u : Vx} {p : Pl} (h : Dij E r O Z T) (hu : T u = some p) (huO : u ∈ O) (hlast : ∀ v q, v ∈ O → T v = some q → rankV v q.a ≤ rankV u p.a)
    (hsm : p.a.c + 100 ≤ 100 * O.length ∧ p.a.h + 1 ≤ O.length) {e : Ed} (he : e ∈ E) (hc : cntE e = true) (hs : e.src = u) (hr : r.kind = 1) (hst : StepT r T T' e) : Dij E r O (Z ++ [e]) T' ∧ T' u = some p ∧ (∀ v ∈ O, T' v = T v) := by
  obtain ⟨p', hp', hoth, hcase⟩ := hst
  subst hs
  rw [hu] at hp'
  cases hp'
  have hrk := rank_step hc p.a
  obtain ⟨-, hdm, hk⟩ := cntE_iff.1 hc
  have hcost : e.cost.toNat ≤ 100 := by omega
  have hhop : hopN e ≤ 1 := by unfold hopN; split <;> omega
  -- one that is done does not change
  have hdone : ∀ v ∈ O, T' v = T v := by
    intro v hv
    by_cases hvd : v = e.dst
    · subst hvd
      rcases hcase with ⟨q, h1, -, h3⟩ | ⟨q, n, h1, h2, -, -⟩ | ⟨n, h1, -, -⟩
      · rw [h3, h1]
      · have := hlast _ q hv h1
        unfold rankV stepV at hrk
        unfold rankV at this
        simp only at hrk
        omega
      · obtain ⟨q, hq⟩ := h.had _ hv
        have := h1 q hq
        have h4 := hlast _ q hv hq
        unfold rankV stepV at hrk
        unfold rankV at h4
        simp only at hrk
        omega
    · exact hoth v hvd
  have hnr : e.dst ≠ r ∨ T' r = T r := by
    by_cases g : e.dst = r
    · right
      rcases hcase with ⟨q, h1, -, h3⟩ | ⟨q, n, h1, h2, -, -⟩ | ⟨n, h1, -, -⟩
      · rw [← g, h3, h1]
      · rw [g, h.root] at h1
        cases h1
        have hk2 : e.tk = r.kind := by rw [← g]; rfl
        simp only at h2
        by_cases hsr : e.src = r
        · have : e.fk = r.kind := by rw [← hsr]; rfl
          omega
        · obtain ⟨e', he', hd', p', hp', hq⟩ := h.tight _ _ hu hsr
          obtain ⟨-, hc', -⟩ := h.edges e' he'
          obtain ⟨-, -, hk'⟩ := cntE_iff.1 hc'
          have h5 : e'.tk = e.fk := congrArg Vx.kind hd'
          have h6 : p.a.c = p'.a.c + e'.cost.toNat := by rw [hq]; rfl
          omega
      · have := h1 _ (by rw [g]; exact h.root)
        simp only at this
        omega
    · exact .inl g
  have hroot : T' r = some ⟨⟨0, 0⟩, []⟩ := by
    rcases hnr with g | g
    · rw [hoth r (Ne.symm g), h.root]
    · rw [g, h.root]
  have hsrc : ∀ e' ∈ Z, T' e'.src = T e'.src := fun e' he' => hdone _ (h.edges e' he').2.2
  have hu' : T' e.src = some p := by rw [hdone _ huO, hu]
  -- what is new costs no more than what was
  have hle : ∀ v q, T v = some q → ∃ q', T' v = some q' ∧ leV q'.a q.a := by
    intro v q hq
    by_cases hvd : v = e.dst
    · subst hvd
      rcases hcase with ⟨q', h1, -, h3⟩ | ⟨q', n, h1, h2, -, h3⟩ | ⟨n, h1, -, h3⟩
      · rw [hq] at h1; cases h1; exact ⟨_, h3, leV_refl _⟩
      · rw [hq] at h1
        cases h1
        refine ⟨_, h3, .inr ⟨rfl, ?_⟩⟩
        simp only
        omega
      · exact ⟨_, h3, .inl (h1 q hq)⟩
    · exact ⟨q, by rw [hoth v hvd, hq], leV_refl _⟩
  have hnew : ∃ q', T' e.dst = some q' ∧ leV q'.a (stepV p.a e) ∧ (T e.dst = some q' ∨ (q'.a = stepV p.a e ∨ ∃ q, T e.dst = some q ∧ q'.a = q.a)) := by
    rcases hcase with ⟨q', h1, h2, h3⟩ | ⟨q', n, h1, h2, -, h3⟩ | ⟨n, h1, -, h3⟩
    · exact ⟨q', h3, .inl h2, .inl h1⟩
    · refine ⟨_, h3, .inr ⟨?_, ?_⟩, .inr ?_⟩
      · simp only [stepV]; omega
      · simp only [stepV]; omega
      · by_cases g : p.a.h + hopN e ≤ q'.a.h
        · left
          rw [Nat.min_eq_left g, h2]
          rfl
        · right
          refine ⟨q', h1, ?_⟩
          rw [Nat.min_eq_right (by omega)]
    · exact ⟨_, h3, leV_refl _, .inr (.inl rfl)⟩
  refine ⟨⟨hroot, ?_, ?_, h.nodup, ?_, ?_, ?_, ?_, ?_, ?_⟩, hu', hdone⟩
  · intro v q hq
    by_cases hvd : v = e.dst
    · rw [hvd]; exact hdm
    · rw [hoth v hvd] at hq; exact h.may v q hq
  · intro v hv
    rw [hdone v hv]
    exact h.had v hv
  · intro x hx
    rcases List.mem_append.1 hx with hx | hx
    · exact h.edges x hx
    · rw [List.mem_singleton] at hx
      rw [hx]
      exact ⟨he, hc, huO⟩
  · intro x hx px hpx
    rcases List.mem_append.1 hx with hx | hx
    · rw [hsrc x hx] at hpx
      obtain ⟨q, hq, hl⟩ := h.closed x hx px hpx
      obtain ⟨q', hq', hl'⟩ := hle _ q hq
      exact ⟨q', hq', leV_trans hl' hl⟩
    · rw [List.mem_singleton] at hx
      subst hx
      rw [hu'] at hpx
      cases hpx
      obtain ⟨q', hq', hl, -⟩ := hnew
      exact ⟨q', hq', hl⟩
  · intro v q hq hvr
    by_cases hvd : v = e.dst
    · subst hvd
      obtain ⟨q', hq', -, hor⟩ := hnew
      rw [hq] at hq'
      cases hq'
      have old : ∀ q0, T e.dst = some q0 → q.a = q0.a → ∃ x ∈ Z ++ [e], x.dst = e.dst ∧ ∃ p, T' x.src = some p ∧ q.a = stepV p.a x := by
        intro q0 h0 hqa
        obtain ⟨x, hx, hd, px, hpx, hxa⟩ := h.tight _ q0 h0 hvr
        exact ⟨x, List.mem_append_left _ hx, hd, px, by rw [hsrc x hx]; exact hpx, by rw [hqa, hxa]⟩
      rcases hor with h1 | h1 | ⟨q0, h1, h2⟩
      · exact old q h1 rfl
      · exact ⟨e, by simp, rfl, p, hu', h1⟩
      · exact old q0 h1 h2
    · rw [hoth v hvd] at hq
      obtain ⟨x, hx, hd, px, hpx, hxa⟩ := h.tight v q hq hvr
      exact ⟨x, List.mem_append_left _ hx, hd, px, by rw [hsrc x hx]; exact hpx, hxa⟩
  · intro v q hq hvr
    by_cases hvd : v = e.dst
    · subst hvd
      have split : ∀ (c : Nat) (h : Hp), (∃ x ∈ Z ++ [e], x.dst = e.dst ∧ ∃ p, T' x.src = some p ∧ c = p.a.c + x.cost.toNat ∧ h ∈ extH r x p.next) ↔ (∃ x ∈ Z, x.dst = e.dst ∧ ∃ p, T x.src = some p ∧ c = p.a.c + x.cost.toNat ∧ h ∈ extH r x p.next) ∨ (c = p.a.c + e.cost.toNat ∧ h ∈ extH r e p.next) := by
        intro c h
        constructor
        · rintro ⟨x, hx, hd, px, hpx, h1, h2⟩
          rcases List.mem_append.1 hx with hx | hx
          · exact .inl ⟨x, hx, hd, px, by rw [← hsrc x hx]; exact hpx, h1, h2⟩
          · rw [List.mem_singleton] at hx
            subst hx
            rw [hu'] at hpx
            cases hpx
            exact .inr ⟨h1, h2⟩
        · rintro (⟨x, hx, hd, px, hpx, h1, h2⟩ | ⟨h1, h2⟩)
          · exact ⟨x, List.mem_append_left _ hx, hd, px, by rw [hsrc x hx]; exact hpx, h1, h2⟩
          · exact ⟨e, by simp, rfl, p, hu', h1, h2⟩
      rcases hcase with ⟨q', h1, h2, h3⟩ | ⟨q', n, h1, h2, hj, h3⟩ | ⟨n, h1, hj, h3⟩
      · rw [h3] at hq
        cases hq
        obtain ⟨g1, g2⟩ := h.next _ q h1 hvr
        refine ⟨g1, fun hh => ?_⟩
        rw [split, g2]
        constructor
        · exact .inl
        · rintro (g | ⟨g, -⟩)
          · exact g
          · omega
      · rw [h3] at hq
        cases hq
        obtain ⟨g1, g2⟩ := h.next _ q' h1 hvr
        refine ⟨hj.sorted, fun hh => ?_⟩
        simp only
        rw [split, hj.mem, g2]
        constructor
        · rintro (g | g)
          · exact .inl g
          · exact .inr ⟨h2, g⟩
        · rintro (g | ⟨-, g⟩)
          · exact .inl g
          · exact .inr g
      · rw [h3] at hq
        cases hq
        refine ⟨hj.sorted, fun hh => ?_⟩
        simp only [stepV]
        rw [split, hj.mem]
        constructor
        · rintro (g | g)
          · cases g
          · exact .inr ⟨rfl, g⟩
        · rintro (⟨x, hx, hd, px, hpx, hxc, -⟩ | ⟨-, g⟩)
          · exfalso
            obtain ⟨q0, hq0, hl⟩ := h.closed x hx px hpx
            rw [hd] at hq0
            have := h1 q0 hq0
            unfold leV stepV at hl
            simp only at hl
            omega
          · exact .inr g
    · rw [hoth v hvd] at hq
      obtain ⟨g1, g2⟩ := h.next v q hq hvr
      refine ⟨g1, fun hh => ?_⟩
      rw [g2]
      constructor
      · rintro ⟨x, hx, hd, px, hpx, k1, k2⟩
        exact ⟨x, List.mem_append_left _ hx, hd, px, by rw [hsrc x hx]; exact hpx, k1, k2⟩
      · rintro ⟨x, hx, hd, px, hpx, k1, k2⟩
        rcases List.mem_append.1 hx with hx | hx
        · exact ⟨x, hx, hd, px, by rw [← hsrc x hx]; exact hpx, k1, k2⟩
        · rw [List.mem_singleton] at hx
          rw [hx] at hd
          exact absurd hd.symm hvd
  · intro x px v q hx hpx hv hq
    rw [hdone x hx] at hpx
    by_cases hvd : v = e.dst
    · subst hvd
      obtain ⟨q', hq', -, hor⟩ := hnew
      rw [hq] at hq'
      cases hq'
      rcases hor with h1 | h1 | ⟨q0, h1, h2⟩
      · exact h.order x px _ q hx hpx hv h1
      · have h2 := hlast x px hx hpx
        rw [h1]
        omega
      · have := h.order x px _ q0 hx hpx hv h1
        rw [h2]
        exact this
    · rw [hoth v hvd] at hq
      exact h.order x px v q hx hpx hv hq
  · intro v q hq
    by_cases hvd : v = e.dst
    · subst hvd
      obtain ⟨q', hq', -, hor⟩ := hnew
      rw [hq] at hq'
      cases hq'
      rcases hor with h1 | h1 | ⟨q0, h1, h2⟩
      · exact h.small _ q h1
      · rw [h1]
        unfold stepV
        simp only
        omega
      · have := h.small _ q0 h1
        rw [h2]
        exact this
    · rw [hoth v hvd] at hq
      exact h.small v q hq
/-- all is done -/
theorem Dij.ends (h : Dij E r O Z T) (hall : ∀ v p, T v = some p → v ∈ O) (hZ : ∀ e ∈ E, cntE e = true → e.src ∈ O → e ∈ Z) : IsDist E r (fun v => (T v).map (·.a)) ∧ IsNext E r (fun v => (T v).map (·.a)) (fun v => ((T v).map (·.next)).getD []) := by
  refine ⟨⟨by simp only [h.root]; rfl, ?_, ?_⟩, ⟨by simp only [h.root]; rfl, ?_⟩⟩
  · intro e he hc a ha
    obtain ⟨p, hp, rfl⟩ := Option.map_eq_some_iff.1 ha
    obtain ⟨q, hq, hl⟩ := h.closed e (hZ e he hc (hall _ p hp)) p hp
    exact ⟨q.a, by simp only [hq]; rfl, hl⟩
  · intro v a ha
    obtain ⟨q, hq, rfl⟩ := Option.map_eq_some_iff.1 ha
    by_cases hvr : v = r
    · exact .inl hvr
    · obtain ⟨e, he, hd, p, hp, hqa⟩ := h.tight v q hq hvr
      exact .inr ⟨e, (h.edges e he).1, (h.edges e he).2.1, hd, p.a, by simp only [hp]; rfl, hqa⟩
  · intro v a ha hvr hh
    obtain ⟨q, hq, rfl⟩ := Option.map_eq_some_iff.1 ha
    simp only [hq, Option.map_some, Option.getD_some]
    rw [(h.next v q hq hvr).2]
    constructor
    · rintro ⟨e, he, hd, p, hp, h1, h2⟩
      exact ⟨e, (h.edges e he).1, (h.edges e he).2.1, hd, p.a, by simp only [hp]; rfl, h1, by simp only [hp, Option.map_some, Option.getD_some]; exact h2⟩
    · rintro ⟨e, he, hc, hd, b, hb, h1, h2⟩
      obtain ⟨p, hp, rfl⟩ := Option.map_eq_some_iff.1 hb
      simp only [hp, Option.map_some, Option.getD_some] at h2
      exact ⟨e, hZ e he hc (hall _ p hp), hd, p, hp, h1, h2⟩
end

end Go.Proofs.Ytpfjgecdlilkcaa
