/-
  Layer 21 in plain words: the nearest one first gives the least values, and the hops.
-/
import Derived.Laws.CopyRow
import Derived.StillTail
import Derived.Deep.QuietTactic
import Derived.Lib.QuietBelow
import Derived.Test.YtpfjgecdlilkcaaGreatBab
namespace Go.Proofs.YtpfjgecdlilkcaaGreat

/-- hops in order, each once -/
def ltH (a b : Hp) : Prop := a.lan < b.lan ∨ (a.lan = b.lan ∧ a.id < b.id)
/-- what is known of a vertex -/
structure Pl where
  a : Val2
  next : List Hp
abbrev Tab := Vx → Option Pl
/-- lists of hops with just these members, in order -/
structure JoinH (L M N : List Hp) : Prop where
  sorted : N.Pairwise ltH
  mem : ∀ h, h ∈ N ↔ h ∈ L ∨ h ∈ M
/-- one edge from a vertex that is done -/
def StepT (r : Vx) (T T' : Tab) (e : Ed) : Prop :=
  ∃ p, T e.src = some p ∧ (∀ v, v ≠ e.dst → T' v = T v) ∧
    ((∃ q, T e.dst = some q ∧ q.a.c < p.a.c + e.cost.toNat ∧ T' e.dst = some q) ∨
     (∃ q n, T e.dst = some q ∧ q.a.c = p.a.c + e.cost.toNat ∧ JoinH q.next (extH r e p.next) n ∧ T' e.dst = some ⟨⟨q.a.c, min (p.a.h + hopN e) q.a.h⟩, n⟩) ∨
     (∃ n, (∀ q, T e.dst = some q → p.a.c + e.cost.toNat < q.a.c) ∧ JoinH [] (extH r e p.next) n ∧ T' e.dst = some ⟨stepV p.a e, n⟩))
/-- behind the edges Z of the vertices O, which are done -/
structure Dij (E : List Ed) (r : Vx) (O : List Vx) (Z : List Ed) (T : Tab) : Prop where
  root : T r = some ⟨⟨0, 0⟩, []⟩
  may : ∀ v p, T v = some p → mayV v = true
  had : ∀ v ∈ O, ∃ p, T v = some p
  nodup : O.Nodup
  edges : ∀ e ∈ Z, e ∈ E ∧ cntE e = true ∧ e.src ∈ O
  closed : ∀ e ∈ Z, ∀ p, T e.src = some p → ∃ q, T e.dst = some q ∧ leV q.a (stepV p.a e)
  tight : ∀ v q, T v = some q → v ≠ r → ∃ e ∈ Z, e.dst = v ∧ ∃ p, T e.src = some p ∧ q.a = stepV p.a e
  next : ∀ v q, T v = some q → v ≠ r → q.next.Pairwise ltH ∧ ∀ h, h ∈ q.next ↔ ∃ e ∈ Z, e.dst = v ∧ ∃ p, T e.src = some p ∧ q.a.c = p.a.c + e.cost.toNat ∧ h ∈ extH r e p.next
  order : ∀ u p v q, u ∈ O → T u = some p → v ∉ O → T v = some q → rankV u p.a ≤ rankV v q.a
  small : ∀ v q, T v = some q → q.a.c ≤ 100 * O.length ∧ q.a.h ≤ O.length
section
variable {E : List Ed} {r : Vx} {O : List Vx} {Z : List Ed} {T T' : Tab}
theorem Dij.start (hr : mayV r = true) (hT : ∀ v, T v = if v = r then some ⟨⟨0, 0⟩, []⟩ else none) : Dij E r [] [] T where
  root := by rw [hT, if_pos rfl]
  may := fun v p h => by
    rw [hT] at h
    split at h
    · rename_i e; rw [e]; exact hr
    · cases h
  had := fun v h => absurd h (by simp)
  nodup := List.nodup_nil
  edges := fun e h => absurd h (by simp)
  closed := fun e h => absurd h (by simp)
  tight := fun v q h hne => by rw [hT, if_neg hne] at h; cases h
  next := fun v q h hne => by rw [hT, if_neg hne] at h; cases h
  order := fun u p v q h => absurd h (by simp)
  small := fun v q h => by
    rw [hT] at h
    split at h
    · cases h; simp
    · cases h
theorem Dij.len (h : Dij E r O Z T) : O.length ≤ 79 := may_len h.nodup fun v hv => by
  obtain ⟨p, hp⟩ := h.had v hv
  exact h.may v p hp
/-- the next vertex is done -/
theorem Dij.pick (h : Dij E r O Z T) {u : Vx} {p : Pl} (hu : T u = some p) (hno : u ∉ O) (hmin : ∀ v q, v ∉ O → T v = some q → rankV u p.a ≤ rankV v q.a) : Dij E r (O ++ [u]) Z T := by
  refine ⟨h.root, h.may, ?_, ?_, ?_, h.closed, h.tight, h.next, ?_, ?_⟩
  · intro v hv
    rcases List.mem_append.1 hv with hv | hv
    · exact h.had v hv
    · rw [List.mem_singleton] at hv
      rw [hv]
      exact ⟨p, hu⟩
  · rw [List.nodup_append]
    refine ⟨h.nodup, by simp, fun a ha b hb e => ?_⟩
    rw [List.mem_singleton] at hb
    exact hno (by rw [← hb, ← e]; exact ha)
  · intro e he
    obtain ⟨h1, h2, h3⟩ := h.edges e he
    exact ⟨h1, h2, List.mem_append_left _ h3⟩
  · intro x px v q hx hpx hv hq
    have hvO : v ∉ O := fun g => hv (List.mem_append_left _ g)
    rcases List.mem_append.1 hx with hx | hx
    · exact h.order x px v q hx hpx hvO hq
    · rw [List.mem_singleton] at hx
      subst hx
      rw [hu] at hpx
      cases hpx
      exact hmin v q hvO hq
  · intro v q hq
    have := h.small v q hq
    rw [List.length_append, List.length_singleton]
    omega
/-- an edge of the one that was done last -/
theorem Dij.step {u : Vx} {p : Pl} (h : Dij E r O Z T) (hu : T u = some p) (huO : u ∈ O) (hlast : ∀ v q, v ∈ O → T v = some q → rankV v q.a ≤ rankV u p.a)
    (hsm : p.a.c + 100 ≤ 100 * O.length ∧ p.a.h + 1 ≤ O.length) {e : Ed} (he : e ∈ E) (hc : cntE e = true) (hs : e.src = u) (hr : r.kind = 1) (hst : StepT r T T' e) : Dij E r O (Z ++ [e]) T' ∧ T' u = some p ∧ (∀ v ∈ O, T' v = T v) := by
  obtain ⟨p', hp', hoth, hcase⟩ := hst
  subst hs
  rw [hu] at hp'
  cases hp'
  have hrk := rank_step hc p.a
  obtain ⟨-, hdm, hk⟩ := cntE_iff.1 hc
  have hcost : e.cost.toNat ≤ 100 := by omega
  have hhop : hopN e ≤ 1 := by unfold hopN; split <;> omega
  -- one that is done does not change
  have hdone : ∀ v ∈ O, T' v = T v := by
    intro v hv
    by_cases hvd : v = e.dst
    · subst hvd
      rcases hcase with ⟨q, h1, -, h3⟩ | ⟨q, n, h1, h2, -, -⟩ | ⟨n, h1, -, -⟩
      · rw [h3, h1]
      · have := hlast _ q hv h1
        unfold rankV stepV at hrk
        unfold rankV at this
        simp only at hrk
        omega
      · obtain ⟨q, hq⟩ := h.had _ hv
        have := h1 q hq
        have h4 := hlast _ q hv hq
        unfold rankV stepV at hrk
        unfold rankV at h4
        simp only at hrk
        omega
    · exact hoth v hvd
  have hnr : e.dst ≠ r ∨ T' r = T r := by
    by_cases g : e.dst = r
    · right
      rcases hcase with ⟨q, h1, -, h3⟩ | ⟨q, n, h1, h2, -, -⟩ | ⟨n, h1, -, -⟩
      · rw [← g, h3, h1]
      · rw [g, h.root] at h1
        cases h1
        have hk2 : e.tk = r.kind := by rw [← g]; rfl
        simp only at h2
        by_cases hsr : e.src = r
        · have : e.fk = r.kind := by rw [← hsr]; rfl
          omega
        · obtain ⟨e', he', hd', p', hp', hq⟩ := h.tight _ _ hu hsr
          obtain ⟨-, hc', -⟩ := h.edges e' he'
          obtain ⟨-, -, hk'⟩ := cntE_iff.1 hc'
          have h5 : e'.tk = e.fk := congrArg Vx.kind hd'
          have h6 : p.a.c = p'.a.c + e'.cost.toNat := by rw [hq]; rfl
          omega
      · have := h1 _ (by rw [g]; exact h.root)
        simp only at this
        omega
    · exact .inl g
  have hroot : T' r = some ⟨⟨0, 0⟩, []⟩ := by
    rcases hnr with g | g
    · rw [hoth r (Ne.symm g), h.root]
    · rw [g, h.root]
  have hsrc : ∀ e' ∈ Z, T' e'.src = T e'.src := fun e' he' => hdone _ (h.edges e' he').2.2
  have hu' : T' e.src = some p := by rw [hdone _ huO, hu]
  -- what is new costs no more than what was
  have hle : ∀ v q, T v = some q → ∃ q', T' v = some q' ∧ leV q'.a q.a := by
    intro v q hq
    by_cases hvd : v = e.dst
    · subst hvd
      rcases hcase with ⟨q', h1, -, h3⟩ | ⟨q', n, h1, h2, -, h3⟩ | ⟨n, h1, -, h3⟩
      · rw [hq] at h1; cases h1; exact ⟨_, h3, leV_refl _⟩
      · rw [hq] at h1
        cases h1
        refine ⟨_, h3, .inr ⟨rfl, ?_⟩⟩
        simp only
        omega
      · exact ⟨_, h3, .inl (h1 q hq)⟩
    · exact ⟨q, by rw [hoth v hvd, hq], leV_refl _⟩
  have hnew : ∃ q', T' e.dst = some q' ∧ leV q'.a (stepV p.a e) ∧ (T e.dst = some q' ∨ (q'.a = stepV p.a e ∨ ∃ q, T e.dst = some q ∧ q'.a = q.a)) := by
    rcases hcase with ⟨q', h1, h2, h3⟩ | ⟨q', n, h1, h2, -, h3⟩ | ⟨n, h1, -, h3⟩
    · exact ⟨q', h3, .inl h2, .inl h1⟩
    · refine ⟨_, h3, .inr ⟨?_, ?_⟩, .inr ?_⟩
      · simp only [stepV]; omega
      · simp only [stepV]; omega
      · by_cases g : p.a.h + hopN e ≤ q'.a.h
        · left
          rw [Nat.min_eq_left g, h2]
          rfl
        · right
          refine ⟨q', h1, ?_⟩
          rw [Nat.min_eq_right (by omega)]
    · exact ⟨_, h3, leV_refl _, .inr (.inl rfl)⟩
  refine ⟨⟨hroot, ?_, ?_, h.nodup, ?_, ?_, ?_, ?_, ?_, ?_⟩, hu', hdone⟩
  · intro v q hq
    by_cases hvd : v = e.dst
    · rw [hvd]; exact hdm
    · rw [hoth v hvd] at hq; exact h.may v q hq
  · intro v hv
    rw [hdone v hv]
    exact h.had v hv
  · intro x hx
    rcases List.mem_append.1 hx with hx | hx
    · exact h.edges x hx
    · rw [List.mem_singleton] at hx
      rw [hx]
      exact ⟨he, hc, huO⟩
  · intro x hx px hpx
    rcases List.mem_append.1 hx with hx | hx
    · rw [hsrc x hx] at hpx
      obtain ⟨q, hq, hl⟩ := h.closed x hx px hpx
      obtain ⟨q', hq', hl'⟩ := hle _ q hq
      exact ⟨q', hq', leV_trans hl' hl⟩
    · rw [List.mem_singleton] at hx
      subst hx
      rw [hu'] at hpx
      cases hpx
      obtain ⟨q', hq', hl, -⟩ := hnew
      exact ⟨q', hq', hl⟩
  · intro v q hq hvr
    by_cases hvd : v = e.dst
    · subst hvd
      obtain ⟨q', hq', -, hor⟩ := hnew
      rw [hq] at hq'
      cases hq'
      have old : ∀ q0, T e.dst = some q0 → q.a = q0.a → ∃ x ∈ Z ++ [e], x.dst = e.dst ∧ ∃ p, T' x.src = some p ∧ q.a = stepV p.a x := by
        intro q0 h0 hqa
        obtain ⟨x, hx, hd, px, hpx, hxa⟩ := h.tight _ q0 h0 hvr
        exact ⟨x, List.mem_append_left _ hx, hd, px, by rw [hsrc x hx]; exact hpx, by rw [hqa, hxa]⟩
      rcases hor with h1 | h1 | ⟨q0, h1, h2⟩
      · exact old q h1 rfl
      · exact ⟨e, by simp, rfl, p, hu', h1⟩
      · exact old q0 h1 h2
    · rw [hoth v hvd] at hq
      obtain ⟨x, hx, hd, px, hpx, hxa⟩ := h.tight v q hq hvr
      exact ⟨x, List.mem_append_left _ hx, hd, px, by rw [hsrc x hx]; exact hpx, hxa⟩
  · intro v q hq hvr
    by_cases hvd : v = e.dst
    · subst hvd
      have split : ∀ (c : Nat) (h : Hp), (∃ x ∈ Z ++ [e], x.dst = e.dst ∧ ∃ p, T' x.src = some p ∧ c = p.a.c + x.cost.toNat ∧ h ∈ extH r x p.next) ↔ (∃ x ∈ Z, x.dst = e.dst ∧ ∃ p, T x.src = some p ∧ c = p.a.c + x.cost.toNat ∧ h ∈ extH r x p.next) ∨ (c = p.a.c + e.cost.toNat ∧ h ∈ extH r e p.next) := by
        intro c h
        constructor
        · rintro ⟨x, hx, hd, px, hpx, h1, h2⟩
          rcases List.mem_append.1 hx with hx | hx
          · exact .inl ⟨x, hx, hd, px, by rw [← hsrc x hx]; exact hpx, h1, h2⟩
          · rw [List.mem_singleton] at hx
            subst hx
            rw [hu'] at hpx
            cases hpx
            exact .inr ⟨h1, h2⟩
        · rintro (⟨x, hx, hd, px, hpx, h1, h2⟩ | ⟨h1, h2⟩)
          · exact ⟨x, List.mem_append_left _ hx, hd, px, by rw [hsrc x hx]; exact hpx, h1, h2⟩
          · exact ⟨e, by simp, rfl, p, hu', h1, h2⟩
      rcases hcase with ⟨q', h1, h2, h3⟩ | ⟨q', n, h1, h2, hj, h3⟩ | ⟨n, h1, hj, h3⟩
      · rw [h3] at hq
        cases hq
        obtain ⟨g1, g2⟩ := h.next _ q h1 hvr
        refine ⟨g1, fun hh => ?_⟩
        rw [split, g2]
        constructor
        · exact .inl
        · rintro (g | ⟨g, -⟩)
          · exact g
          · omega
      · rw [h3] at hq
        cases hq
        obtain ⟨g1, g2⟩ := h.next _ q' h1 hvr
        refine ⟨hj.sorted, fun hh => ?_⟩
        simp only
        rw [split, hj.mem, g2]
        constructor
        · rintro (g | g)
          · exact .inl g
          · exact .inr ⟨h2, g⟩
        · rintro (g | ⟨-, g⟩)
          · exact .inl g
          · exact .inr g
      · rw [h3] at hq
        cases hq
        refine ⟨hj.sorted, fun hh => ?_⟩
        simp only [stepV]
        rw [split, hj.mem]
        constructor
        · rintro (g | g)
          · cases g
          · exact .inr ⟨rfl, g⟩
        · rintro (⟨x, hx, hd, px, hpx, hxc, -⟩ | ⟨-, g⟩)
          · exfalso
            obtain ⟨q0, hq0, hl⟩ := h.closed x hx px hpx
            rw [hd] at hq0
            have := h1 q0 hq0
            unfold leV stepV at hl
            simp only at hl
            omega
          · exact .inr g
    · rw [hoth v hvd] at hq
      obtain ⟨g1, g2⟩ := h.next v q hq hvr
      refine ⟨g1, fun hh => ?_⟩
      rw [g2]
      constructor
      · rintro ⟨x, hx, hd, px, hpx, k1, k2⟩
        exact ⟨x, List.mem_append_left _ hx, hd, px, by rw [hsrc x hx]; exact hpx, k1, k2⟩
      · rintro ⟨x, hx, hd, px, hpx, k1, k2⟩
        rcases List.mem_append.1 hx with hx | hx
        · exact ⟨x, hx, hd, px, by rw [← hsrc x hx]; exact hpx, k1, k2⟩
        · rw [List.mem_singleton] at hx
          rw [hx] at hd
          exact absurd hd.symm hvd
  · intro x px v q hx hpx hv hq
    rw [hdone x hx] at hpx
    by_cases hvd : v = e.dst
    · subst hvd
      obtain ⟨q', hq', -, hor⟩ := hnew
      rw [hq] at hq'
      cases hq'
      rcases hor with h1 | h1 | ⟨q0, h1, h2⟩
      · exact h.order x px _ q hx hpx hv h1
      · have h2 := hlast x px hx hpx
        rw [h1]
        omega
      · have := h.order x px _ q0 hx hpx hv h1
        rw [h2]
        exact this
    · rw [hoth v hvd] at hq
      exact h.order x px v q hx hpx hv hq
  · intro v q hq
    by_cases hvd : v = e.dst
    · subst hvd
      obtain ⟨q', hq', -, hor⟩ := hnew
      rw [hq] at hq'
      cases hq'
      rcases hor with h1 | h1 | ⟨q0, h1, h2⟩
      · exact h.small _ q h1
      · rw [h1]
        unfold stepV
        simp only
        omega
      · have := h.small _ q0 h1
        rw [h2]
        exact this
    · rw [hoth v hvd] at hq
      exact h.small v q hq
/-- all is done -/
theorem Dij.ends (h : Dij E r O Z T) (hall : ∀ v p, T v = some p → v ∈ O) (hZ : ∀ e ∈ E, cntE e = true → e.src ∈ O → e ∈ Z) : IsDist E r (fun v => (T v).map (·.a)) ∧ IsNext E r (fun v => (T v).map (·.a)) (fun v => ((T v).map (·.next)).getD []) := by
  refine ⟨⟨by simp only [h.root]; rfl, ?_, ?_⟩, ⟨by simp only [h.root]; rfl, ?_⟩⟩
  · intro e he hc a ha
    obtain ⟨p, hp, rfl⟩ := Option.map_eq_some_iff.1 ha
    obtain ⟨q, hq, hl⟩ := h.closed e (hZ e he hc (hall _ p hp)) p hp
    exact ⟨q.a, by simp only [hq]; rfl, hl⟩
  · intro v a ha
    obtain ⟨q, hq, rfl⟩ := Option.map_eq_some_iff.1 ha
    by_cases hvr : v = r
    · exact .inl hvr
    · obtain ⟨e, he, hd, p, hp, hqa⟩ := h.tight v q hq hvr
      exact .inr ⟨e, (h.edges e he).1, (h.edges e he).2.1, hd, p.a, by simp only [hp]; rfl, hqa⟩
  · intro v a ha hvr hh
    obtain ⟨q, hq, rfl⟩ := Option.map_eq_some_iff.1 ha
    simp only [hq, Option.map_some, Option.getD_some]
    rw [(h.next v q hq hvr).2]
    constructor
    · rintro ⟨e, he, hd, p, hp, h1, h2⟩
      exact ⟨e, (h.edges e he).1, (h.edges e he).2.1, hd, p.a, by simp only [hp]; rfl, h1, by simp only [hp, Option.map_some, Option.getD_some]; exact h2⟩
    · rintro ⟨e, he, hc, hd, b, hb, h1, h2⟩
      obtain ⟨p, hp, rfl⟩ := Option.map_eq_some_iff.1 hb
      simp only [hp, Option.map_some, Option.getD_some] at h2
      exact ⟨e, hZ e he hc (hall _ p hp), hd, p, hp, h1, h2⟩
end

end Go.Proofs.YtpfjgecdlilkcaaGreat

/-
  Layer 21 in plain words: the nodes of a tree, and what holds of them.
-/
namespace Go.Proofs.YtpfjgecdlilkcaaGreat

theorem ltH_irr (a : Hp) : ¬ ltH a a := by unfold ltH; omega
theorem ltH_asy (a b : Hp) : ltH a b → ¬ ltH b a := by unfold ltH; omega
theorem ltH_tri (a b : Hp) : ltH a b ∨ a = b ∨ ltH b a := by
  obtain ⟨a1, a2⟩ := a
  obtain ⟨b1, b2⟩ := b
  unfold ltH
  simp only [Hp.mk.injEq]
  omega
theorem ltH_trans {a b c : Hp} (h : ltH a b) (g : ltH b c) : ltH a c := by unfold ltH at *; omega
theorem JoinH.unique {L M N N' : List Hp} (h : JoinH L M N) (h' : JoinH L M N') : N = N' := sorted_ext ltH_irr ltH_asy h.sorted h'.sorted fun e => by rw [h.mem, h'.mem]
def ltX (a b : Vx) : Prop := a.kind < b.kind ∨ (a.kind = b.kind ∧ a.id < b.id)
theorem ltX_irr (a : Vx) : ¬ ltX a a := by unfold ltX; omega
theorem ltX_asy (a b : Vx) : ltX a b → ¬ ltX b a := by unfold ltX; omega

/-- a node in plain words -/
structure Nk where
  v : Vx
  a : Val2
  next : List Hp
/-- the least values from every vertex -/
def Dists (E : List Ed) (DD : Vx → Vx → Option Val2) : Prop := ∀ r, IsDist E r (DD r)
theorem dists_are (E : List Ed) : ∃ DD, Dists E DD := by
  obtain ⟨f, hf⟩ := Classical.axiomOfChoice (fun r => dist_is E r)
  exact ⟨f, hf⟩
theorem dists_unique {E E' : List Ed} {DD DD' : Vx → Vx → Option Val2} (h : Dists E DD) (h' : Dists E' DD') (hE : ∀ e, cntE e = true → (e ∈ E ↔ e ∈ E')) : DD = DD' := by
  funext r
  exact (h r).unique (h' r) hE
/-- the tree of a root -/
structure TreeIs (E : List Ed) (DD : Vx → Vx → Option Val2) (r : Vx) (L : List Nk) : Prop where
  sorted : L.Pairwise fun x y => ltX x.v y.v
  has : ∀ v a, DD r v = some a → ∃ n ∈ L, n.v = v
  val : ∀ n ∈ L, DD r n.v = some n.a
  next : ∀ n ∈ L, n.next.Pairwise ltH ∧ ∀ h, h ∈ n.next ↔ isHop E DD r n.v h
theorem isHop_congr {E E' : List Ed} (hE : ∀ e, cntE e = true → (e ∈ E ↔ e ∈ E')) (DD : Vx → Vx → Option Val2) (r v : Vx) (h : Hp) : isHop E DD r v h → isHop E' DD r v h := by
  rintro ⟨e, he, hc, hs, a, ha, hh⟩
  refine ⟨e, (hE e hc).1 he, hc, hs, a, ha, ?_⟩
  rcases hh with g | ⟨f, hf, hfc, g⟩
  · exact .inl g
  · exact .inr ⟨f, (hE f hfc).1 hf, hfc, g⟩
theorem pairwise_map_key {L : List Nk} (h : L.Pairwise fun x y => ltX x.v y.v) : (L.map (·.v)).Pairwise ltX := by
  rw [List.pairwise_map]
  exact h
theorem tree_unique {E E' : List Ed} {DD DD' : Vx → Vx → Option Val2} {r : Vx} {L L' : List Nk} (hD : Dists E DD) (hD' : Dists E' DD') (h : TreeIs E DD r L) (h' : TreeIs E' DD' r L') (hE : ∀ e, cntE e = true → (e ∈ E ↔ e ∈ E')) : L = L' := by
  have hDD := dists_unique hD hD' hE
  subst hDD
  have hkeys : L.map (·.v) = L'.map (·.v) := by
    refine sorted_ext ltX_irr ltX_asy (pairwise_map_key h.sorted) (pairwise_map_key h'.sorted) fun v => ?_
    rw [List.mem_map, List.mem_map]
    constructor
    · rintro ⟨n, hn, rfl⟩
      exact h'.has _ _ (h.val n hn)
    · rintro ⟨n, hn, rfl⟩
      exact h.has _ _ (h'.val n hn)
  have hlen : L.length = L'.length := by simpa using congrArg List.length hkeys
  refine List.ext_getElem hlen fun i h1 h2 => ?_
  have hv : L[i].v = L'[i].v := by
    have h3 : (L.map (·.v))[i]'(by rw [List.length_map]; exact h1) = (L'.map (·.v))[i]'(by rw [List.length_map]; exact h2) := by
      congr 1
    simpa using h3
  have m1 := List.getElem_mem h1
  have m2 := List.getElem_mem h2
  have ha : L[i].a = L'[i].a := by
    have g1 := h.val _ m1
    have g2 := h'.val _ m2
    rw [hv, g2] at g1
    exact (Option.some.inj g1).symm
  have hx : L[i].next = L'[i].next := by
    refine sorted_ext ltH_irr ltH_asy (h.next _ m1).1 (h'.next _ m2).1 fun hp => ?_
    rw [(h.next _ m1).2, (h'.next _ m2).2, hv]
    exact ⟨isHop_congr hE _ _ _ _, isHop_congr (fun e hc => (hE e hc).symm) _ _ _ _⟩
  have same : ∀ x y : Nk, x.v = y.v → x.a = y.a → x.next = y.next → x = y := by
    rintro ⟨x1, x2, x3⟩ ⟨y1, y2, y3⟩ h1 h2 h3
    simp only at h1 h2 h3
    rw [h1, h2, h3]
  exact same _ _ hv ha hx
section
variable {E : List Ed} {r : Vx} {DD : Vx → Vx → Option Val2}
/-- a first hop goes on -/
theorem isHop_some (hD : Dists E DD) (hr : r.kind = 1) : ∀ v a, DD r v = some a → v = r ∨ ∃ h, isHop E DD r v h := by
  refine (hD r).induct (P := fun v _ => v = r ∨ ∃ h, isHop E DD r v h) (.inl rfl) ?_
  intro e he hc b hb hd hP
  right
  by_cases hs : e.src = r
  · refine ⟨_, e, he, hc, hs, _, hd, .inl ⟨rfl, ?_, rfl⟩⟩
    rw [hs, (hD r).root] at hb
    cases hb
    simp [stepV]
  · rcases hP with g | ⟨h, e1, he1, hc1, hs1, b', hb', hh⟩
    · exact absurd g hs
    rw [hb] at hb'
    cases hb'
    have hs1k : e1.fk = r.kind := by rw [← hs1]; rfl
    obtain ⟨-, -, hk1⟩ := cntE_iff.1 hc1
    obtain ⟨-, -, hk⟩ := cntE_iff.1 hc
    rcases hh with ⟨h1, h2, h3⟩ | ⟨f, hf, hfc, hfs, c, hcc, h2, h3⟩
    · have hk3 : e1.tk = e.fk := congrArg Vx.kind h1
      refine ⟨_, e1, he1, hc1, hs1, _, hd, .inr ⟨e, he, hc, h1.symm, ⟨0, 0⟩, (hD _).root, ?_, rfl⟩⟩
      unfold stepV
      simp only
      omega
    · obtain ⟨d, hd2, hle⟩ := (hD f.dst).closed e he hc c hcc
      obtain ⟨n1, hn1, hle1⟩ := (hD r).closed e1 he1 hc1 ⟨0, 0⟩ (by rw [hs1]; exact (hD r).root)
      obtain ⟨n2, hn2, hle2⟩ := (hD r).closed f hf hfc n1 (by rw [hfs]; exact hn1)
      obtain ⟨x, hx, hle3⟩ := dist_join hD hn2 hd2
      rw [hd] at hx
      cases hx
      refine ⟨_, e1, he1, hc1, hs1, _, hd, .inr ⟨f, hf, hfc, hfs, d, hd2, ?_, rfl⟩⟩
      obtain ⟨-, -, hfk⟩ := cntE_iff.1 hfc
      have hfsk : f.fk = e1.tk := congrArg Vx.kind hfs
      unfold leV stepV at hle hle1 hle2
      unfold stepV at hle3 ⊢
      simp only at hle hle1 hle2 hle3 h2 ⊢
      omega
/-- what a first hop is -/
theorem isHop_steps (hD : Dists E DD) (hr : r.kind = 1) (hm : mayV r = true) {v : Vx} {a : Val2} {h : Hp} (ha : DD r v = some a) (hh : isHop E DD r v h) :
    (h.id = 0 ∧ v.kind = 2 ∧ v.id / 16 = h.lan ∧ a.h = 1) ∨ (h.id ≠ 0 ∧ h.id ≠ r.id ∧ (1 ≤ h.id ∧ h.id ≤ 15) ∧ ∃ b y, DD ⟨1, h.id⟩ v = some b ∧ DD r ⟨1, h.id⟩ = some y ∧ b.c + y.c = a.c ∧ 1 ≤ y.c) := by
  obtain ⟨e, he, hc, hs, a', ha', hh⟩ := hh
  rw [ha] at ha'
  cases ha'
  have hsk : e.fk = r.kind := by rw [← hs]; rfl
  obtain ⟨-, -, hk⟩ := cntE_iff.1 hc
  obtain ⟨n1, hn1, hle1⟩ := (hD r).closed e he hc ⟨0, 0⟩ (by rw [hs]; exact (hD r).root)
  rcases hh with ⟨h1, h2, h3⟩ | ⟨f, hf, hfc, hfs, b, hb, h2, h3⟩
  · left
    subst h1
    rw [ha] at hn1
    cases hn1
    have hp := (hD r).pos hr _ _ ha
    rw [h3]
    refine ⟨rfl, ?_, rfl, ?_⟩
    · show e.tk = 2
      omega
    · unfold leV stepV hopN at hle1
      have htk : e.tk = 2 := by omega
      rw [if_pos htk] at hle1
      simp only at hle1
      rcases hp with ⟨-, hp⟩ | ⟨-, hp⟩
      · rw [hp] at h2
        simp only at h2
        omega
      · omega
  · right
    obtain ⟨-, hfm, hfk⟩ := cntE_iff.1 hfc
    have hfsk : f.fk = e.tk := congrArg Vx.kind hfs
    have hft : f.tk = 1 := by omega
    have hfd : f.dst = ⟨1, f.ti⟩ := by unfold Ed.dst; rw [hft]
    have hfi : 1 ≤ f.ti ∧ f.ti ≤ 15 := by
      rcases mayV_iff.1 hfm with ⟨-, q1, q2⟩ | ⟨q0, -, -⟩
      · rw [hfd] at q1 q2; exact ⟨q1, q2⟩
      · rw [hfd] at q0; simp only at q0; omega
    obtain ⟨n2, hn2, hle2⟩ := (hD r).closed f hf hfc n1 (by rw [hfs]; exact hn1)
    obtain ⟨x, hx, hle3⟩ := dist_join hD hn2 hb
    rw [ha] at hx
    cases hx
    rw [h3]
    unfold leV stepV at hle1 hle2
    simp only at hle1 hle2 h2 ⊢
    have hne : f.dst ≠ r := by
      intro e'
      rw [e', ha] at hb
      cases hb
      omega
    refine ⟨by omega, fun e' => hne ?_, hfi, b, n2, by rw [← hfd]; exact hb, by rw [← hfd]; exact hn2, by omega, ?_⟩
    · rw [hfd, e']
      cases r
      simp only at hr
      rw [hr]
    · rcases (hD r).pos hr _ _ hn2 with ⟨g, -⟩ | ⟨-, g, -⟩
      · exact absurd g hne
      · exact g
end

end Go.Proofs.YtpfjgecdlilkcaaGreat

/-
  Layer 21 in plain words: a hop into hops in order; a row in order, each once.
-/
namespace Go.Proofs.YtpfjgecdlilkcaaGreat

/-- one more, where it belongs -/
def insHp (h : Hp) : List Hp → List Hp
  | [] => [h]
  | a :: l => if h.lan < a.lan ∨ (h.lan = a.lan ∧ h.id < a.id) then h :: a :: l else a :: insHp h l
def addHp (h : Hp) (L : List Hp) : List Hp := if h ∈ L then L else insHp h L
theorem mem_ins {h x : Hp} : ∀ {L : List Hp}, x ∈ insHp h L ↔ x = h ∨ x ∈ L
  | [] => by simp [insHp]
  | a :: l => by
    unfold insHp
    split
    · simp
    · rw [List.mem_cons, mem_ins (L := l), List.mem_cons]
      constructor
      · rintro (h | h | h)
        · exact .inr (.inl h)
        · exact .inl h
        · exact .inr (.inr h)
      · rintro (h | h | h)
        · exact .inr (.inl h)
        · exact .inl h
        · exact .inr (.inr h)
theorem ins_sorted {h : Hp} : ∀ {L : List Hp}, L.Pairwise ltH → h ∉ L → (insHp h L).Pairwise ltH
  | [], _, _ => List.pairwise_singleton _ _
  | a :: l, hs, hn => by
    obtain ⟨h1, h2⟩ := List.pairwise_cons.1 hs
    unfold insHp
    split
    · rename_i hlt
      refine List.pairwise_cons.2 ⟨fun x hx => ?_, hs⟩
      rcases List.mem_cons.1 hx with rfl | hx
      · exact hlt
      · exact ltH_trans hlt (h1 x hx)
    · rename_i hlt
      refine List.pairwise_cons.2 ⟨fun x hx => ?_, ins_sorted h2 (fun hm => hn (List.mem_cons_of_mem _ hm))⟩
      rcases mem_ins.1 hx with rfl | hx
      · rcases ltH_tri a x with g | g | g
        · exact g
        · exact absurd (g ▸ List.mem_cons_self) hn
        · exact absurd g hlt
      · exact h1 x hx
theorem mem_add {h x : Hp} {L : List Hp} : x ∈ addHp h L ↔ x = h ∨ x ∈ L := by
  unfold addHp
  split
  · rename_i hm
    constructor
    · exact .inr
    · rintro (rfl | h)
      · exact hm
      · exact h
  · exact mem_ins
theorem add_sorted {h : Hp} {L : List Hp} (hs : L.Pairwise ltH) : (addHp h L).Pairwise ltH := by
  unfold addHp
  split
  · exact hs
  · rename_i hm
    exact ins_sorted hs hm
theorem ins_len (h : Hp) : ∀ L : List Hp, (insHp h L).length = L.length + 1
  | [] => rfl
  | a :: l => by
    unfold insHp
    split
    · simp
    · rw [List.length_cons, ins_len h l, List.length_cons]
theorem ins_none {h : Hp} : ∀ {L : List Hp}, (∀ p ∈ L, ¬ ltH h p) → insHp h L = L ++ [h]
  | [], _ => rfl
  | a :: l, hn => by
    unfold insHp
    rw [if_neg (show ¬ (h.lan < a.lan ∨ (h.lan = a.lan ∧ h.id < a.id)) from hn a List.mem_cons_self), ins_none (fun p hp => hn p (List.mem_cons_of_mem _ hp))]
    rfl
theorem ins_app {h : Hp} {M : List Hp} : ∀ {L : List Hp}, (∀ p ∈ L, ¬ ltH h p) → insHp h (L ++ M) = L ++ insHp h M
  | [], _ => rfl
  | a :: l, hn => by
    rw [List.cons_append]
    conv => lhs; unfold insHp
    rw [if_neg (show ¬ (h.lan < a.lan ∨ (h.lan = a.lan ∧ h.id < a.id)) from hn a List.mem_cons_self), ins_app (fun p hp => hn p (List.mem_cons_of_mem _ hp))]
    rfl
theorem ins_done {h : Hp} {M : List Hp} : ∀ {L : List Hp}, (∃ p ∈ L, ltH h p) → insHp h (L ++ M) = insHp h L ++ M
  | [], hn => by obtain ⟨p, hp, -⟩ := hn; cases hp
  | a :: l, hn => by
    rw [List.cons_append]
    unfold insHp
    by_cases ha : h.lan < a.lan ∨ (h.lan = a.lan ∧ h.id < a.id)
    · rw [if_pos ha, if_pos ha]; rfl
    · rw [if_neg ha, if_neg ha, List.cons_append]
      obtain ⟨p, hp, hl⟩ := hn
      rcases List.mem_cons.1 hp with rfl | hp
      · exact absurd hl ha
      · rw [ins_done ⟨p, hp, hl⟩]

/-- the first n of a row, but those that are like the one ahead -/
def cptN {α : Type} [DecidableEq α] (L : List α) : Nat → List α
  | 0 => []
  | 1 => L.take 1
  | n + 2 => if L[n + 1]? = L[n]? then cptN L (n + 1) else cptN L (n + 1) ++ (L[n + 1]?).toList
def cptL {α : Type} [DecidableEq α] (L : List α) : List α := cptN L L.length
section
variable {α : Type} [DecidableEq α] {L : List α}
theorem cptN_len : ∀ n, (cptN L n).length ≤ n
  | 0 => Nat.le_refl _
  | 1 => by show (L.take 1).length ≤ 1; rw [List.length_take]; omega
  | n + 2 => by
    have ih := cptN_len (n + 1)
    unfold cptN
    split
    · omega
    · rw [List.length_append]
      have : (L[n + 1]?).toList.length ≤ 1 := by cases L[n + 1]? <;> simp
      omega
theorem cptN_pos (h0 : 0 < L.length) : ∀ n, 0 < n → 0 < (cptN L n).length
  | 0, h => absurd h (by omega)
  | 1, _ => by show 0 < (L.take 1).length; rw [List.length_take]; omega
  | n + 2, _ => by
    have ih := cptN_pos h0 (n + 1) (by omega)
    unfold cptN
    split
    · exact ih
    · rw [List.length_append]; omega
theorem cptN_same {n : Nat} (h : n + 1 < L.length) (e : L[n + 1] = L[n]) : cptN L (n + 2) = cptN L (n + 1) := by
  conv => lhs; unfold cptN
  rw [if_pos (by rw [List.getElem?_eq_getElem h, List.getElem?_eq_getElem (by omega), e])]
theorem cptN_new {n : Nat} (h : n + 1 < L.length) (e : L[n + 1] ≠ L[n]) : cptN L (n + 2) = cptN L (n + 1) ++ [L[n + 1]] := by
  conv => lhs; unfold cptN
  rw [if_neg (by rw [List.getElem?_eq_getElem h, List.getElem?_eq_getElem (by omega)]; intro e'; injection e' with e'; exact e e'), List.getElem?_eq_getElem h]
  rfl
theorem cptN_take : ∀ n, n ≤ L.length → (∀ i (h : i + 1 < n) (hn : n ≤ L.length), L[i + 1]'(by omega) ≠ L[i]'(by omega)) → cptN L n = L.take n
  | 0, _, _ => rfl
  | 1, _, _ => rfl
  | n + 2, hn, h => by
    rw [cptN_new (by omega) (h n (by omega) hn), cptN_take (n + 1) (by omega) (fun i hi _ => h i (by omega) hn)]
    exact (List.take_succ_eq_append_getElem (by omega)).symm
/-- the last of them is the last one -/
theorem cptN_last : ∀ n (hn : n < L.length), (cptN L (n + 1)).getLast? = some L[n]
  | 0, hn => by
    show (L.take 1).getLast? = _
    cases L with
    | nil => simp at hn
    | cons a l => simp
  | n + 1, hn => by
    by_cases e : L[n + 1] = L[n]
    · rw [cptN_same hn e, cptN_last n (by omega), e]
    · rw [cptN_new hn e]; simp
theorem cptN_mem : ∀ n, n ≤ L.length → ∀ x, x ∈ cptN L n ↔ x ∈ L.take n
  | 0, _, x => by simp [cptN]
  | 1, _, x => by simp [cptN]
  | n + 2, hn, x => by
    have ih := cptN_mem (n + 1) (by omega) x
    rw [List.take_succ_eq_append_getElem (by omega : n + 1 < L.length), List.mem_append, List.mem_singleton, ← ih]
    by_cases e : L[n + 1] = L[n]
    · rw [cptN_same (by omega) e]
      constructor
      · exact .inl
      · rintro (h | h)
        · exact h
        · rw [h, e]
          exact List.mem_of_getLast? (cptN_last n (by omega))
    · rw [cptN_new (by omega) e, List.mem_append, List.mem_singleton]
/-- of a row in order: each once -/
theorem cptN_sorted {R : α → α → Prop} (tri : ∀ a b, R a b ∨ a = b ∨ R b a) (tr : ∀ a b c, R a b → R b c → R a c) (hs : L.Pairwise fun a b => ¬ R b a) : ∀ n, n ≤ L.length → (cptN L n).Pairwise R
  | 0, _ => List.Pairwise.nil
  | 1, _ => by
    show (L.take 1).Pairwise R
    cases L <;> simp
  | n + 2, hn => by
    have ih := cptN_sorted tri tr hs (n + 1) (by omega)
    by_cases e : L[n + 1] = L[n]
    · rw [cptN_same (by omega) e]; exact ih
    · rw [cptN_new (by omega) e]
      have hlt : R L[n] L[n + 1] := by
        rcases tri L[n] L[n + 1] with g | g | g
        · exact g
        · exact absurd g.symm e
        · exact absurd g (List.pairwise_iff_getElem.1 hs n (n + 1) (by omega) (by omega) (by omega))
      refine List.pairwise_append.2 ⟨ih, List.pairwise_singleton _ _, fun a ha b hb => ?_⟩
      rw [List.mem_singleton] at hb
      subst hb
      have hm := (cptN_mem (n + 1) (by omega) a).1 ha
      rw [List.mem_take_iff_getElem] at hm
      obtain ⟨i, hi, rfl⟩ := hm
      by_cases hin : i = n
      · subst hin; exact hlt
      · have h1 := List.pairwise_iff_getElem.1 hs i n (by omega) (by omega) (by omega)
        rcases tri L[i] L[n] with g | g | g
        · exact tr _ _ _ g hlt
        · rw [g]; exact hlt
        · exact absurd g h1
theorem cptL_mem (x : α) : x ∈ cptL L ↔ x ∈ L := by
  unfold cptL
  rw [cptN_mem _ (Nat.le_refl _), List.take_length]
end
/-- hops of both, sorted, each once -/
theorem join_cpt {A B M : List Hp} (hp : ∀ x, x ∈ M ↔ x ∈ A ∨ x ∈ B) (hs : M.Pairwise fun a b => ¬ ltH b a) : JoinH A B (cptL M) :=
  ⟨cptN_sorted ltH_tri (fun _ _ _ => ltH_trans) hs _ (Nat.le_refl _), fun h => by rw [cptL_mem, hp]⟩

/-- all that might be, in order -/
def ordV : List Vx := (List.range 64).map (fun i : Nat => ⟨1, (i : Int)⟩) ++ (List.range 64).map (fun i : Nat => ⟨2, (i : Int)⟩)
theorem ordV_sorted : ordV.Pairwise ltX := by
  unfold ordV
  have hp : ∀ k : Int, ((List.range 64).map fun i : Nat => (⟨k, (i : Int)⟩ : Vx)).Pairwise ltX := by
    intro k
    rw [List.pairwise_map]
    refine List.pairwise_lt_range.imp ?_
    intro a b h
    right
    exact ⟨rfl, by simp only; omega⟩
  refine List.pairwise_append.2 ⟨hp 1, hp 2, ?_⟩
  intro a ha b hb
  obtain ⟨i, -, rfl⟩ := List.mem_map.1 ha
  obtain ⟨j, -, rfl⟩ := List.mem_map.1 hb
  left
  show (1 : Int) < 2
  decide
theorem ordV_mem {v : Vx} (h : mayV v = true) : v ∈ ordV := by
  obtain ⟨k, i⟩ := v
  unfold ordV
  rw [List.mem_append, List.mem_map, List.mem_map]
  rcases mayV_iff.1 h with ⟨h1, h2, h3⟩ | ⟨h1, h2, h3⟩
  · simp only at h1 h2 h3
    exact .inl ⟨i.toNat, by rw [List.mem_range]; omega, by rw [h1, Int.toNat_of_nonneg (by omega)]⟩
  · simp only at h1 h2 h3
    exact .inr ⟨i.toNat, by rw [List.mem_range]; omega, by rw [h1, Int.toNat_of_nonneg (by omega)]⟩
def nodeO (T : Vx → Option (Val2 × List Hp)) (v : Vx) : List Nk := match T v with
  | some x => [⟨v, x.1, x.2⟩]
  | none => []
def nodesO (T : Vx → Option (Val2 × List Hp)) (L : List Vx) : List Nk := L.flatMap (nodeO T)
theorem mem_nodeO {T : Vx → Option (Val2 × List Hp)} {v : Vx} {n : Nk} : n ∈ nodeO T v ↔ n.v = v ∧ T v = some (n.a, n.next) := by
  unfold nodeO
  cases h : T v with
  | none => simp
  | some x =>
    obtain ⟨a, l⟩ := x
    simp only [List.mem_singleton, Option.some.injEq, Prod.mk.injEq]
    constructor
    · rintro rfl; exact ⟨rfl, rfl, rfl⟩
    · rintro ⟨rfl, rfl, rfl⟩; rfl
theorem mem_nodesO {T : Vx → Option (Val2 × List Hp)} {L : List Vx} {n : Nk} : n ∈ nodesO T L ↔ n.v ∈ L ∧ T n.v = some (n.a, n.next) := by
  unfold nodesO
  rw [List.mem_flatMap]
  constructor
  · rintro ⟨v, hv, hn⟩
    obtain ⟨rfl, h⟩ := mem_nodeO.1 hn
    exact ⟨hv, h⟩
  · rintro ⟨hv, h⟩
    exact ⟨_, hv, mem_nodeO.2 ⟨rfl, h⟩⟩
theorem nodesO_sorted {T : Vx → Option (Val2 × List Hp)} : ∀ {L : List Vx}, L.Pairwise ltX → (nodesO T L).Pairwise fun x y => ltX x.v y.v
  | [], _ => List.Pairwise.nil
  | v :: L, h => by
    obtain ⟨h1, h2⟩ := List.pairwise_cons.1 h
    have ih := nodesO_sorted (T := T) h2
    show (nodeO T v ++ nodesO T L).Pairwise _
    refine List.pairwise_append.2 ⟨?_, ih, fun a ha b hb => ?_⟩
    · unfold nodeO
      cases T v <;> simp
    · obtain ⟨rfl, -⟩ := mem_nodeO.1 ha
      exact h1 _ (mem_nodesO.1 hb).1
/-- what the document lists is the tree -/
theorem tree_of_ord {E : List Ed} {r : Vx} {DD : Vx → Vx → Option Val2} {T : Vx → Option (Val2 × List Hp)} (hD : Dists E DD) (hm : mayV r = true) (h1 : ∀ v, (T v).map (·.1) = DD r v) (h2 : ∀ v a n, T v = some (a, n) → n.Pairwise ltH ∧ ∀ h, h ∈ n ↔ isHop E DD r v h) : TreeIs E DD r (nodesO T ordV) where
  sorted := nodesO_sorted ordV_sorted
  has := fun v a ha => by
    have := (hD r).may hm v a ha
    rw [← h1] at ha
    obtain ⟨x, hx, -⟩ := Option.map_eq_some_iff.1 ha
    exact ⟨⟨v, x.1, x.2⟩, mem_nodesO.2 ⟨ordV_mem this, hx⟩, rfl⟩
  val := fun n hn => by
    rw [← h1, (mem_nodesO.1 hn).2]
    rfl
  next := fun n hn => h2 _ _ _ (mem_nodesO.1 hn).2

end Go.Proofs.YtpfjgecdlilkcaaGreat

/-
  Layer 22 in plain words: the ends of a network, the cheapest ones; the routes.
-/
namespace Go.Proofs.YtpfjgecdlilkcaaGreat

structure Rt where
  kind : Int
  id : Int
  cost : Nat
  next : List Hp
abbrev EndV := Nat × List Hp
/-- the cheapest of the ends, and the hops of all that are as cheap -/
structure EndsAt (X : List EndV) (c : Nat) (N : List Hp) : Prop where
  had : ∃ x ∈ X, x.1 = c
  min : ∀ x ∈ X, c ≤ x.1
  sorted : N.Pairwise ltH
  mem : ∀ h, h ∈ N ↔ ∃ x ∈ X, x.1 = c ∧ h ∈ x.2
def EndsO (X : List EndV) : Option EndV → Prop
  | none => X = []
  | some p => EndsAt X p.1 p.2
theorem EndsO.unique {X X' : List EndV} {o o' : Option EndV} (h : EndsO X o) (h' : EndsO X' o') (hX : ∀ x, x ∈ X ↔ x ∈ X') : o = o' := by
  cases o with
  | none =>
    cases o' with
    | none => rfl
    | some p =>
      obtain ⟨x, hx, -⟩ := EndsAt.had h'
      have h0 : X = [] := h
      rw [← hX, h0] at hx
      cases hx
  | some p =>
    cases o' with
    | none =>
      obtain ⟨x, hx, -⟩ := EndsAt.had h
      have h0 : X' = [] := h'
      rw [hX, h0] at hx
      cases hx
    | some q =>
      obtain ⟨c, N⟩ := p
      obtain ⟨d, M⟩ := q
      have h1 : EndsAt X c N := h
      have h2 : EndsAt X' d M := h'
      have hcd : c = d := by
        obtain ⟨x, hx, e⟩ := h1.had
        obtain ⟨y, hy, e'⟩ := h2.had
        have g1 := h1.min y ((hX y).2 hy)
        have g2 := h2.min x ((hX x).1 hx)
        omega
      subst hcd
      have hNM : N = M := sorted_ext ltH_irr ltH_asy h1.sorted h2.sorted fun e => by
        rw [h1.mem, h2.mem]
        constructor
        · rintro ⟨x, hx, g⟩; exact ⟨x, (hX x).1 hx, g⟩
        · rintro ⟨x, hx, g⟩; exact ⟨x, (hX x).2 hx, g⟩
      rw [hNM]
theorem EndsO.first {c : Nat} {n N : List Hp} (hj : JoinH [] n N) : EndsO ([] ++ [((c, n) : EndV)]) (some (c, N)) where
  had := ⟨(c, n), by simp, rfl⟩
  min := fun x hx => by simp at hx; rw [hx]; exact Nat.le_refl _
  sorted := hj.sorted
  mem := fun h => by rw [hj.mem]; simp
theorem EndsO.less {X : List EndV} {c d : Nat} {n N M : List Hp} (h : EndsO X (some (d, M))) (hlt : c < d) (hj : JoinH [] n N) : EndsO (X ++ [(c, n)]) (some (c, N)) where
  had := ⟨(c, n), by simp, rfl⟩
  min := fun x hx => by
    rcases List.mem_append.1 hx with hx | hx
    · have := EndsAt.min h x hx
      simp only at this ⊢
      omega
    · rw [List.mem_singleton] at hx; rw [hx]; exact Nat.le_refl _
  sorted := hj.sorted
  mem := fun x => by
    rw [hj.mem]
    constructor
    · rintro (g | g)
      · cases g
      · exact ⟨(c, n), by simp, rfl, g⟩
    · rintro ⟨y, hy, e, g⟩
      rcases List.mem_append.1 hy with hy | hy
      · have := EndsAt.min h y hy
        simp only at this e
        omega
      · rw [List.mem_singleton] at hy; subst hy; exact .inr g
theorem EndsO.same {X : List EndV} {c : Nat} {n N M : List Hp} (h : EndsO X (some (c, M))) (hj : JoinH M n N) : EndsO (X ++ [(c, n)]) (some (c, N)) where
  had := ⟨(c, n), by simp, rfl⟩
  min := fun x hx => by
    rcases List.mem_append.1 hx with hx | hx
    · exact EndsAt.min h x hx
    · rw [List.mem_singleton] at hx; rw [hx]; exact Nat.le_refl _
  sorted := hj.sorted
  mem := fun x => by
    rw [hj.mem]
    have hm := EndsAt.mem h x
    simp only at hm
    rw [hm]
    constructor
    · rintro (⟨y, hy, g⟩ | g)
      · exact ⟨y, List.mem_append_left _ hy, g⟩
      · exact ⟨(c, n), by simp, rfl, g⟩
    · rintro ⟨y, hy, e, g⟩
      rcases List.mem_append.1 hy with hy | hy
      · exact .inl ⟨y, hy, e, g⟩
      · rw [List.mem_singleton] at hy; subst hy; exact .inr g
theorem EndsO.more {X : List EndV} {c d : Nat} {n M : List Hp} (h : EndsO X (some (d, M))) (hlt : d < c) : EndsO (X ++ [(c, n)]) (some (d, M)) where
  had := by obtain ⟨x, hx, e⟩ := EndsAt.had h; exact ⟨x, List.mem_append_left _ hx, e⟩
  min := fun x hx => by
    rcases List.mem_append.1 hx with hx | hx
    · exact EndsAt.min h x hx
    · rw [List.mem_singleton] at hx; subst hx; simp only; omega
  sorted := EndsAt.sorted h
  mem := fun x => by
    have hm := EndsAt.mem h x
    rw [hm]
    simp only
    constructor
    · rintro ⟨y, hy, g⟩; exact ⟨y, List.mem_append_left _ hy, g⟩
    · rintro ⟨y, hy, e, g⟩
      rcases List.mem_append.1 hy with hy | hy
      · exact ⟨y, hy, e, g⟩
      · rw [List.mem_singleton] at hy; subst hy; simp only at e; omega

def nodeEnd (lan : Int) (n : Nk) : List EndV := if n.v.kind = 2 ∧ n.v.id / 16 = lan then [(n.a.c, n.next)] else []
def nodeEnds (lan : Int) (nodes : List Nk) : List EndV := nodes.flatMap (nodeEnd lan)
def leafEnd (self lan : Int) (f : Lf) (n : Nk) : List EndV := if f.lan = lan ∧ n.v = ⟨1, f.router⟩ then [(n.a.c + f.cost.toNat, if f.router = self then [⟨lan, 0⟩] else n.next)] else []
def leafEnds (self lan : Int) (nodes : List Nk) (leaves : List Lf) : List EndV := leaves.flatMap fun f => nodes.flatMap (leafEnd self lan f)
def endsV (self lan : Int) (nodes : List Nk) (leaves : List Lf) : List EndV := nodeEnds lan nodes ++ leafEnds self lan nodes leaves
theorem mem_nodeEnds {lan : Int} {nodes : List Nk} {x : EndV} : x ∈ nodeEnds lan nodes ↔ ∃ n ∈ nodes, n.v.kind = 2 ∧ n.v.id / 16 = lan ∧ x = (n.a.c, n.next) := by
  unfold nodeEnds nodeEnd
  rw [List.mem_flatMap]
  constructor
  · rintro ⟨n, hn, h⟩
    split at h
    · rename_i hc
      rw [List.mem_singleton] at h
      exact ⟨n, hn, hc.1, hc.2, h⟩
    · cases h
  · rintro ⟨n, hn, h1, h2, h3⟩
    refine ⟨n, hn, ?_⟩
    rw [if_pos ⟨h1, h2⟩, List.mem_singleton]
    exact h3
theorem mem_leafEnds {self lan : Int} {nodes : List Nk} {leaves : List Lf} {x : EndV} : x ∈ leafEnds self lan nodes leaves ↔ ∃ f ∈ leaves, ∃ n ∈ nodes, f.lan = lan ∧ n.v = ⟨1, f.router⟩ ∧ x = (n.a.c + f.cost.toNat, if f.router = self then [⟨lan, 0⟩] else n.next) := by
  unfold leafEnds leafEnd
  rw [List.mem_flatMap]
  constructor
  · rintro ⟨f, hf, h⟩
    obtain ⟨n, hn, h⟩ := List.mem_flatMap.1 h
    split at h
    · rename_i hc
      rw [List.mem_singleton] at h
      exact ⟨f, hf, n, hn, hc.1, hc.2, h⟩
    · cases h
  · rintro ⟨f, hf, n, hn, h1, h2, h3⟩
    refine ⟨f, hf, List.mem_flatMap.2 ⟨n, hn, ?_⟩⟩
    rw [if_pos ⟨h1, h2⟩, List.mem_singleton]
    exact h3
theorem mem_endsV {self lan : Int} {nodes : List Nk} {leaves : List Lf} {x : EndV} : x ∈ endsV self lan nodes leaves ↔ (∃ n ∈ nodes, n.v.kind = 2 ∧ n.v.id / 16 = lan ∧ x = (n.a.c, n.next)) ∨ (∃ f ∈ leaves, ∃ n ∈ nodes, f.lan = lan ∧ n.v = ⟨1, f.router⟩ ∧ x = (n.a.c + f.cost.toNat, if f.router = self then [⟨lan, 0⟩] else n.next)) := by
  unfold endsV
  rw [List.mem_append, mem_nodeEnds, mem_leafEnds]
def rtOf (self : Int) (n : Nk) : List Rt := if n.v.kind = 1 ∧ n.v.id ≠ self then [⟨1, n.v.id, n.a.c, n.next⟩] else []
def rtsOf (self : Int) (nodes : List Nk) : List Rt := nodes.flatMap (rtOf self)
def netOf (o : Int → Option EndV) (lan : Int) : List Rt := match o lan with
  | some p => [⟨2, lan, p.1, p.2⟩]
  | none => []
def netsOf (o : Int → Option EndV) (X : List Int) : List Rt := X.flatMap (netOf o)
/-- a router's routes by its tree -/
def RoutesAre (self : Int) (nodes : List Nk) (leaves : List Lf) (L : List Rt) : Prop :=
  ∃ o : Int → Option EndV, (∀ lan, 0 ≤ lan → lan ≤ 3 → EndsO (endsV self lan nodes leaves) (o lan)) ∧ L = rtsOf self nodes ++ netsOf o [0, 1, 2, 3]
theorem routes_unique {self : Int} {nodes : List Nk} {leaves : List Lf} {L L' : List Rt} (h : RoutesAre self nodes leaves L) (h' : RoutesAre self nodes leaves L') : L = L' := by
  obtain ⟨o, ho, rfl⟩ := h
  obtain ⟨o', ho', rfl⟩ := h'
  have e : ∀ lan, 0 ≤ lan → lan ≤ 3 → o lan = o' lan := fun lan h1 h2 => (ho lan h1 h2).unique (ho' lan h1 h2) fun _ => Iff.rfl
  simp only [netsOf, List.flatMap_cons, List.flatMap_nil, netOf, e 0 (by decide) (by decide), e 1 (by decide) (by decide), e 2 (by decide) (by decide), e 3 (by decide) (by decide)]
theorem mem_rts {self : Int} {nodes : List Nk} {x : Rt} : x ∈ rtsOf self nodes ↔ ∃ n ∈ nodes, n.v.kind = 1 ∧ n.v.id ≠ self ∧ x = ⟨1, n.v.id, n.a.c, n.next⟩ := by
  unfold rtsOf rtOf
  rw [List.mem_flatMap]
  constructor
  · rintro ⟨n, hn, h⟩
    split at h
    · rename_i hc
      rw [List.mem_singleton] at h
      exact ⟨n, hn, hc.1, hc.2, h⟩
    · cases h
  · rintro ⟨n, hn, h1, h2, h3⟩
    refine ⟨n, hn, ?_⟩
    rw [if_pos ⟨h1, h2⟩, List.mem_singleton]
    exact h3
theorem mem_nets {o : Int → Option EndV} {X : List Int} {x : Rt} : x ∈ netsOf o X ↔ ∃ lan ∈ X, ∃ p, o lan = some p ∧ x = ⟨2, lan, p.1, p.2⟩ := by
  unfold netsOf netOf
  rw [List.mem_flatMap]
  constructor
  · rintro ⟨lan, hl, h⟩
    split at h
    · rename_i p hp
      rw [List.mem_singleton] at h
      exact ⟨lan, hl, p, hp, h⟩
    · cases h
  · rintro ⟨lan, hl, p, hp, h⟩
    refine ⟨lan, hl, ?_⟩
    rw [hp]
    simpa using h
theorem RoutesAre.router {self : Int} {nodes : List Nk} {leaves : List Lf} {L : List Rt} (h : RoutesAre self nodes leaves L) {x : Rt} (h1 : x.kind = 1) : x ∈ L ↔ ∃ n ∈ nodes, n.v = ⟨1, x.id⟩ ∧ x.id ≠ self ∧ x.cost = n.a.c ∧ x.next = n.next := by
  obtain ⟨o, ho, rfl⟩ := h
  rw [List.mem_append, mem_rts, mem_nets]
  obtain ⟨k, i, c, N⟩ := x
  simp only at h1
  subst h1
  constructor
  · rintro (⟨n, hn, g1, g2, g3⟩ | ⟨lan, -, p, -, g⟩)
    · injection g3 with e1 e2 e3 e4
      subst e2 e3 e4
      refine ⟨n, hn, ?_, g2, rfl, rfl⟩
      obtain ⟨⟨a, b⟩, _, _⟩ := n
      simp only at g1
      rw [g1]
    · injection g with e1 e2 e3 e4
      exact absurd e1 (by decide)
  · rintro ⟨n, hn, g1, g2, g3, g4⟩
    left
    simp only at g1 g2 g3 g4
    refine ⟨n, hn, by rw [g1], by rw [g1]; exact g2, ?_⟩
    rw [g1, g3, g4]
theorem RoutesAre.net {self : Int} {nodes : List Nk} {leaves : List Lf} {L : List Rt} (h : RoutesAre self nodes leaves L) {x : Rt} (h1 : x.kind = 2) : x ∈ L ↔ (0 ≤ x.id ∧ x.id ≤ 3) ∧ EndsAt (endsV self x.id nodes leaves) x.cost x.next := by
  obtain ⟨o, ho, rfl⟩ := h
  rw [List.mem_append, mem_rts, mem_nets]
  obtain ⟨k, i, c, N⟩ := x
  simp only at h1
  subst h1
  constructor
  · rintro (⟨n, hn, g1, g2, g3⟩ | ⟨lan, hl, p, hp, g⟩)
    · injection g3 with e1 e2 e3 e4
      exact absurd e1 (by decide)
    · injection g with e1 e2 e3 e4
      subst e2 e3 e4
      have hr : 0 ≤ i ∧ i ≤ 3 := by simp at hl; omega
      refine ⟨hr, ?_⟩
      have := ho i hr.1 hr.2
      rw [hp] at this
      exact this
  · rintro ⟨hr, g⟩
    right
    have h2 := ho i hr.1 hr.2
    simp only at hr
    refine ⟨i, by simp; omega, (c, N), ?_, rfl⟩
    exact h2.unique (o' := some (c, N)) g fun _ => Iff.rfl
/-- each is a router's or a network's -/
theorem RoutesAre.kinds {self : Int} {nodes : List Nk} {leaves : List Lf} {L : List Rt} (h : RoutesAre self nodes leaves L) : ∀ x ∈ L, x.kind = 1 ∨ x.kind = 2 := by
  obtain ⟨o, ho, rfl⟩ := h
  intro x hx
  rw [List.mem_append, mem_rts, mem_nets] at hx
  rcases hx with ⟨n, hn, g1, g2, rfl⟩ | ⟨lan, hl, p, hp, rfl⟩
  · exact .inl rfl
  · exact .inr rfl
def ltR (a b : Rt) : Prop := a.kind < b.kind ∨ (a.kind = b.kind ∧ a.id < b.id)
theorem RoutesAre.sorted {self : Int} {nodes : List Nk} {leaves : List Lf} {L : List Rt} (h : RoutesAre self nodes leaves L) (hs : nodes.Pairwise fun x y => ltX x.v y.v) : L.Pairwise ltR := by
  obtain ⟨o, ho, rfl⟩ := h
  refine List.pairwise_append.2 ⟨?_, ?_, ?_⟩
  · clear ho
    unfold rtsOf
    induction nodes with
    | nil => exact List.Pairwise.nil
    | cons n l ih =>
      obtain ⟨h1, h2⟩ := List.pairwise_cons.1 hs
      rw [List.flatMap_cons]
      refine List.pairwise_append.2 ⟨?_, ih h2, ?_⟩
      · unfold rtOf
        split <;> simp
      · intro a ha b hb
        have hb' : b ∈ rtsOf self l := hb
        obtain ⟨m, hm, g1, g2, rfl⟩ := mem_rts.1 hb'
        have ha' : a ∈ rtsOf self [n] := by unfold rtsOf; simpa using ha
        obtain ⟨n', hn', g3, g4, rfl⟩ := mem_rts.1 ha'
        rw [List.mem_singleton] at hn'
        subst hn'
        rcases h1 m hm with g | ⟨g, g'⟩
        · omega
        · exact .inr ⟨rfl, g'⟩
  · have hp : ∀ X : List Int, X.Pairwise (fun a b => a < b) → (netsOf o X).Pairwise ltR := by
      intro X
      induction X with
      | nil => intro _; exact List.Pairwise.nil
      | cons i X ih =>
        intro hX
        obtain ⟨h1, h2⟩ := List.pairwise_cons.1 hX
        unfold netsOf
        rw [List.flatMap_cons]
        refine List.pairwise_append.2 ⟨?_, ih h2, ?_⟩
        · unfold netOf
          split <;> simp
        · intro a ha b hb
          have hb' : b ∈ netsOf o X := hb
          obtain ⟨j, hj, p, hp, rfl⟩ := mem_nets.1 hb'
          have ha' : a ∈ netsOf o [i] := by unfold netsOf; simpa using ha
          obtain ⟨i', hi', q, hq, rfl⟩ := mem_nets.1 ha'
          rw [List.mem_singleton] at hi'
          subst hi'
          exact .inr ⟨rfl, h1 j hj⟩
    exact hp _ (by decide)
  · intro a ha b hb
    obtain ⟨n, hn, g1, g2, rfl⟩ := mem_rts.1 ha
    obtain ⟨j, hj, p, hp, rfl⟩ := mem_nets.1 hb
    exact .inl (show (1 : Int) < 2 by decide)
theorem ltR_irr (a : Rt) : ¬ ltR a a := by unfold ltR; omega
/-- one of a kind and number alone -/
theorem route_one {L : List Rt} (hs : L.Pairwise ltR) {x y : Rt} (hx : x ∈ L) (hy : y ∈ L) (hk : x.kind = y.kind) (hi : x.id = y.id) : x = y := by
  obtain ⟨i, h1, rfl⟩ := List.getElem_of_mem hx
  obtain ⟨j, h2, rfl⟩ := List.getElem_of_mem hy
  rcases Nat.lt_trichotomy i j with h | h | h
  · have := List.pairwise_iff_getElem.1 hs i j h1 h2 h
    unfold ltR at this
    omega
  · subst h; rfl
  · have := List.pairwise_iff_getElem.1 hs j i h2 h1 h
    unfold ltR at this
    omega

end Go.Proofs.YtpfjgecdlilkcaaGreat

/-
  clear of the end of a row of structs that the call made itself, whatever the struct; the row is cut there.
-/
namespace Go.Proofs.YtpfjgecdlilkcaaGreat
open Go.RowKit

theorem setRow_grown (w : World) (g : Nat) (cs : Array Value) : w.grownBy (w.setRow g cs) (some g) := by
  refine ⟨rfl, rfl, rfl, by simp, fun k hk hne => ?_⟩
  unfold World.setRow
  simp only
  have : g ≠ k := fun e => hne (by rw [e])
  simp [Array.getElem?_modify, this]
theorem zeroCells_one {z : Value} (h : ∀ u ∈ z.cells, u.oneCell' = true) (n : Nat) : ∀ u ∈ (Builtin.zeroCells z.cells n).toList, u.oneCell' = true := by
  intro u hu
  unfold Builtin.zeroCells at hu
  rw [Array.toList_map, List.mem_map] at hu
  obtain ⟨i, hi, rfl⟩ := hu
  by_cases h0 : z.cells.size = 0
  · simp [h0] at hi
  · have hlt : i % z.cells.size < z.cells.size := Nat.mod_lt _ (by omega)
    rw [getElem!_pos z.cells _ hlt]
    exact h _ (Array.getElem_mem hlt)
section
variable {α : Type} {e : TypeId} {C : Nat} {cells : α → List Value} {w : World} {B g cap n : Nat} {L : List α}
theorem flat_take (hC : ∀ x, (cells x).length = C) : ∀ (L : List α) (k : Nat), (L.take k).flatMap cells = (L.flatMap cells).take (k * C)
  | [], k => by simp
  | c :: L, 0 => by simp
  | c :: L, k + 1 => by
    rw [List.take_succ_cons, List.flatMap_cons, List.flatMap_cons, flat_take hC L k, List.take_append, hC]
    rw [show (k + 1) * C - C = k * C by rw [Nat.add_mul]; omega, List.take_of_length_le (l := cells c) (by rw [hC, Nat.add_mul]; omega)]
theorem OwnR.cut (hC : ∀ x, (cells x).length = C) (h : OwnR e C cells w B (.slice (some ⟨g, 0, none⟩) n cap) L) (hn : n = L.length) (k : Nat) (hk : k ≤ n) : OwnR e C cells w B (.slice (some ⟨g, 0, none⟩) k cap) (L.take k) := by
  subst hn
  have hl : (L.take k).length = k := by rw [List.length_take]; omega
  unfold OwnR
  rw [hl]
  rcases h.2 with ⟨hv, -⟩ | ⟨g', cap', cur, hv, hb, hg, hnc, hcm, hcs, ht⟩
  · cases hv
  · simp only [Value.slice.injEq, Option.some.injEq, Addr.mk.injEq, and_true, true_and] at hv
    obtain ⟨rfl, rfl⟩ := hv
    refine ⟨by rw [flatLenR cells C hC, hl], .inr ⟨g, cap, cur, rfl, hb, hg, by omega, hcm, hcs, ?_⟩⟩
    rw [flat_take hC, ← ht, List.take_take, Nat.min_eq_left (Nat.mul_le_mul_right C hk)]
theorem OwnR.clear_run (hC : ∀ x, (cells x).length = C) {sl : TypeId} (hsl : Tryz.prog.underlying sl = some (.slice e)) {z : Value} (hz : ∀ w, (zeroValue e).run Tryz.prog w = .ok z w) (hzc : z.cells.size = C) (hz1 : ∀ u ∈ z.cells, u.oneCell' = true)
    (h : OwnR e C cells w B (.slice (some ⟨g, 0, none⟩) n cap) L) (hn : n = L.length) (k : Nat) (hk : k ≤ n) (m c : Nat) (hm : k + m ≤ n) (ty : TypeId) :
    ∃ w', (Builtin.clear_ #[sl] ty #[.slice (some ⟨g, k * C, none⟩) m c]).run Tryz.prog w = .ok (.tuple #[]) w' ∧ OwnR e C cells w' B (.slice (some ⟨g, 0, none⟩) k cap) (L.take k) ∧ w.grownBy w' (some g) := by
  rcases Nat.eq_zero_or_pos m with rfl | hm0
  · refine ⟨w, ?_, h.cut hC hn k hk, rfl, rfl, rfl, Nat.le_refl _, fun _ _ _ => rfl⟩
    simp [Builtin.clear_, run_underlying hsl]
  · subst hn
    have hl : (L.take k).length = k := by rw [List.length_take]; omega
    rcases h.2 with ⟨hv, -⟩ | ⟨g', cap', cur, hv, hb, hg, hnc, hcm, hcs, ht⟩
    · cases hv
    · simp only [Value.slice.injEq, Option.some.injEq, Addr.mk.injEq, and_true, true_and] at hv
      obtain ⟨rfl, rfl⟩ := hv
      have hzl : (Builtin.zeroCells z.cells m).toList.length = m * C := by
        rw [Array.length_toList]
        unfold Builtin.zeroCells
        simp [hzc]
      have hle : k * C + m * C ≤ cur.size := by
        rw [hcs, ← Nat.add_mul]
        exact Nat.mul_le_mul_right C (by omega)
      have hst := run_storeCells_at (P := Tryz.prog) g (k * C) e (Builtin.zeroCells z.cells m).toList 0 cur w hg (by rw [hzl]; omega) (zeroCells_one hz1 m)
      simp only [Nat.add_zero] at hst
      refine ⟨w.setRow g (cur.toList.take (k * C) ++ (Builtin.zeroCells z.cells m).toList ++ cur.toList.drop (k * C + (Builtin.zeroCells z.cells m).toList.length)).toArray, ?_, ?_, setRow_grown w g _⟩
      · obtain ⟨m, rfl⟩ : ∃ j, m = j + 1 := ⟨m - 1, by omega⟩
        simp [Builtin.clear_, run_underlying hsl, hz, hst]
      · unfold OwnR
        rw [hl]
        refine ⟨by rw [flatLenR cells C hC, hl], .inr ⟨g, cap, _, rfl, hb, setRow_heap w g cur _ e (0, 0) hg, by omega, hcm, ?_, ?_⟩⟩
        · simp only [List.size_toArray, List.length_append, List.length_take, List.length_drop, Array.length_toList]
          rw [Array.length_toList] at hzl
          omega
        · rw [flat_take hC, ← ht]
          simp only
          have hkn := Nat.mul_le_mul_right C hk
          have e1 : ∀ X : List Value, (cur.toList.take (k * C) ++ X).take (k * C) = (cur.toList.take (L.length * C)).take (k * C) := by
            intro X
            rw [List.take_append_of_le_length (by rw [List.length_take, Array.length_toList]; omega), List.take_take, List.take_take, Nat.min_self, Nat.min_eq_left hkn]
          rw [List.append_assoc]
          exact e1 _
variable {ops : Array Oper} {Q : Exit → Act → World → Prop} {o : Oper} {rest : List Oper} {a : Act}
theorem wpList_clear_row (hC : ∀ x, (cells x).length = C) {sl : TypeId} (hsl : Tryz.prog.underlying sl = some (.slice e)) {z : Value} (hz : ∀ w, (zeroValue e).run Tryz.prog w = .ok z w) (hzc : z.cells.size = C) (hz1 : ∀ u ∈ z.cells, u.oneCell' = true)
    (hgd : o.guard = none) (s : Operand) (ho : o.op = .call { callee := .builtin .clear, args := #[s], argTypes := #[sl] })
    (h : OwnR e C cells w B (.slice (some ⟨g, 0, none⟩) n cap) L) (hn : n = L.length) (k : Nat) (hk : k ≤ n) (m c off : Nat) (hoff : off = k * C) (hm : k + m ≤ n) (hs : a.eval s = .slice (some ⟨g, off, none⟩) m c)
    (hK : ∀ w', OwnR e C cells w' B (.slice (some ⟨g, 0, none⟩) k cap) (L.take k) → w.grownBy w' (some g) → wpList Tryz.prog ops Q rest (a.put o.dst (.tuple #[])) w') : wpList Tryz.prog ops Q (o :: rest) a w := by
  subst hoff
  refine wpList_plain hgd fun K' hK' => ?_
  obtain ⟨w', hrun, h1, h2⟩ := h.clear_run hC hsl hz hzc hz1 hn k hk m c hm o.type
  unfold Oper.wp
  simp [execOp, ho, resolve, invoke, builtin, hs, hrun, Result.andThen]
  exact hK' _ _ (hK w' h1 h2)
end

theorem OwnR.froz {α : Type} {e : TypeId} {C : Nat} {cells : α → List Value} {w : World} {B g n cap : Nat} {l : List α} (h : OwnR e C cells w B (.slice (some ⟨g, 0, none⟩) n cap) l) (i : Nat) : w.frozen? ⟨g, i, none⟩ = false := by
  rcases h.2 with ⟨hv, -⟩ | ⟨g', cap', cur, hv, -, hb, -⟩
  · cases hv
  · simp only [Value.slice.injEq, Option.some.injEq, Addr.mk.injEq, and_true] at hv
    obtain ⟨rfl, -, -⟩ := hv
    simp [World.frozen?, hb]
theorem OwnR.first {α : Type} {e : TypeId} {C : Nat} {cells : α → List Value} {w : World} {B n cap : Nat} {A : Option Addr} {l : List α} (h : OwnR e C cells w B (.slice A n cap) l) (hl : 0 < l.length) : ∃ g, A = some ⟨g, 0, none⟩ := by
  rcases h.2 with ⟨hv, h0⟩ | ⟨g, cap', cur, hv, -⟩
  · omega
  · injection hv with hA
    exact ⟨g, hA⟩
theorem OwnR.far {α : Type} {e : TypeId} {C : Nat} {cells : α → List Value} {w : World} {B : Nat} {v : Value} {L : List α} (h : OwnR e C cells w B v L) {p : Addr} (hp : v.ownBlock ≠ some p.block) (u : Value) : OwnR e C cells (w.setCell p u) B v L :=
  h.kept (row := some p.block) ⟨rfl, rfl, rfl, by simp, fun k _ hne => Below.heap_setCell w p u k (fun e => hne (by rw [e]))⟩ (.inr hp)

/-- a row that was laid just now -/
theorem OwnR.lit {α : Type} {e : TypeId} {C : Nat} {cells : α → List Value} (hC : ∀ x, (cells x).length = C) {w : World} {g B n : Nat} {L : List α} (h : Blk w g e (L.flatMap cells).toArray) (hB : B ≤ g) (hn : n = L.length) (h0 : 0 < n) (hm : n ≤ maxLen) : OwnR e C cells w B (.slice (some ⟨g, 0, none⟩) n n) L := by
  subst hn
  refine ⟨flatLenR cells C hC L, .inr ⟨g, _, _, rfl, hB, h, Nat.le_refl _, hm, ?_, ?_⟩⟩
  · rw [List.size_toArray, flatLenR cells C hC L]
  · exact List.take_of_length_le (by rw [flatLenR cells C hC L]; exact Nat.le_refl _)

end Go.Proofs.YtpfjgecdlilkcaaGreat

/-
  A region that draws its order: operations that are quiet in a class of worlds, in whatever order, and behind them a forced tail: one walk.
-/
namespace Go.Proofs.YtpfjgecdlilkcaaGreat
open Go Go.Sort

section
variable {P : Program} {ops : Array Oper} {C : World → Prop}

/-- The head's operations, whichever comes up, and then L. -/
def headQ (P : Program) (ops : Array Oper) (C : World → Prop) (n : Nat) (L : Array Bool → Act → Prop) : Nat → Array Bool → Act → Prop
  | 0, s, a => L s a
  | f + 1, s, a => Region.ready .any ops s ≠ [] ∧ ∀ i, i ∈ Region.ready .any ops s → i < n ∧ qOp P ops C i (headQ P ops C n L f (s.setIfInBounds i true)) a

theorem headQ_any {n g : Nat} {L : Array Bool → Act → Prop} {Q : Exit → Act → World → Prop} (hL : ∀ s a w, C w → L s a → wpAny P .any ops Q g s a w) (f : Nat) :
    ∀ s a w, C w → headQ P ops C n L f s a → wpAny P .any ops Q (f + g) s a w := by
  induction f with
  | zero => intro s a w hw h; rw [Nat.zero_add]; exact hL s a w hw h
  | succ f ih =>
    intro s a w hw h
    rw [Nat.succ_add]
    exact ⟨fun h0 => absurd h0 h.1, fun i hi => wpOp_of_qOp hw (fun a' w' hw' h' => ih _ a' w' hw' h') (h.2 i hi).2⟩

theorem headQ_take {n i : Nat} {oi : Oper} {v : Value} {L : Array Bool → Act → Prop} (hi : ops[i]? = some oi) (hsel : ∀ (j : Nat) (o : Oper) cs b, ops[j]? = some o → o.op ≠ .select cs b)
    (hs : Region.sinkB .any ops n = true) (hc : Region.chainB .any ops n = true) (hn : n < ops.size) (hin : i < n) (hdone : ∀ s a, L s a → ∀ j, j ∈ Region.ready .any ops s → n ≤ j) (f : Nat) :
    ∀ s a, HeadInv .any ops n s → (∀ j oj, ops[j]? = some oj → j ≠ i → s.getD j true = false → (∀ e, e ∈ oj.after → Region.binds .any e = true → e.on ≠ i) → oi.apart ops oj = true) →
      i ∈ Region.ready .any ops s → YieldsIn P ops C oi v a → headQ P ops C n L f (s.setIfInBounds i true) (a.put oi.dst v) → headQ P ops C n L (f + 1) s a := by
  induction f with
  | zero =>
    intro s a inv _ hr hy H
    have hun := (mem_ready.1 hr).1
    refine ⟨fun h0 => by rw [h0] at hr; exact absurd hr List.not_mem_nil, fun j hj => ?_⟩
    have hjn : j < n := Nat.lt_of_not_le fun h => tail_waits hs hc hn inv _ i rfl hin hun j h hj
    refine ⟨hjn, ?_⟩
    by_cases hji : j = i
    · subst hji; exact hy.qOp hi H
    · exact absurd (hdone _ _ H j (ready_mono hj hji)) (by omega)
  | succ f ih =>
    intro s a inv hfree hr hy H
    have hun := (mem_ready.1 hr).1
    refine ⟨fun h0 => by rw [h0] at hr; exact absurd hr List.not_mem_nil, fun j hj => ?_⟩
    have hjn : j < n := Nat.lt_of_not_le fun h => tail_waits hs hc hn inv _ i rfl hin hun j h hj
    refine ⟨hjn, ?_⟩
    by_cases hji : j = i
    · subst hji; exact hy.qOp hi H
    · obtain ⟨hjun, oj, hoj, hall⟩ := mem_ready.1 hj
      have hno : ∀ e, e ∈ oj.after → Region.binds .any e = true → e.on ≠ i := by
        intro e he hb heq
        have h1 := hall e he hb
        rw [heq, getD_both hun] at h1
        exact Bool.noConfusion h1
      refine qOp_mono (fun a' h3 => ih (s.setIfInBounds j true) a' (inv.set hj hjn) ?_ (ready_mono hr (Ne.symm hji)) h3.1 ?_)
        (qOp_put hoj (hfree j oj hoj hji hjun hno) (fun cs b => hsel i oi cs b hi) (fun cs b => hsel j oj cs b hoj) hy (H.2 j (ready_mono hj hji)).2)
      · intro k ok hk hki hku hkn
        refine hfree k ok hk hki ?_ hkn
        by_cases hjk : j = k
        · subst hjk; exact hjun
        · rwa [getD_set_ne true hjk] at hku
      · rw [Array.setIfInBounds_comm _ _ hji]; exact h3.2

theorem headQ_text {n g : Nat} {R : Act → Prop} (hsel : Region.noSelect ops = true) (hs : Region.sinkB .any ops n = true) (hc : Region.chainB .any ops n = true) (hn : n < ops.size) (l : List Oper) :
    ∀ (k : Nat) (s : Array Bool) (a : Act), (∀ j, j < l.length → l[j]? = ops[k + j]?) → k + l.length = n → HeadInv .any ops n s → Region.lexHead .any ops g l.length k s = true → wpQuiet P ops C R l a →
      headQ P ops C n (fun s' a' => Region.seqB .any ops g n s' = true ∧ R a') l.length s a := by
  induction l with
  | nil =>
    intro k s a _ hk _ hB h
    obtain rfl : k = n := by simpa using hk
    exact ⟨by simpa [Region.lexHead] using hB, h⟩
  | cons o l ih =>
    intro k s a hl hk inv hB h
    have h0 : ops[k]? = some o := by have := hl 0 (by simp); simpa using this.symm
    simp only [List.length_cons, Region.lexHead, Bool.and_eq_true] at hB
    have hkn : k < n := by simp only [List.length_cons] at hk; omega
    have hr : k ∈ Region.ready .any ops s := by simpa using hB.1.1
    have hq : qOp P ops C k (wpQuiet P ops C R l) a := by unfold qOp; simp only [h0]; exact h
    obtain ⟨v, hy, hK⟩ := yieldsIn_of_qOp h0 hq
    refine headQ_take h0 (Region.noSelect_spec hsel) hs hc hn hkn (fun s' a' hL => seqB_ready hL.1) l.length s a inv (Region.free_spec h0 hB.1.2) hr hy ?_
    refine ih (k + 1) _ _ (fun j hj => ?_) (by simp only [List.length_cons] at hk; omega) (inv.set hr hkn) hB.2 hK
    have := hl (j + 1) (by simp; omega)
    simpa [Nat.add_assoc, Nat.add_comm 1 j] using this

theorem wp_quiet_tail {id : Nat} {Q : Exit → Act → World → Prop} {a : Act} {w : World} {l : List Oper} (n : Nat) (hm : P.follows .mixedOrders = true) (hB : Region.lexTailB .any l.toArray n = true) (hC : C { w with drawn := w.drawn + 1 })
    (h : wpQuiet P l.toArray C (fun a' => ∀ w', C w' → wpList P l.toArray Q (l.drop n) a' w') (l.take n) a) : (Code.region id l.toArray true).wp P Q a w := by
  simp only [Region.lexTailB, Bool.and_eq_true, decide_eq_true_eq] at hB
  obtain ⟨⟨⟨⟨hsel, hn⟩, hs⟩, hc⟩, hlex⟩ := hB
  have hn' : n < l.length := by simpa using hn
  have htl : (l.take n).length = n := by simp; omega
  have inv : HeadInv .any l.toArray n (Array.replicate l.toArray.size false) :=
    ⟨by simp, fun j oj _ hl => (by rw [getD_replicate_false] at hl; exact Bool.noConfusion hl), fun t _ ht => getD_in (by simpa using ht) (getD_replicate_false _ _)⟩
  have H := headQ_text (g := l.toArray.size - n) hsel hs hc hn (l.take n) 0 _ a (fun j hj => by
    rw [htl] at hj
    simp [hj]) (by simpa using htl) inv (by rw [htl]; exact hlex) h
  refine wp_region_any hm ?_
  have := headQ_any (Q := Q) (g := l.toArray.size - n) (fun s a' w' hw' hL => by
    have := wpAny_of_seq (md := .any) (Q' := Q) (l.drop n) n s a' w' (fun j => by simp [List.getElem?_drop]) (by simpa using hL.1) (hL.2 w' hw')
    simpa using this) _ _ _ _ hC H
  rw [htl, show n + (l.toArray.size - n) = l.toArray.size by omega] at this
  exact this
end

/-- At the class of the worlds in which nothing old has turned. -/
theorem wp_below_tail {P : Program} {id : Nat} {Q : Exit → Act → World → Prop} {a : Act} {w : World} {l : List Oper} (n : Nat) (hm : P.follows .mixedOrders = true) (hB : Region.lexTailB .any l.toArray n = true)
    (h : wpQuiet P l.toArray (fun w' => ∃ p : Regrown, w' = grow (redrawn w p.d) p.os) (fun a' => ∀ w', (∃ p : Regrown, w' = grow (redrawn w p.d) p.os) → wpList P l.toArray Q (l.drop n) a' w') (l.take n) a) : (Code.region id l.toArray true).wp P Q a w :=
  wp_quiet_tail (C := fun w' => ∃ p : Regrown, w' = grow (redrawn w p.d) p.os) n hm hB ⟨⟨w.drawn + 1, #[]⟩, by rw [grow_empty]; rfl⟩ h

end Go.Proofs.YtpfjgecdlilkcaaGreat
