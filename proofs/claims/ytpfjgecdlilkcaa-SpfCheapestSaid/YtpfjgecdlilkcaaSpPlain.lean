/-
  Layer 21 in plain words: the least values of all that is reached; the first hops.
-/
import Derived.Test.YtpfjgecdlilkcaaEdDec
namespace Go.Proofs.Ytpfjgecdlilkcaa

/-- what it costs, over how few networks -/
structure Val2 where
  c : Nat
  h : Nat
deriving DecidableEq
def Ed.src (e : Ed) : Vx := ⟨e.fk, e.fi⟩
def Ed.dst (e : Ed) : Vx := ⟨e.tk, e.ti⟩
def mayV (v : Vx) : Bool := (decide (v.kind = 1) && decide (1 ≤ v.id ∧ v.id ≤ 15)) || (decide (v.kind = 2) && decide (0 ≤ v.id ∧ v.id ≤ 63))
def cntE (e : Ed) : Bool := mayV e.src && mayV e.dst && ((decide (e.fk = 1) && decide (e.tk = 2) && decide (1 ≤ e.cost ∧ e.cost ≤ 100)) || (decide (e.fk = 2) && decide (e.tk = 1) && decide (e.cost = 0)))
theorem mayV_iff {v : Vx} : mayV v = true ↔ (v.kind = 1 ∧ 1 ≤ v.id ∧ v.id ≤ 15) ∨ (v.kind = 2 ∧ 0 ≤ v.id ∧ v.id ≤ 63) := by simp [mayV]
theorem cntE_iff {e : Ed} : cntE e = true ↔ mayV e.src = true ∧ mayV e.dst = true ∧ ((e.fk = 1 ∧ e.tk = 2 ∧ 1 ≤ e.cost ∧ e.cost ≤ 100) ∨ (e.fk = 2 ∧ e.tk = 1 ∧ e.cost = 0)) := by
  simp [cntE, and_assoc]
def leV (a b : Val2) : Prop := a.c < b.c ∨ (a.c = b.c ∧ a.h ≤ b.h)
theorem leV_refl (a : Val2) : leV a a := .inr ⟨rfl, Nat.le_refl _⟩
theorem leV_trans {a b c : Val2} (h : leV a b) (g : leV b c) : leV a c := by unfold leV at *; omega
theorem leV_anti {a b : Val2} (h : leV a b) (g : leV b a) : a = b := by
  obtain ⟨a1, a2⟩ := a
  obtain ⟨b1, b2⟩ := b
  unfold leV at *
  simp only at h g
  have h1 : a1 = b1 := by omega
  have h2 : a2 = b2 := by omega
  rw [h1, h2]
theorem leV_total (a b : Val2) : leV a b ∨ leV b a := by unfold leV; omega
def hopN (e : Ed) : Nat := if e.tk = 2 then 1 else 0
def stepV (a : Val2) (e : Ed) : Val2 := ⟨a.c + e.cost.toNat, a.h + hopN e⟩
theorem stepV_mono {a b : Val2} (h : leV a b) (e : Ed) : leV (stepV a e) (stepV b e) := by unfold leV stepV at *; simp only; omega
/-- the order in which they are looked at -/
def rankV (v : Vx) (a : Val2) : Nat := 2 * a.c + (if v.kind = 1 then 1 else 0)
theorem rank_step {e : Ed} (h : cntE e = true) (a : Val2) : rankV e.src a < rankV e.dst (stepV a e) := by
  obtain ⟨-, -, h⟩ := cntE_iff.1 h
  unfold rankV stepV Ed.src Ed.dst
  simp only
  rcases h with ⟨h1, h2, h3, h4⟩ | ⟨h1, h2, h3⟩
  · rw [if_pos h1, if_neg (by omega)]; omega
  · rw [if_neg (by omega), if_pos h2]; omega

/-- a table of the least values -/
structure IsDist (E : List Ed) (r : Vx) (D : Vx → Option Val2) : Prop where
  root : D r = some ⟨0, 0⟩
  closed : ∀ e ∈ E, cntE e = true → ∀ a, D e.src = some a → ∃ b, D e.dst = some b ∧ leV b (stepV a e)
  tight : ∀ v a, D v = some a → v = r ∨ ∃ e ∈ E, cntE e = true ∧ e.dst = v ∧ ∃ b, D e.src = some b ∧ a = stepV b e
section
variable {E : List Ed} {r : Vx} {D D' : Vx → Option Val2}
/-- by the order of ranks -/
theorem IsDist.induct (h : IsDist E r D) {P : Vx → Val2 → Prop} (h0 : P r ⟨0, 0⟩) (hs : ∀ e ∈ E, cntE e = true → ∀ b, D e.src = some b → D e.dst = some (stepV b e) → P e.src b → P e.dst (stepV b e)) : ∀ v a, D v = some a → P v a := by
  have key : ∀ n v a, rankV v a = n → D v = some a → P v a := by
    intro n
    induction n using Nat.strongRecOn with
    | ind n ih =>
      intro v a hn hv
      rcases h.tight v a hv with rfl | ⟨e, he, hc, rfl, b, hb, rfl⟩
      · rw [h.root] at hv
        cases hv
        exact h0
      · exact hs e he hc b hb hv (ih _ (by rw [← hn]; exact rank_step hc b) _ _ rfl hb)
  exact fun v a => key _ v a rfl
/-- all of them that are had within E' are had as cheap -/
theorem IsDist.le {E' : List Ed} (h : IsDist E r D) (h' : IsDist E' r D') (hE : ∀ e ∈ E, cntE e = true → e ∈ E') : ∀ v a, D v = some a → ∃ b, D' v = some b ∧ leV b a := by
  refine h.induct (P := fun v a => ∃ b, D' v = some b ∧ leV b a) ⟨_, h'.root, leV_refl _⟩ ?_
  rintro e he hc b - - ⟨b', hb', hle⟩
  obtain ⟨c, hc2, hle2⟩ := h'.closed e (hE e he hc) hc b' hb'
  exact ⟨c, hc2, leV_trans hle2 (stepV_mono hle e)⟩
theorem IsDist.unique {E' : List Ed} (h : IsDist E r D) (h' : IsDist E' r D') (hE : ∀ e, cntE e = true → (e ∈ E ↔ e ∈ E')) : D = D' := by
  have g : ∀ (E E' : List Ed) (D D' : Vx → Option Val2), IsDist E r D → IsDist E' r D' → (∀ e, cntE e = true → (e ∈ E ↔ e ∈ E')) → ∀ v a, D v = some a → D' v = some a := by
    intro E E' D D' h h' hE v a hv
    obtain ⟨b, hb, hle⟩ := h.le h' (fun e he hc => (hE e hc).1 he) v a hv
    obtain ⟨c, hc, hle2⟩ := h'.le h (fun e he hc => (hE e hc).2 he) v b hb
    rw [hv] at hc
    cases hc
    rw [hb, leV_anti hle hle2]
  funext v
  cases hv : D v with
  | some a => rw [g E E' D D' h h' hE v a hv]
  | none =>
    cases hv' : D' v with
    | none => rfl
    | some a => rw [g E' E D' D h' h (fun e hc => (hE e hc).symm) v a hv'] at hv; cases hv
/-- ways -/
inductive Way (E : List Ed) (r : Vx) : Vx → Val2 → Prop
  | here : Way E r r ⟨0, 0⟩
  | more {e : Ed} {a : Val2} : e ∈ E → cntE e = true → Way E r e.src a → Way E r e.dst (stepV a e)
theorem least_val (P : Val2 → Prop) (h : ∃ a, P a) : ∃ a, P a ∧ ∀ b, P b → leV a b := by
  have g1 : ∀ n, (∃ a, P a ∧ a.c = n) → ∃ a, P a ∧ ∀ b, P b → a.c ≤ b.c := by
    intro n
    induction n using Nat.strongRecOn with
    | ind n ih =>
      rintro ⟨a, ha, rfl⟩
      by_cases hb : ∃ b, P b ∧ b.c < a.c
      · obtain ⟨b, hb, hlt⟩ := hb
        exact ih _ hlt ⟨b, hb, rfl⟩
      · exact ⟨a, ha, fun b hp => Nat.not_lt.1 fun hlt => hb ⟨b, hp, hlt⟩⟩
  obtain ⟨a0, ha0⟩ := h
  obtain ⟨a1, ha1, hmin⟩ := g1 _ ⟨a0, ha0, rfl⟩
  have g2 : ∀ n, (∃ a, P a ∧ a.c = a1.c ∧ a.h = n) → ∃ a, P a ∧ a.c = a1.c ∧ ∀ b, P b → b.c = a1.c → a.h ≤ b.h := by
    intro n
    induction n using Nat.strongRecOn with
    | ind n ih =>
      rintro ⟨a, ha, hac, rfl⟩
      by_cases hb : ∃ b, P b ∧ b.c = a1.c ∧ b.h < a.h
      · obtain ⟨b, hb, hbc, hlt⟩ := hb
        exact ih _ hlt ⟨b, hb, hbc, rfl⟩
      · exact ⟨a, ha, hac, fun b hp hbc => Nat.not_lt.1 fun hlt => hb ⟨b, hp, hbc, hlt⟩⟩
  obtain ⟨a2, ha2, hac, hmin2⟩ := g2 _ ⟨a1, ha1, rfl, rfl⟩
  refine ⟨a2, ha2, fun b hb => ?_⟩
  have h1 := hmin b hb
  have h2 := hmin2 b hb
  unfold leV
  omega
theorem dist_is (E : List Ed) (r : Vx) : ∃ D, IsDist E r D := by
  have hex : ∀ v, ∃ o : Option Val2, (∀ a, o = some a → Way E r v a ∧ ∀ b, Way E r v b → leV a b) ∧ (o = none → ∀ b, ¬ Way E r v b) := by
    intro v
    by_cases h : ∃ a, Way E r v a
    · obtain ⟨a, ha, hm⟩ := least_val _ h
      exact ⟨some a, fun a' e => (by cases e; exact ⟨ha, hm⟩), fun e => (by cases e)⟩
    · exact ⟨none, fun a e => (by cases e), fun _ b hb => h ⟨b, hb⟩⟩
  obtain ⟨D, hD⟩ := Classical.axiomOfChoice hex
  have hw : ∀ v b, Way E r v b → ∃ a, D v = some a ∧ leV a b := by
    intro v b hb
    cases h : D v with
    | none => exact absurd hb ((hD v).2 h b)
    | some a => exact ⟨a, rfl, ((hD v).1 a h).2 b hb⟩
  refine ⟨D, ?_, ?_, ?_⟩
  · obtain ⟨a, ha, hle⟩ := hw r _ .here
    rw [ha]
    congr 1
    refine leV_anti hle ?_
    unfold leV
    simp only
    omega
  · intro e he hc a ha
    exact hw _ _ (.more he hc ((hD _).1 a ha).1)
  · intro v a ha
    have hway := ((hD v).1 a ha).1
    have hmin := ((hD v).1 a ha).2
    cases hway with
    | here => exact .inl rfl
    | @more e b he hc hb =>
      obtain ⟨b', hb', hle⟩ := hw _ _ hb
      refine .inr ⟨e, he, hc, rfl, b', hb', ?_⟩
      exact leV_anti (hmin _ (.more he hc ((hD _).1 b' hb').1)) (stepV_mono hle e)
theorem IsDist.may (h : IsDist E r D) (hr : mayV r = true) : ∀ v a, D v = some a → mayV v = true :=
  h.induct (P := fun v _ => mayV v = true) hr fun _ _ hc _ _ _ _ => (cntE_iff.1 hc).2.1
/-- what is not the root costs something, and lies over a network -/
theorem IsDist.pos (h : IsDist E r D) (hr : r.kind = 1) : ∀ v a, D v = some a → (v = r ∧ a = ⟨0, 0⟩) ∨ (v ≠ r ∧ 1 ≤ a.c ∧ 1 ≤ a.h) := by
  intro v a hv
  have := h.induct (P := fun v a => (v = r ∧ a = ⟨0, 0⟩) ∨ (1 ≤ a.c ∧ 1 ≤ a.h)) (.inl ⟨rfl, rfl⟩) (fun e _ hc b _ _ hP => by
    right
    obtain ⟨-, -, hk⟩ := cntE_iff.1 hc
    unfold stepV hopN
    simp only
    rcases hk with ⟨h1, h2, h3, h4⟩ | ⟨h1, h2, h3⟩
    · rw [if_pos h2]; omega
    · rcases hP with ⟨e1, -⟩ | ⟨g1, g2⟩
      · exfalso
        have : e.fk = r.kind := by rw [← e1]; rfl
        omega
      · rw [if_neg (by omega)]; omega) v a hv
  rcases this with g | g
  · exact .inl g
  · by_cases hvr : v = r
    · subst hvr
      rw [h.root] at hv
      cases hv
      exact .inl ⟨rfl, rfl⟩
    · exact .inr ⟨hvr, g⟩
end

def isHop (E : List Ed) (DD : Vx → Vx → Option Val2) (r v : Vx) (h : Hp) : Prop :=
  ∃ e ∈ E, cntE e = true ∧ e.src = r ∧ ∃ a, DD r v = some a ∧
    ((e.dst = v ∧ a.c = e.cost.toNat ∧ h = ⟨e.ti / 16, 0⟩) ∨
     ∃ f ∈ E, cntE f = true ∧ f.src = e.dst ∧ ∃ b, DD f.dst v = some b ∧ e.cost.toNat + b.c = a.c ∧ h = ⟨e.ti / 16, f.ti⟩)
def extH (r : Vx) (e : Ed) (L : List Hp) : List Hp := if e.src = r then [⟨e.ti / 16, 0⟩] else L.map fun h => if h.id = 0 then ⟨h.lan, e.ti⟩ else h
/-- what the hops of each are by those ahead of it -/
structure IsNext (E : List Ed) (r : Vx) (D : Vx → Option Val2) (N : Vx → List Hp) : Prop where
  root : N r = []
  each : ∀ v a, D v = some a → v ≠ r → ∀ h, h ∈ N v ↔ ∃ e ∈ E, cntE e = true ∧ e.dst = v ∧ ∃ b, D e.src = some b ∧ a.c = b.c + e.cost.toNat ∧ h ∈ extH r e (N e.src)
section
variable {E : List Ed} {r : Vx} {DD : Vx → Vx → Option Val2} {N : Vx → List Hp}
theorem dist_join (hD : ∀ r, IsDist E r (DD r)) {v x : Vx} {a b : Val2} (ha : DD r v = some a) (hb : DD v x = some b) : ∃ c, DD r x = some c ∧ c.c ≤ a.c + b.c := by
  refine (hD v).induct (P := fun x b => ∃ c, DD r x = some c ∧ c.c ≤ a.c + b.c) ⟨a, ha, by simp⟩ ?_ x b hb
  rintro e he hc b' - - ⟨c, hc2, hle⟩
  obtain ⟨d, hd, hle2⟩ := (hD r).closed e he hc c hc2
  refine ⟨d, hd, ?_⟩
  unfold leV stepV at hle2
  unfold stepV
  simp only at hle2 ⊢
  omega
theorem hops_iff (hD : ∀ r, IsDist E r (DD r)) (hr : r.kind = 1) (hN : IsNext E r (DD r) N) : ∀ v a, DD r v = some a → ∀ h, h ∈ N v ↔ isHop E DD r v h := by
  have key : ∀ n v a, rankV v a = n → DD r v = some a → ∀ h, h ∈ N v ↔ isHop E DD r v h := by
    intro n
    induction n using Nat.strongRecOn with
    | ind n ih =>
      intro v a hn hv h
      by_cases hvr : v = r
      · subst hvr
        rw [hN.root]
        simp only [List.not_mem_nil, false_iff]
        rintro ⟨e, he, hc, hs, a', ha', hh⟩
        rw [(hD v).root] at ha'
        cases ha'
        obtain ⟨-, -, hk⟩ := cntE_iff.1 hc
        have hsk : e.fk = v.kind := by rw [← hs]; rfl
        rcases hh with ⟨-, h2, -⟩ | ⟨f, hf, hfc, hfs, b, hb, h2, -⟩
        · simp only at h2; omega
        · simp only at h2; omega
      rw [hN.each v a hv hvr h]
      constructor
      · rintro ⟨e, he, hc, rfl, b, hb, hab, hm⟩
        have hlt : rankV e.src b < rankV e.dst a := by
          have := rank_step hc b
          unfold rankV stepV at this
          unfold rankV
          simp only at this
          omega
        unfold extH at hm
        by_cases hs : e.src = r
        · rw [if_pos hs, List.mem_singleton] at hm
          refine ⟨e, he, hc, hs, a, hv, .inl ⟨rfl, ?_, hm⟩⟩
          rw [hs, (hD r).root] at hb
          cases hb
          simpa using hab
        · rw [if_neg hs, List.mem_map] at hm
          obtain ⟨g, hg, rfl⟩ := hm
          obtain ⟨e1, he1, hc1, hs1, b', hb', hh⟩ := (ih _ (by rw [← hn]; exact hlt) _ _ rfl hb g).1 hg
          rw [hb] at hb'
          cases hb'
          rcases hh with ⟨h1, h2, h3⟩ | ⟨f, hf, hfc, hfs, c, hcc, h2, h3⟩
          · rw [h3]
            simp only [if_true]
            obtain ⟨-, hm1, hk1⟩ := cntE_iff.1 hc1
            obtain ⟨-, -, hk⟩ := cntE_iff.1 hc
            have hk3 : e.fk = e1.tk := by
              have := congrArg Vx.kind h1
              exact this.symm
            refine ⟨e1, he1, hc1, hs1, a, hv, .inr ⟨e, he, hc, h1.symm, ⟨0, 0⟩, (hD _).root, ?_, rfl⟩⟩
            have hkr : e1.fk = r.kind := by rw [← hs1]; rfl
            simp only
            omega
          · obtain ⟨-, hfm, hfk⟩ := cntE_iff.1 hfc
            have hfid : f.ti ≠ 0 := by
              have hs1k : e1.fk = r.kind := by rw [← hs1]; rfl
              have hfsk : f.fk = e1.tk := congrArg Vx.kind hfs
              obtain ⟨-, -, hk1⟩ := cntE_iff.1 hc1
              rcases mayV_iff.1 hfm with ⟨-, q1, q2⟩ | ⟨q0, -, -⟩
              · have : f.dst.id = f.ti := rfl
                omega
              · have : f.dst.kind = f.tk := rfl
                omega
            rw [h3]
            simp only [hfid, if_false]
            obtain ⟨d, hd, hle⟩ := (hD f.dst).closed e he hc c hcc
            obtain ⟨e1b, he1b, hle1⟩ := (hD r).closed e1 he1 hc1 ⟨0, 0⟩ (by rw [hs1]; exact (hD r).root)
            obtain ⟨e2b, he2b, hle2⟩ := (hD r).closed f hf hfc e1b (by rw [hfs]; exact he1b)
            obtain ⟨x, hx, hle3⟩ := dist_join hD he2b hd
            rw [hv] at hx
            cases hx
            refine ⟨e1, he1, hc1, hs1, a, hv, .inr ⟨f, hf, hfc, hfs, d, hd, ?_, rfl⟩⟩
            obtain ⟨-, -, hfk⟩ := cntE_iff.1 hfc
            have hs1k : e1.fk = r.kind := by rw [← hs1]; rfl
            have hfsk : f.fk = e1.tk := congrArg Vx.kind hfs
            obtain ⟨-, -, hk1⟩ := cntE_iff.1 hc1
            unfold leV stepV at hle hle1 hle2
            simp only at hle hle1 hle2 hab h2
            omega
      · rintro ⟨e1, he1, hc1, hs1, a', ha', hh⟩
        rw [hv] at ha'
        cases ha'
        have hs1k : e1.fk = r.kind := by rw [← hs1]; rfl
        obtain ⟨-, -, hk1⟩ := cntE_iff.1 hc1
        rcases hh with ⟨h1, h2, h3⟩ | ⟨f, hf, hfc, hfs, c, hcc, h2, h3⟩
        · refine ⟨e1, he1, hc1, h1, ⟨0, 0⟩, by rw [hs1]; exact (hD r).root, by simpa using h2, ?_⟩
          unfold extH
          rw [if_pos hs1, List.mem_singleton]
          exact h3
        · have hfsk : f.fk = e1.tk := congrArg Vx.kind hfs
          obtain ⟨-, hfm, hfk⟩ := cntE_iff.1 hfc
          have hfid : f.ti ≠ 0 := by
            rcases mayV_iff.1 hfm with ⟨-, q1, q2⟩ | ⟨q0, -, -⟩
            · have : f.dst.id = f.ti := rfl
              omega
            · have : f.dst.kind = f.tk := rfl
              omega
          obtain ⟨n1, hn1, hle1⟩ := (hD r).closed e1 he1 hc1 ⟨0, 0⟩ (by rw [hs1]; exact (hD r).root)
          obtain ⟨n2, hn2, hle2⟩ := (hD r).closed f hf hfc n1 (by rw [hfs]; exact hn1)
          rcases (hD f.dst).tight v c hcc with hvf | ⟨e, he, hc, rfl, b, hb, rfl⟩
          · subst hvf
            rw [(hD f.dst).root] at hcc
            cases hcc
            rw [hv] at hn2
            cases hn2
            unfold leV stepV at hle1 hle2
            simp only at hle1 hle2 h2
            have hne : ¬ f.src = r := fun e => by
              have := congrArg Vx.kind e
              have h4 : f.src.kind = f.fk := rfl
              omega
            refine ⟨f, hf, hfc, rfl, n1, by rw [hfs]; exact hn1, by omega, ?_⟩
            unfold extH
            rw [if_neg hne, List.mem_map]
            refine ⟨⟨e1.ti / 16, 0⟩, ?_, by simp [h3]⟩
            have hlt : rankV f.src n1 < n := by
              rw [← hn]
              have := rank_step hfc n1
              unfold rankV stepV at this
              unfold rankV
              simp only at this
              omega
            refine (ih _ hlt f.src n1 rfl (by rw [hfs]; exact hn1) _).2 ?_
            refine ⟨e1, he1, hc1, hs1, n1, by rw [hfs]; exact hn1, .inl ⟨hfs.symm, ?_, rfl⟩⟩
            omega
          · obtain ⟨u, hu, hle3⟩ := dist_join hD hn2 hb
            obtain ⟨v', hv', hle4⟩ := (hD r).closed e he hc u hu
            rw [hv] at hv'
            cases hv'
            obtain ⟨-, -, hk⟩ := cntE_iff.1 hc
            unfold leV stepV at hle1 hle2 hle4
            unfold stepV at h2
            simp only at hle1 hle2 hle4 h2
            have hne : ¬ e.src = r := fun e' => by
              rw [e', (hD r).root] at hu
              cases hu
              simp only at hle3 hle4
              omega
            have hlt : rankV e.src u < n := by
              rw [← hn]
              have := rank_step hc u
              unfold rankV stepV at this
              unfold rankV
              simp only at this
              omega
            refine ⟨e, he, hc, rfl, u, hu, by omega, ?_⟩
            unfold extH
            rw [if_neg hne, List.mem_map]
            refine ⟨h, ?_, ?_⟩
            · exact (ih _ hlt _ _ rfl hu h).2 ⟨e1, he1, hc1, hs1, u, hu, .inr ⟨f, hf, hfc, hfs, b, hb, by omega, h3⟩⟩
            · rw [h3]; simp [hfid]
  exact fun v a => key _ v a rfl
end

end Go.Proofs.Ytpfjgecdlilkcaa
