/-
  Layer 21 in plain words: the least values of all that is reached; the first hops.
-/
import Derived.RegionTactic
import Derived.Test.YtpnbibokddhheaaGreatBab
namespace Go.Proofs.YtpnbibokddhheaaGreat

/-- what it costs, over how few networks -/
structure Val2 where
  c : Nat
  h : Nat
deriving DecidableEq
def Ed.src (e : Ed) : Vx := ⟨e.fk, e.fi⟩
def Ed.dst (e : Ed) : Vx := ⟨e.tk, e.ti⟩
def mayV (v : Vx) : Bool := (decide (v.kind = 1) && decide (1 ≤ v.id ∧ v.id ≤ 15)) || (decide (v.kind = 2) && decide (0 ≤ v.id ∧ v.id ≤ 63))
def cntE (e : Ed) : Bool := mayV e.src && mayV e.dst && ((decide (e.fk = 1) && decide (e.tk = 2) && decide (1 ≤ e.cost ∧ e.cost ≤ 100)) || (decide (e.fk = 2) && decide (e.tk = 1) && decide (e.cost = 0)))
theorem mayV_iff {v : Vx} : mayV v = true ↔ (v.kind = 1 ∧ 1 ≤ v.id ∧ v.id ≤ 15) ∨ (v.kind = 2 ∧ 0 ≤ v.id ∧ v.id ≤ 63) := by simp [mayV]
theorem cntE_iff {e : Ed} : cntE e = true ↔ mayV e.src = true ∧ mayV e.dst = true ∧ ((e.fk = 1 ∧ e.tk = 2 ∧ 1 ≤ e.cost ∧ e.cost ≤ 100) ∨ (e.fk = 2 ∧ e.tk = 1 ∧ e.cost = 0)) := by
  simp [cntE, and_assoc]
def leV (a b : Val2) : Prop := a.c < b.c ∨ (a.c = b.c ∧ a.h ≤ b.h)
theorem leV_refl (a : Val2) : leV a a := .inr ⟨rfl, Nat.le_refl _⟩
theorem leV_trans {a b c : Val2} (h : leV a b) (g : leV b c) : leV a c := by unfold leV at *; omega
theorem leV_anti {a b : Val2} (h : leV a b) (g : leV b a) : a = b := by
  obtain ⟨a1, a2⟩ := a
  obtain ⟨b1, b2⟩ := b
  unfold leV at *
  simp only at h g
  have h1 : a1 = b1 := by omega
  have h2 : a2 = b2 := by omega
  rw [h1, h2]
theorem leV_total (a b : Val2) : leV a b ∨ leV b a := by unfold leV; omega
def hopN (e : Ed) : Nat := if e.tk = 2 then 1 else 0
def stepV (a : Val2) (e : Ed) : Val2 := ⟨a.c + e.cost.toNat, a.h + hopN e⟩
theorem stepV_mono {a b : Val2} (h : leV a b) (e : Ed) : leV (stepV a e) (stepV b e) := by unfold leV stepV at *; simp only; omega
/-- the order in which they are looked at -/
def rankV (v : Vx) (a : Val2) : Nat := 2 * a.c + (if v.kind = 1 then 1 else 0)
theorem rank_step {e : Ed} (h : cntE e = true) (a : Val2) : rankV e.src a < rankV e.dst (stepV a e) := by
  obtain ⟨-, -, h⟩ := cntE_iff.1 h
  unfold rankV stepV Ed.src Ed.dst
  simp only
  rcases h with ⟨h1, h2, h3, h4⟩ | ⟨h1, h2, h3⟩
  · rw [if_pos h1, if_neg (by omega)]; omega
  · rw [if_neg (by omega), if_pos h2]; omega

/-- a table of the least values -/
structure IsDist (E : List Ed) (r : Vx) (D : Vx → Option Val2) : Prop where
  root : D r = some ⟨0, 0⟩
  closed : ∀ e ∈ E, cntE e = true → ∀ a, D e.src = some a → ∃ b, D e.dst = some b ∧ leV b (stepV a e)
  tight : ∀ v a, D v = some a → v = r ∨ ∃ e ∈ E, cntE e = true ∧ e.dst = v ∧ ∃ b, D e.src = some b ∧ a = stepV b e
section
variable {E : List Ed} {r : Vx} {D D' : Vx → Option Val2}
/-- by the order of ranks -/
theorem IsDist.induct (h : IsDist E r D) {P : Vx → Val2 → Prop} (h0 : P r ⟨0, 0⟩) (hs : ∀ e ∈ E, cntE e = true → ∀ b, D e.src = some b → D e.dst = some (stepV b e) → P e.src b → P e.dst (stepV b e)) : ∀ v a, D v = some a → P v a := by
  have key : ∀ n v a, rankV v a = n → D v = some a → P v a := by
    intro n
    induction n using Nat.strongRecOn with
    | ind n ih =>
      intro v a hn hv
      rcases h.tight v a hv with rfl | ⟨e, he, hc, rfl, b, hb, rfl⟩
      · rw [h.root] at hv
        cases hv
        exact h0
      · exact hs e he hc b hb hv (ih _ (by rw [← hn]; exact rank_step hc b) _ _ rfl hb)
  exact fun v a => key _ v a rfl
/-- all of them that are had within E' are had as cheap -/
theorem IsDist.le {E' : List Ed} (h : IsDist E r D) (h' : IsDist E' r D') (hE : ∀ e ∈ E, cntE e = true → e ∈ E') : ∀ v a, D v = some a → ∃ b, D' v = some b ∧ leV b a := by
  refine h.induct (P := fun v a => ∃ b, D' v = some b ∧ leV b a) ⟨_, h'.root, leV_refl _⟩ ?_
  rintro e he hc b - - ⟨b', hb', hle⟩
  obtain ⟨c, hc2, hle2⟩ := h'.closed e (hE e he hc) hc b' hb'
  exact ⟨c, hc2, leV_trans hle2 (stepV_mono hle e)⟩
theorem IsDist.unique {E' : List Ed} (h : IsDist E r D) (h' : IsDist E' r D') (hE : ∀ e, cntE e = true → (e ∈ E ↔ e ∈ E')) : D = D' := by
  have g : ∀ (E E' : List Ed) (D D' : Vx → Option Val2), IsDist E r D → IsDist E' r D' → (∀ e, cntE e = true → (e ∈ E ↔ e ∈ E')) → ∀ v a, D v = some a → D' v = some a := by
    intro E E' D D' h h' hE v a hv
    obtain ⟨b, hb, hle⟩ := h.le h' (fun e he hc => (hE e hc).1 he) v a hv
    obtain ⟨c, hc, hle2⟩ := h'.le h (fun e he hc => (hE e hc).2 he) v b hb
    rw [hv] at hc
    cases hc
    rw [hb, leV_anti hle hle2]
  funext v
  cases hv : D v with
  | some a => rw [g E E' D D' h h' hE v a hv]
  | none =>
    cases hv' : D' v with
    | none => rfl
    | some a => rw [g E' E D' D h' h (fun e hc => (hE e hc).symm) v a hv'] at hv; cases hv
/-- ways -/
inductive Way (E : List Ed) (r : Vx) : Vx → Val2 → Prop
  | here : Way E r r ⟨0, 0⟩
  | more {e : Ed} {a : Val2} : e ∈ E → cntE e = true → Way E r e.src a → Way E r e.dst (stepV a e)
theorem least_val (P : Val2 → Prop) (h : ∃ a, P a) : ∃ a, P a ∧ ∀ b, P b → leV a b := by
  have g1 : ∀ n, (∃ a, P a ∧ a.c = n) → ∃ a, P a ∧ ∀ b, P b → a.c ≤ b.c := by
    intro n
    induction n using Nat.strongRecOn with
    | ind n ih =>
      rintro ⟨a, ha, rfl⟩
      by_cases hb : ∃ b, P b ∧ b.c < a.c
      · obtain ⟨b, hb, hlt⟩ := hb
        exact ih _ hlt ⟨b, hb, rfl⟩
      · exact ⟨a, ha, fun b hp => Nat.not_lt.1 fun hlt => hb ⟨b, hp, hlt⟩⟩
  obtain ⟨a0, ha0⟩ := h
  obtain ⟨a1, ha1, hmin⟩ := g1 _ ⟨a0, ha0, rfl⟩
  have g2 : ∀ n, (∃ a, P a ∧ a.c = a1.c ∧ a.h = n) → ∃ a, P a ∧ a.c = a1.c ∧ ∀ b, P b → b.c = a1.c → a.h ≤ b.h := by
    intro n
    induction n using Nat.strongRecOn with
    | ind n ih =>
      rintro ⟨a, ha, hac, rfl⟩
      by_cases hb : ∃ b, P b ∧ b.c = a1.c ∧ b.h < a.h
      · obtain ⟨b, hb, hbc, hlt⟩ := hb
        exact ih _ hlt ⟨b, hb, hbc, rfl⟩
      · exact ⟨a, ha, hac, fun b hp hbc => Nat.not_lt.1 fun hlt => hb ⟨b, hp, hbc, hlt⟩⟩
  obtain ⟨a2, ha2, hac, hmin2⟩ := g2 _ ⟨a1, ha1, rfl, rfl⟩
  refine ⟨a2, ha2, fun b hb => ?_⟩
  have h1 := hmin b hb
  have h2 := hmin2 b hb
  unfold leV
  omega
theorem dist_is (E : List Ed) (r : Vx) : ∃ D, IsDist E r D := by
  have hex : ∀ v, ∃ o : Option Val2, (∀ a, o = some a → Way E r v a ∧ ∀ b, Way E r v b → leV a b) ∧ (o = none → ∀ b, ¬ Way E r v b) := by
    intro v
    by_cases h : ∃ a, Way E r v a
    · obtain ⟨a, ha, hm⟩ := least_val _ h
      exact ⟨some a, fun a' e => (by cases e; exact ⟨ha, hm⟩), fun e => (by cases e)⟩
    · exact ⟨none, fun a e => (by cases e), fun _ b hb => h ⟨b, hb⟩⟩
  obtain ⟨D, hD⟩ := Classical.axiomOfChoice hex
  have hw : ∀ v b, Way E r v b → ∃ a, D v = some a ∧ leV a b := by
    intro v b hb
    cases h : D v with
    | none => exact absurd hb ((hD v).2 h b)
    | some a => exact ⟨a, rfl, ((hD v).1 a h).2 b hb⟩
  refine ⟨D, ?_, ?_, ?_⟩
  · obtain ⟨a, ha, hle⟩ := hw r _ .here
    rw [ha]
    congr 1
    refine leV_anti hle ?_
    unfold leV
    simp only
    omega
  · intro e he hc a ha
    exact hw _ _ (.more he hc ((hD _).1 a ha).1)
  · intro v a ha
    have hway := ((hD v).1 a ha).1
    have hmin := ((hD v).1 a ha).2
    cases hway with
    | here => exact .inl rfl
    | @more e b he hc hb =>
      obtain ⟨b', hb', hle⟩ := hw _ _ hb
      refine .inr ⟨e, he, hc, rfl, b', hb', ?_⟩
      exact leV_anti (hmin _ (.more he hc ((hD _).1 b' hb').1)) (stepV_mono hle e)
theorem IsDist.may (h : IsDist E r D) (hr : mayV r = true) : ∀ v a, D v = some a → mayV v = true :=
  h.induct (P := fun v _ => mayV v = true) hr fun _ _ hc _ _ _ _ => (cntE_iff.1 hc).2.1
/-- what is not the root costs something, and lies over a network -/
theorem IsDist.pos (h : IsDist E r D) (hr : r.kind = 1) : ∀ v a, D v = some a → (v = r ∧ a = ⟨0, 0⟩) ∨ (v ≠ r ∧ 1 ≤ a.c ∧ 1 ≤ a.h) := by
  intro v a hv
  have := h.induct (P := fun v a => (v = r ∧ a = ⟨0, 0⟩) ∨ (1 ≤ a.c ∧ 1 ≤ a.h)) (.inl ⟨rfl, rfl⟩) (fun e _ hc b _ _ hP => by
    right
    obtain ⟨-, -, hk⟩ := cntE_iff.1 hc
    unfold stepV hopN
    simp only
    rcases hk with ⟨h1, h2, h3, h4⟩ | ⟨h1, h2, h3⟩
    · rw [if_pos h2]; omega
    · rcases hP with ⟨e1, -⟩ | ⟨g1, g2⟩
      · exfalso
        have : e.fk = r.kind := by rw [← e1]; rfl
        omega
      · rw [if_neg (by omega)]; omega) v a hv
  rcases this with g | g
  · exact .inl g
  · by_cases hvr : v = r
    · subst hvr
      rw [h.root] at hv
      cases hv
      exact .inl ⟨rfl, rfl⟩
    · exact .inr ⟨hvr, g⟩
end

def isHop (E : List Ed) (DD : Vx → Vx → Option Val2) (r v : Vx) (h : Hp) : Prop :=
  ∃ e ∈ E, cntE e = true ∧ e.src = r ∧ ∃ a, DD r v = some a ∧
    ((e.dst = v ∧ a.c = e.cost.toNat ∧ h = ⟨e.ti / 16, 0⟩) ∨
     ∃ f ∈ E, cntE f = true ∧ f.src = e.dst ∧ ∃ b, DD f.dst v = some b ∧ e.cost.toNat + b.c = a.c ∧ h = ⟨e.ti / 16, f.ti⟩)
def extH (r : Vx) (e : Ed) (L : List Hp) : List Hp := if e.src = r then [⟨e.ti / 16, 0⟩] else L.map fun h => if h.id = 0 then ⟨h.lan, e.ti⟩ else h
/-- what the hops of each are by those ahead of it -/
structure IsNext (E : List Ed) (r : Vx) (D : Vx → Option Val2) (N : Vx → List Hp) : Prop where
  root : N r = []
  each : ∀ v a, D v = some a → v ≠ r → ∀ h, h ∈ N v ↔ ∃ e ∈ E, cntE e = true ∧ e.dst = v ∧ ∃ b, D e.src = some b ∧ a.c = b.c + e.cost.toNat ∧ h ∈ extH r e (N e.src)
section
variable {E : List Ed} {r : Vx} {DD : Vx → Vx → Option Val2} {N : Vx → List Hp}
theorem dist_join (hD : ∀ r, IsDist E r (DD r)) {v x : Vx} {a b : Val2} (ha : DD r v = some a) (hb : DD v x = some b) : ∃ c, DD r x = some c ∧ c.c ≤ a.c + b.c := by
  refine (hD v).induct (P := fun x b => ∃ c, DD r x = some c ∧ c.c ≤ a.c + b.c) ⟨a, ha, by simp⟩ ?_ x b hb
  rintro e he hc b' - - ⟨c, hc2, hle⟩
  obtain ⟨d, hd, hle2⟩ := (hD r).closed e he hc c hc2
  refine ⟨d, hd, ?_⟩
  unfold leV stepV at hle2
  unfold stepV
  simp only at hle2 ⊢
  omega
theorem hops_iff (hD : ∀ r, IsDist E r (DD r)) (hr : r.kind = 1) (hN : IsNext E r (DD r) N) : ∀ v a, DD r v = some a → ∀ h, h ∈ N v ↔ isHop E DD r v h := by
  have key : ∀ n v a, rankV v a = n → DD r v = some a → ∀ h, h ∈ N v ↔ isHop E DD r v h := by
    intro n
    induction n using Nat.strongRecOn with
    | ind n ih =>
      intro v a hn hv h
      by_cases hvr : v = r
      · subst hvr
        rw [hN.root]
        simp only [List.not_mem_nil, false_iff]
        rintro ⟨e, he, hc, hs, a', ha', hh⟩
        rw [(hD v).root] at ha'
        cases ha'
        obtain ⟨-, -, hk⟩ := cntE_iff.1 hc
        have hsk : e.fk = v.kind := by rw [← hs]; rfl
        rcases hh with ⟨-, h2, -⟩ | ⟨f, hf, hfc, hfs, b, hb, h2, -⟩
        · simp only at h2; omega
        · simp only at h2; omega
      rw [hN.each v a hv hvr h]
      constructor
      · rintro ⟨e, he, hc, rfl, b, hb, hab, hm⟩
        have hlt : rankV e.src b < rankV e.dst a := by
          have := rank_step hc b
          unfold rankV stepV at this
          unfold rankV
          simp only at this
          omega
        unfold extH at hm
        by_cases hs : e.src = r
        · rw [if_pos hs, List.mem_singleton] at hm
          refine ⟨e, he, hc, hs, a, hv, .inl ⟨rfl, ?_, hm⟩⟩
          rw [hs, (hD r).root] at hb
          cases hb
          simpa using hab
        · rw [if_neg hs, List.mem_map] at hm
          obtain ⟨g, hg, rfl⟩ := hm
          obtain ⟨e1, he1, hc1, hs1, b', hb', hh⟩ := (ih _ (by rw [← hn]; exact hlt) _ _ rfl hb g).1 hg
          rw [hb] at hb'
          cases hb'
          rcases hh with ⟨h1, h2, h3⟩ | ⟨f, hf, hfc, hfs, c, hcc, h2, h3⟩
          · rw [h3]
            simp only [if_true]
            obtain ⟨-, hm1, hk1⟩ := cntE_iff.1 hc1
            obtain ⟨-, -, hk⟩ := cntE_iff.1 hc
            have hk3 : e.fk = e1.tk := by
              have := congrArg Vx.kind h1
              exact this.symm
            refine ⟨e1, he1, hc1, hs1, a, hv, .inr ⟨e, he, hc, h1.symm, ⟨0, 0⟩, (hD _).root, ?_, rfl⟩⟩
            have hkr : e1.fk = r.kind := by rw [← hs1]; rfl
            simp only
            omega
          · obtain ⟨-, hfm, hfk⟩ := cntE_iff.1 hfc
            have hfid : f.ti ≠ 0 := by
              have hs1k : e1.fk = r.kind := by rw [← hs1]; rfl
              have hfsk : f.fk = e1.tk := congrArg Vx.kind hfs
              obtain ⟨-, -, hk1⟩ := cntE_iff.1 hc1
              rcases mayV_iff.1 hfm with ⟨-, q1, q2⟩ | ⟨q0, -, -⟩
              · have : f.dst.id = f.ti := rfl
                omega
              · have : f.dst.kind = f.tk := rfl
                omega
            rw [h3]
            simp only [hfid, if_false]
            obtain ⟨d, hd, hle⟩ := (hD f.dst).closed e he hc c hcc
            obtain ⟨e1b, he1b, hle1⟩ := (hD r).closed e1 he1 hc1 ⟨0, 0⟩ (by rw [hs1]; exact (hD r).root)
            obtain ⟨e2b, he2b, hle2⟩ := (hD r).closed f hf hfc e1b (by rw [hfs]; exact he1b)
            obtain ⟨x, hx, hle3⟩ := dist_join hD he2b hd
            rw [hv] at hx
            cases hx
            refine ⟨e1, he1, hc1, hs1, a, hv, .inr ⟨f, hf, hfc, hfs, d, hd, ?_, rfl⟩⟩
            obtain ⟨-, -, hfk⟩ := cntE_iff.1 hfc
            have hs1k : e1.fk = r.kind := by rw [← hs1]; rfl
            have hfsk : f.fk = e1.tk := congrArg Vx.kind hfs
            obtain ⟨-, -, hk1⟩ := cntE_iff.1 hc1
            unfold leV stepV at hle hle1 hle2
            simp only at hle hle1 hle2 hab h2
            omega
      · rintro ⟨e1, he1, hc1, hs1, a', ha', hh⟩
        rw [hv] at ha'
        cases ha'
        have hs1k : e1.fk = r.kind := by rw [← hs1]; rfl
        obtain ⟨-, -, hk1⟩ := cntE_iff.1 hc1
        rcases hh with ⟨h1, h2, h3⟩ | ⟨f, hf, hfc, hfs, c, hcc, h2, h3⟩
        · refine ⟨e1, he1, hc1, h1, ⟨0, 0⟩, by rw [hs1]; exact (hD r).root, by simpa using h2, ?_⟩
          unfold extH
          rw [if_pos hs1, List.mem_singleton]
          exact h3
        · have hfsk : f.fk = e1.tk := congrArg Vx.kind hfs
          obtain ⟨-, hfm, hfk⟩ := cntE_iff.1 hfc
          have hfid : f.ti ≠ 0 := by
            rcases mayV_iff.1 hfm with ⟨-, q1, q2⟩ | ⟨q0, -, -⟩
            · have : f.dst.id = f.ti := rfl
              omega
            · have : f.dst.kind = f.tk := rfl
              omega
          obtain ⟨n1, hn1, hle1⟩ := (hD r).closed e1 he1 hc1 ⟨0, 0⟩ (by rw [hs1]; exact (hD r).root)
          obtain ⟨n2, hn2, hle2⟩ := (hD r).closed f hf hfc n1 (by rw [hfs]; exact hn1)
          rcases (hD f.dst).tight v c hcc with hvf | ⟨e, he, hc, rfl, b, hb, rfl⟩
          · subst hvf
            rw [(hD f.dst).root] at hcc
            cases hcc
            rw [hv] at hn2
            cases hn2
            unfold leV stepV at hle1 hle2
            simp only at hle1 hle2 h2
            have hne : ¬ f.src = r := fun e => by
              have := congrArg Vx.kind e
              have h4 : f.src.kind = f.fk := rfl
              omega
            refine ⟨f, hf, hfc, rfl, n1, by rw [hfs]; exact hn1, by omega, ?_⟩
            unfold extH
            rw [if_neg hne, List.mem_map]
            refine ⟨⟨e1.ti / 16, 0⟩, ?_, by simp [h3]⟩
            have hlt : rankV f.src n1 < n := by
              rw [← hn]
              have := rank_step hfc n1
              unfold rankV stepV at this
              unfold rankV
              simp only at this
              omega
            refine (ih _ hlt f.src n1 rfl (by rw [hfs]; exact hn1) _).2 ?_
            refine ⟨e1, he1, hc1, hs1, n1, by rw [hfs]; exact hn1, .inl ⟨hfs.symm, ?_, rfl⟩⟩
            omega
          · obtain ⟨u, hu, hle3⟩ := dist_join hD hn2 hb
            obtain ⟨v', hv', hle4⟩ := (hD r).closed e he hc u hu
            rw [hv] at hv'
            cases hv'
            obtain ⟨-, -, hk⟩ := cntE_iff.1 hc
            unfold leV stepV at hle1 hle2 hle4
            unfold stepV at h2
            simp only at hle1 hle2 hle4 h2
            have hne : ¬ e.src = r := fun e' => by
              rw [e', (hD r).root] at hu
              cases hu
              simp only at hle3 hle4
              omega
            have hlt : rankV e.src u < n := by
              rw [← hn]
              have := rank_step hc u
              unfold rankV stepV at this
              unfold rankV
              simp only at this
              omega
            refine ⟨e, he, hc, rfl, u, hu, by omega, ?_⟩
            unfold extH
            rw [if_neg hne, List.mem_map]
            refine ⟨h, ?_, ?_⟩
            · exact (ih _ hlt _ _ rfl hu h).2 ⟨e1, he1, hc1, hs1, u, hu, .inr ⟨f, hf, hfc, hfs, b, hb, by omega, h3⟩⟩
            · rw [h3]; simp [hfid]
  exact fun v a => key _ v a rfl
end

end Go.Proofs.YtpnbibokddhheaaGreat

/-
  Layer 21 in plain words: costs that are made less till none can be are the least ones.
-/
namespace Go.Proofs.YtpnbibokddhheaaGreat

/-- an address in an order; every vertex that may be -/
def allV : List Vx := (List.range 15).map (fun i => ⟨1, (i : Int) + 1⟩) ++ (List.range 64).map (fun i => ⟨2, (i : Int)⟩)
theorem allV_len : allV.length = 79 := by simp [allV]
theorem mem_allV {v : Vx} (h : mayV v = true) : v ∈ allV := by
  obtain ⟨k, i⟩ := v
  unfold allV
  rw [List.mem_append, List.mem_map, List.mem_map]
  rcases mayV_iff.1 h with ⟨h1, h2, h3⟩ | ⟨h1, h2, h3⟩
  · simp only at h1 h2 h3
    refine .inl ⟨i.toNat - 1, List.mem_range.2 (by omega), ?_⟩
    rw [h1]
    congr 1
    omega
  · simp only at h1 h2 h3
    refine .inr ⟨i.toNat, List.mem_range.2 (by omega), ?_⟩
    rw [h1]
    congr 1
    omega
theorem nodup_len {α : Type} [DecidableEq α] : ∀ (l m : List α), l.Nodup → (∀ x ∈ l, x ∈ m) → l.length ≤ m.length
  | [], _, _, _ => Nat.zero_le _
  | x :: l, m, hn, hs => by
    rw [List.nodup_cons] at hn
    have hx := hs x (by simp)
    have ih := nodup_len l (m.erase x) hn.2 fun y hy => (List.mem_erase_of_ne (fun e : y = x => hn.1 (by rw [← e]; exact hy))).2 (hs y (by simp [hy]))
    rw [List.length_erase_of_mem hx] at ih
    have := List.length_pos_of_mem hx
    rw [List.length_cons]
    omega
theorem may_len {l : List Vx} (hn : l.Nodup) (h : ∀ v ∈ l, mayV v = true) : l.length ≤ 79 := by
  have := nodup_len l allV hn fun v hv => mem_allV (h v hv)
  rwa [allV_len] at this

abbrev RowV := Vx × Val2
def ixV (v : Vx) (L : List RowV) : Nat := L.findIdx fun p => decide (p.1 = v)
def getR (L : List RowV) (v : Vx) : Option Val2 := (L[ixV v L]?).map (·.2)
def lessV (a b : Val2) : Bool := decide (a.c < b.c) || (decide (a.c = b.c) && decide (a.h < b.h))
theorem lessV_iff {a b : Val2} : lessV a b = true ↔ ¬ leV b a := by simp only [lessV, leV, Bool.or_eq_true, Bool.and_eq_true, decide_eq_true_eq]; omega
def relax (L : List RowV) (e : Ed) : List RowV :=
  if cntE e = true then
    match getR L e.src with
    | none => L
    | some a => match getR L e.dst with
      | none => L ++ [(e.dst, stepV a e)]
      | some b => if lessV (stepV a e) b = true then L.set (ixV e.dst L) (e.dst, stepV a e) else L
  else L
def roundR (E : List Ed) (L : List RowV) : List RowV := E.foldl relax L
def iterR (E : List Ed) : Nat → List RowV → List RowV
  | 0, L => L
  | n + 1, L => iterR E n (roundR E L)
theorem iterR_succ (E : List Ed) : ∀ (n : Nat) (L : List RowV), iterR E (n + 1) L = roundR E (iterR E n L)
  | 0, _ => rfl
  | n + 1, L => by rw [iterR, iterR_succ E n, iterR]
theorem iterR_fix {E : List Ed} {L : List RowV} (h : roundR E L = L) : ∀ n, iterR E n L = L
  | 0 => rfl
  | n + 1 => by rw [iterR, h, iterR_fix h n]
theorem iterR_stop {E : List Ed} {L : List RowV} {k : Nat} (hk : k ≤ 200) (h : roundR E (iterR E k L) = iterR E k L) : iterR E 200 L = iterR E k L := by
  have add : ∀ m n (M : List RowV), iterR E (m + n) M = iterR E n (iterR E m M) := by
    intro m
    induction m with
    | zero => intro n M; rw [Nat.zero_add, iterR]
    | succ m ih => intro n M; rw [Nat.succ_add, iterR, ih, iterR]
  have := add k (200 - k) L
  rw [show k + (200 - k) = 200 by omega] at this
  rw [this, iterR_fix h]
theorem relax_snoc (E : List Ed) {k : Nat} (hk : k < E.length) (L : List RowV) : roundR (E.take (k + 1)) L = relax (roundR (E.take k) L) E[k] := by
  unfold roundR
  rw [List.take_succ_eq_append_getElem hk, List.foldl_append]
  rfl

theorem ix_lt {L : List RowV} {v : Vx} {a : Val2} (h : getR L v = some a) : ∃ hi : ixV v L < L.length, L[ixV v L]'hi = (v, a) := by
  unfold getR at h
  obtain ⟨p, hp, rfl⟩ := Option.map_eq_some_iff.1 h
  obtain ⟨hi, hp⟩ := List.getElem?_eq_some_iff.1 hp
  refine ⟨hi, ?_⟩
  have := List.findIdx_getElem (p := fun p : RowV => decide (p.1 = v)) (xs := L) (w := hi)
  unfold ixV at hp ⊢
  rw [hp] at this ⊢
  rw [decide_eq_true_eq] at this
  rw [← this]
theorem get_none {L : List RowV} {v : Vx} : getR L v = none ↔ ∀ p ∈ L, p.1 ≠ v := by
  unfold getR ixV
  rw [Option.map_eq_none_iff, List.getElem?_eq_none_iff]
  have h1 := List.findIdx_le_length (p := fun p : RowV => decide (p.1 = v)) (xs := L)
  constructor
  · intro h p hp e
    have := List.findIdx_lt_length_of_exists (p := fun p : RowV => decide (p.1 = v)) (xs := L) ⟨p, hp, by simp [e]⟩
    omega
  · intro h
    have := (List.findIdx_eq_length (p := fun p : RowV => decide (p.1 = v)) (xs := L)).2 fun p hp => by simp [h p hp]
    omega
theorem getR_cons (p : RowV) (L : List RowV) (v : Vx) : getR (p :: L) v = if p.1 = v then some p.2 else getR L v := by
  unfold getR ixV
  rw [List.findIdx_cons]
  by_cases h : p.1 = v
  · simp [h]
  · simp [h]
theorem getR_snoc (x : Vx) (b : Val2) (v : Vx) : ∀ L : List RowV, getR L x = none → getR (L ++ [(x, b)]) v = if x = v then some b else getR L v
  | [], _ => by rw [List.nil_append, getR_cons]
  | p :: L, h => by
    rw [getR_cons] at h
    by_cases hp : p.1 = x
    · rw [if_pos hp] at h; cases h
    · rw [if_neg hp] at h
      rw [List.cons_append, getR_cons, getR_cons, getR_snoc x b v L h]
      by_cases h1 : p.1 = v
      · rw [if_pos h1, if_pos h1, if_neg]
        intro e
        exact hp (by rw [h1, e])
      · rw [if_neg h1, if_neg h1]
theorem getR_set (x : Vx) (b : Val2) (v : Vx) : ∀ L : List RowV, getR L x ≠ none → getR (L.set (ixV x L) (x, b)) v = if x = v then some b else getR L v
  | [], h => absurd rfl h
  | p :: L, h => by
    rw [getR_cons] at h
    unfold ixV
    rw [List.findIdx_cons]
    by_cases hp : p.1 = x
    · simp only [hp, decide_true, cond_true, List.set_cons_zero]
      rw [getR_cons, getR_cons]
      by_cases h1 : x = v
      · rw [if_pos h1, if_pos h1]
      · have h2 : ¬ p.1 = v := fun e => h1 (by rw [← hp, e])
        simp [h1, h2]
    · rw [if_neg hp] at h
      simp only [hp, decide_false, cond_false, List.set_cons_succ]
      rw [getR_cons, getR_cons]
      have ih := getR_set x b v L h
      unfold ixV at ih
      by_cases h1 : p.1 = v
      · rw [if_pos h1, if_pos h1, if_neg]
        intro e
        exact hp (by rw [h1, e])
      · rw [if_neg h1, if_neg h1, ih]
theorem keys_set (x : Vx) (b : Val2) (L : List RowV) (h : getR L x ≠ none) : (L.set (ixV x L) (x, b)).map (·.1) = L.map (·.1) := by
  cases hg : getR L x with
  | none => exact absurd hg h
  | some a =>
    obtain ⟨hi, e⟩ := ix_lt hg
    refine List.ext_getElem (by simp) fun n h1 h2 => ?_
    simp only [List.getElem_map, List.getElem_set]
    split
    · rename_i hn
      subst hn
      rw [e]
    · rfl
/-- what one edge does -/
theorem relax_get (L : List RowV) (e : Ed) (v : Vx) : getR (relax L e) v = if cntE e = true then (match getR L e.src with
    | none => getR L v
    | some a => if e.dst = v then (match getR L e.dst with | none => some (stepV a e) | some b => if lessV (stepV a e) b = true then some (stepV a e) else some b) else getR L v) else getR L v := by
  unfold relax
  split
  · cases h1 : getR L e.src with
    | none => rfl
    | some a =>
      simp only
      cases h2 : getR L e.dst with
      | none => simp only; rw [getR_snoc _ _ _ _ h2]
      | some b =>
        simp only
        split
        · rw [getR_set _ _ _ _ (by rw [h2]; simp)]
        · split
          · rename_i h3
            rw [← h3, h2]
          · rfl
  · rfl
structure RowsOk (E : List Ed) (r : Vx) (L : List RowV) : Prop where
  keys : (L.map (·.1)).Nodup
  may : ∀ p ∈ L, mayV p.1 = true
theorem RowsOk.start (E : List Ed) {r : Vx} (hr : mayV r = true) : RowsOk E r [(r, ⟨0, 0⟩)] := ⟨by simp, by simpa using hr⟩
theorem RowsOk.relax {E : List Ed} {r : Vx} {L : List RowV} (h : RowsOk E r L) (e : Ed) : RowsOk E r (relax L e) := by
  unfold Go.Proofs.YtpnbibokddhheaaGreat.relax
  split
  · rename_i hc
    cases h1 : getR L e.src with
    | none => exact h
    | some a =>
      simp only
      cases h2 : getR L e.dst with
      | none =>
        simp only
        refine ⟨?_, fun p hp => ?_⟩
        · rw [List.map_append, List.map_singleton, List.nodup_append]
          refine ⟨h.keys, by simp, fun x hx y hy => ?_⟩
          obtain ⟨p, hp, rfl⟩ := List.mem_map.1 hx
          rw [List.mem_singleton] at hy
          rw [hy]
          exact get_none.1 h2 p hp
        · rcases List.mem_append.1 hp with hp | hp
          · exact h.may p hp
          · rw [List.mem_singleton] at hp
            rw [hp]
            exact (cntE_iff.1 hc).2.1
      | some b =>
        simp only
        split
        · have hk := keys_set e.dst (stepV a e) L (by rw [h2]; simp)
          refine ⟨by rw [hk]; exact h.keys, fun p hp => ?_⟩
          have : p.1 ∈ L.map (·.1) := by rw [← hk]; exact List.mem_map_of_mem hp
          obtain ⟨q, hq, he⟩ := List.mem_map.1 this
          rw [← he]
          exact h.may q hq
        · exact h
  · exact h
theorem RowsOk.len {E : List Ed} {r : Vx} {L : List RowV} (h : RowsOk E r L) : L.length ≤ 79 := by
  have := may_len h.keys fun v hv => by
    obtain ⟨p, hp, rfl⟩ := List.mem_map.1 hv
    exact h.may p hp
  rwa [List.length_map] at this
theorem RowsOk.round {E : List Ed} {r : Vx} : ∀ (T : List Ed) {L : List RowV}, RowsOk E r L → RowsOk E r (roundR T L)
  | [], _, h => h
  | e :: T, _, h => RowsOk.round T (h.relax e)
theorem RowsOk.iter {E : List Ed} {r : Vx} : ∀ (n : Nat) {L : List RowV}, RowsOk E r L → RowsOk E r (iterR E n L)
  | 0, _, h => h
  | n + 1, _, h => RowsOk.iter n (h.round E)

section
variable {E : List Ed} {r : Vx} {D : Vx → Option Val2}
def SoundR (D : Vx → Option Val2) (L : List RowV) : Prop := ∀ v b, getR L v = some b → ∃ a, D v = some a ∧ leV a b
theorem SoundR.start (h : IsDist E r D) : SoundR D [(r, ⟨0, 0⟩)] := by
  intro v b hb
  rw [getR_cons] at hb
  split at hb
  · rename_i e
    cases hb
    exact ⟨_, by rw [← e]; exact h.root, leV_refl _⟩
  · cases hb
theorem SoundR.relax (h : IsDist E r D) {L : List RowV} (hs : SoundR D L) {e : Ed} (he : e ∈ E) : SoundR D (relax L e) := by
  intro v b hb
  rw [relax_get] at hb
  split at hb
  · rename_i hc
    cases h1 : getR L e.src with
    | none => rw [h1] at hb; exact hs v b hb
    | some a =>
      rw [h1] at hb
      simp only at hb
      split at hb
      · rename_i hv
        subst hv
        obtain ⟨a', ha', hle⟩ := hs _ _ h1
        obtain ⟨c, hc2, hle2⟩ := h.closed e he hc a' ha'
        have hst : ∃ x, D e.dst = some x ∧ leV x (stepV a e) := ⟨c, hc2, leV_trans hle2 (stepV_mono hle e)⟩
        cases h2 : getR L e.dst with
        | none => rw [h2] at hb; simp only at hb; cases hb; exact hst
        | some d =>
          rw [h2] at hb
          simp only at hb
          split at hb
          · cases hb; exact hst
          · cases hb; exact hs _ _ h2
      · exact hs v b hb
  · exact hs v b hb
/-- it is as it will be -/
def ExactR (D : Vx → Option Val2) (L : List RowV) (v : Vx) : Prop := ∃ a, D v = some a ∧ getR L v = some a
theorem relax_le (L : List RowV) (e : Ed) {v : Vx} {b : Val2} (h : getR L v = some b) : ∃ b', getR (relax L e) v = some b' ∧ leV b' b := by
  rw [relax_get]
  split
  · cases h1 : getR L e.src with
    | none => exact ⟨b, h, leV_refl _⟩
    | some a =>
      simp only
      split
      · rename_i hv
        subst hv
        rw [h]
        simp only
        split
        · rename_i hl
          refine ⟨_, rfl, ?_⟩
          have := lessV_iff.1 hl
          rcases leV_total (stepV a e) b with g | g
          · exact g
          · exact absurd g this
        · exact ⟨_, rfl, leV_refl _⟩
      · exact ⟨b, h, leV_refl _⟩
  · exact ⟨b, h, leV_refl _⟩
theorem ExactR.relax (h : IsDist E r D) {L : List RowV} (hs : SoundR D L) {e : Ed} (he : e ∈ E) {v : Vx} (hx : ExactR D L v) : ExactR D (relax L e) v := by
  obtain ⟨a, ha, hg⟩ := hx
  obtain ⟨b, hb, hle⟩ := relax_le L e hg
  obtain ⟨a', ha', hle2⟩ := (hs.relax h he) v b hb
  rw [ha] at ha'
  cases ha'
  rw [leV_anti hle hle2] at hb
  exact ⟨a, ha, hb⟩
theorem exact_over {L : List RowV} (hs : SoundR D L) {e : Ed} (hc : cntE e = true) {b : Val2} (hb : D e.src = some b) (hd : D e.dst = some (stepV b e)) (hx : ExactR D L e.src) : ExactR D (relax L e) e.dst := by
  obtain ⟨a, ha, hg⟩ := hx
  rw [hb] at ha
  cases ha
  refine ⟨_, hd, ?_⟩
  rw [relax_get, if_pos hc, hg]
  simp only [if_true]
  cases h2 : getR L e.dst with
  | none => rfl
  | some c =>
    simp only
    split
    · rfl
    · rename_i hl
      obtain ⟨x, hx, hle⟩ := hs _ _ h2
      rw [hd] at hx
      cases hx
      have : leV c (stepV b e) := by
        by_cases g : leV c (stepV b e)
        · exact g
        · exact absurd (lessV_iff.2 g) hl
      rw [leV_anti hle this]
theorem round_keep (h : IsDist E r D) : ∀ (T : List Ed) {L : List RowV}, (∀ e ∈ T, e ∈ E) → SoundR D L → SoundR D (roundR T L) ∧ ∀ v, ExactR D L v → ExactR D (roundR T L) v
  | [], _, _, hs => ⟨hs, fun _ hx => hx⟩
  | e :: T, L, hT, hs => by
    have he := hT e (by simp)
    obtain ⟨h1, h2⟩ := round_keep h T (fun x hx => hT x (by simp [hx])) (hs.relax h he)
    exact ⟨h1, fun v hx => h2 v (hx.relax h hs he)⟩
/-- it is had over so many edges -/
def ReachV (E : List Ed) (r : Vx) (D : Vx → Option Val2) : Nat → Vx → Prop
  | 0, v => v = r
  | k + 1, v => ∃ e ∈ E, cntE e = true ∧ e.dst = v ∧ ∃ b, D e.src = some b ∧ D e.dst = some (stepV b e) ∧ ReachV E r D k e.src
theorem round_reach (h : IsDist E r D) {L : List RowV} (hs : SoundR D L) {k : Nat} (hx : ∀ v, ReachV E r D k v → ExactR D L v) : ∀ v, ReachV E r D (k + 1) v → ExactR D (roundR E L) v := by
  rintro v ⟨e, he, hc, rfl, b, hb, hd, hre⟩
  obtain ⟨P, Q, hPQ⟩ := List.append_of_mem he
  have hr : roundR E L = roundR Q (relax (roundR P L) e) := by
    conv => lhs; rw [hPQ]
    unfold roundR
    rw [List.foldl_append, List.foldl_cons]
  rw [hr]
  have hP : ∀ x ∈ P, x ∈ E := fun x hx => by rw [hPQ]; simp [hx]
  have hQ : ∀ x ∈ Q, x ∈ E := fun x hx => by rw [hPQ]; simp [hx]
  obtain ⟨s1, k1⟩ := round_keep h P hP hs
  have x1 := k1 _ (hx _ hre)
  exact (round_keep h Q hQ (s1.relax h he)).2 _ (exact_over s1 hc hb hd x1)
theorem iter_reach (h : IsDist E r D) : ∀ n, SoundR D (iterR E n [(r, ⟨0, 0⟩)]) ∧ ∀ k, k ≤ n → ∀ v, ReachV E r D k v → ExactR D (iterR E n [(r, ⟨0, 0⟩)]) v
  | 0 => ⟨SoundR.start h, fun k hk v hv => by
    have : k = 0 := by omega
    subst this
    rw [show v = r from hv]
    exact ⟨_, h.root, by rw [iterR, getR_cons, if_pos rfl]⟩⟩
  | n + 1 => by
    obtain ⟨s1, x1⟩ := iter_reach h n
    rw [iterR_succ]
    obtain ⟨s2, k2⟩ := round_keep h E (fun _ h => h) s1
    refine ⟨s2, fun k hk v hv => ?_⟩
    by_cases hkn : k ≤ n
    · exact k2 v (x1 k hkn v hv)
    · have : k = n + 1 := by omega
      subst this
      exact round_reach h s1 (x1 n (Nat.le_refl _)) v hv
theorem reach_few (h : IsDist E r D) : ∀ v a, D v = some a → ∃ k, k ≤ 79 ∧ ReachV E r D k v := by
  have := h.induct (P := fun v a => ∃ l : List Vx, l.Nodup ∧ (∀ x ∈ l, mayV x = true ∧ ∃ b, D x = some b ∧ rankV x b < rankV v a) ∧ ReachV E r D l.length v) ⟨[], by simp, by simp, rfl⟩ (by
    rintro e he hc b hb hd ⟨l, hn, hl, hre⟩
    refine ⟨e.src :: l, ?_, ?_, ?_⟩
    · rw [List.nodup_cons]
      refine ⟨fun hm => ?_, hn⟩
      obtain ⟨-, b', hb', hlt⟩ := hl _ hm
      rw [hb] at hb'
      cases hb'
      omega
    · intro x hx
      have hstep := rank_step hc b
      rcases List.mem_cons.1 hx with rfl | hx
      · exact ⟨(cntE_iff.1 hc).1, b, hb, hstep⟩
      · obtain ⟨h1, b', hb', hlt⟩ := hl x hx
        exact ⟨h1, b', hb', by omega⟩
    · exact ⟨e, he, hc, rfl, b, hb, hd, hre⟩)
  intro v a hv
  obtain ⟨l, hn, hl, hre⟩ := this v a hv
  exact ⟨l.length, may_len hn fun x hx => (hl x hx).1, hre⟩
/-- the document's costs are the least ones -/
theorem costs_dist (h : IsDist E r D) (v : Vx) : getR (iterR E 200 [(r, ⟨0, 0⟩)]) v = D v := by
  obtain ⟨hs, hx⟩ := iter_reach h 200
  cases hv : D v with
  | some a =>
    obtain ⟨k, hk, hre⟩ := reach_few h v a hv
    obtain ⟨a', ha', hg⟩ := hx k (by omega) v hre
    rw [hv] at ha'
    rw [hg, ← ha']
  | none =>
    cases hg : getR (iterR E 200 [(r, ⟨0, 0⟩)]) v with
    | none => rfl
    | some b =>
      obtain ⟨a, ha, -⟩ := hs v b hg
      rw [hv] at ha
      cases ha
end

end Go.Proofs.YtpnbibokddhheaaGreat

/-
  Layer 21 in plain words: the nearest one first gives the least values, and the hops.
-/
namespace Go.Proofs.YtpnbibokddhheaaGreat

/-- hops in order, each once -/
def ltH (a b : Hp) : Prop := a.lan < b.lan ∨ (a.lan = b.lan ∧ a.id < b.id)
/-- what is known of a vertex -/
structure Pl where
  a : Val2
  next : List Hp
abbrev Tab := Vx → Option Pl
/-- lists of hops with just these members, in order -/
structure JoinH (L M N : List Hp) : Prop where
  sorted : N.Pairwise ltH
  mem : ∀ h, h ∈ N ↔ h ∈ L ∨ h ∈ M
/-- one edge from a vertex that is done -/
def StepT (r : Vx) (T T' : Tab) (e : Ed) : Prop :=
  ∃ p, T e.src = some p ∧ (∀ v, v ≠ e.dst → T' v = T v) ∧
    ((∃ q, T e.dst = some q ∧ q.a.c < p.a.c + e.cost.toNat ∧ T' e.dst = some q) ∨
     (∃ q n, T e.dst = some q ∧ q.a.c = p.a.c + e.cost.toNat ∧ JoinH q.next (extH r e p.next) n ∧ T' e.dst = some ⟨⟨q.a.c, min (p.a.h + hopN e) q.a.h⟩, n⟩) ∨
     (∃ n, (∀ q, T e.dst = some q → p.a.c + e.cost.toNat < q.a.c) ∧ JoinH [] (extH r e p.next) n ∧ T' e.dst = some ⟨stepV p.a e, n⟩))
/-- behind the edges Z of the vertices O, which are done -/
structure Dij (E : List Ed) (r : Vx) (O : List Vx) (Z : List Ed) (T : Tab) : Prop where
  root : T r = some ⟨⟨0, 0⟩, []⟩
  may : ∀ v p, T v = some p → mayV v = true
  had : ∀ v ∈ O, ∃ p, T v = some p
  nodup : O.Nodup
  edges : ∀ e ∈ Z, e ∈ E ∧ cntE e = true ∧ e.src ∈ O
  closed : ∀ e ∈ Z, ∀ p, T e.src = some p → ∃ q, T e.dst = some q ∧ leV q.a (stepV p.a e)
  tight : ∀ v q, T v = some q → v ≠ r → ∃ e ∈ Z, e.dst = v ∧ ∃ p, T e.src = some p ∧ q.a = stepV p.a e
  next : ∀ v q, T v = some q → v ≠ r → q.next.Pairwise ltH ∧ ∀ h, h ∈ q.next ↔ ∃ e ∈ Z, e.dst = v ∧ ∃ p, T e.src = some p ∧ q.a.c = p.a.c + e.cost.toNat ∧ h ∈ extH r e p.next
  order : ∀ u p v q, u ∈ O → T u = some p → v ∉ O → T v = some q → rankV u p.a ≤ rankV v q.a
  small : ∀ v q, T v = some q → q.a.c ≤ 100 * O.length ∧ q.a.h ≤ O.length
section
variable {E : List Ed} {r : Vx} {O : List Vx} {Z : List Ed} {T T' : Tab}
theorem Dij.start (hr : mayV r = true) (hT : ∀ v, T v = if v = r then some ⟨⟨0, 0⟩, []⟩ else none) : Dij E r [] [] T where
  root := by rw [hT, if_pos rfl]
  may := fun v p h => by
    rw [hT] at h
    split at h
    · rename_i e; rw [e]; exact hr
    · cases h
  had := fun v h => absurd h (by simp)
  nodup := List.nodup_nil
  edges := fun e h => absurd h (by simp)
  closed := fun e h => absurd h (by simp)
  tight := fun v q h hne => by rw [hT, if_neg hne] at h; cases h
  next := fun v q h hne => by rw [hT, if_neg hne] at h; cases h
  order := fun u p v q h => absurd h (by simp)
  small := fun v q h => by
    rw [hT] at h
    split at h
    · cases h; simp
    · cases h
theorem Dij.len (h : Dij E r O Z T) : O.length ≤ 79 := may_len h.nodup fun v hv => by
  obtain ⟨p, hp⟩ := h.had v hv
  exact h.may v p hp
/-- the next vertex is done -/
theorem Dij.pick (h : Dij E r O Z T) {u : Vx} {p : Pl} (hu : T u = some p) (hno : u ∉ O) (hmin : ∀ v q, v ∉ O → T v = some q → rankV u p.a ≤ rankV v q.a) : Dij E r (O ++ [u]) Z T := by
  refine ⟨h.root, h.may, ?_, ?_, ?_, h.closed, h.tight, h.next, ?_, ?_⟩
  · intro v hv
    rcases List.mem_append.1 hv with hv | hv
    · exact h.had v hv
    · rw [List.mem_singleton] at hv
      rw [hv]
      exact ⟨p, hu⟩
  · rw [List.nodup_append]
    refine ⟨h.nodup, by simp, fun a ha b hb e => ?_⟩
    rw [List.mem_singleton] at hb
    exact hno (by rw [← hb, ← e]; exact ha)
  · intro e he
    obtain ⟨h1, h2, h3⟩ := h.edges e he
    exact ⟨h1, h2, List.mem_append_left _ h3⟩
  · intro x px v q hx hpx hv hq
    have hvO : v ∉ O := fun g => hv (List.mem_append_left _ g)
    rcases List.mem_append.1 hx with hx | hx
    · exact h.order x px v q hx hpx hvO hq
    · rw [List.mem_singleton] at hx
      subst hx
      rw [hu] at hpx
      cases hpx
      exact hmin v q hvO hq
  · intro v q hq
    have := h.small v q hq
    rw [List.length_append, List.length_singleton]
    omega
/-- an edge of the one that was done last -/
theorem Dij.step {u : Vx} {p : Pl} (h : Dij E r O Z T) (hu : T u = some p) (huO : u ∈ O) (hlast : ∀ v q, v ∈ O → T v = some q → rankV v q.a ≤ rankV u p.a)
    (hsm : p.a.c + 100 ≤ 100 * O.length ∧ p.a.h + 1 ≤ O.length) {e : Ed} (he : e ∈ E) (hc : cntE e = true) (hs : e.src = u) (hr : r.kind = 1) (hst : StepT r T T' e) : Dij E r O (Z ++ [e]) T' ∧ T' u = some p ∧ (∀ v ∈ O, T' v = T v) := by
  obtain ⟨p', hp', hoth, hcase⟩ := hst
  subst hs
  rw [hu] at hp'
  cases hp'
  have hrk := rank_step hc p.a
  obtain ⟨-, hdm, hk⟩ := cntE_iff.1 hc
  have hcost : e.cost.toNat ≤ 100 := by omega
  have hhop : hopN e ≤ 1 := by unfold hopN; split <;> omega
  -- one that is done does not change
  have hdone : ∀ v ∈ O, T' v = T v := by
    intro v hv
    by_cases hvd : v = e.dst
    · subst hvd
      rcases hcase with ⟨q, h1, -, h3⟩ | ⟨q, n, h1, h2, -, -⟩ | ⟨n, h1, -, -⟩
      · rw [h3, h1]
      · have := hlast _ q hv h1
        unfold rankV stepV at hrk
        unfold rankV at this
        simp only at hrk
        omega
      · obtain ⟨q, hq⟩ := h.had _ hv
        have := h1 q hq
        have h4 := hlast _ q hv hq
        unfold rankV stepV at hrk
        unfold rankV at h4
        simp only at hrk
        omega
    · exact hoth v hvd
  have hnr : e.dst ≠ r ∨ T' r = T r := by
    by_cases g : e.dst = r
    · right
      rcases hcase with ⟨q, h1, -, h3⟩ | ⟨q, n, h1, h2, -, -⟩ | ⟨n, h1, -, -⟩
      · rw [← g, h3, h1]
      · rw [g, h.root] at h1
        cases h1
        have hk2 : e.tk = r.kind := by rw [← g]; rfl
        simp only at h2
        by_cases hsr : e.src = r
        · have : e.fk = r.kind := by rw [← hsr]; rfl
          omega
        · obtain ⟨e', he', hd', p', hp', hq⟩ := h.tight _ _ hu hsr
          obtain ⟨-, hc', -⟩ := h.edges e' he'
          obtain ⟨-, -, hk'⟩ := cntE_iff.1 hc'
          have h5 : e'.tk = e.fk := congrArg Vx.kind hd'
          have h6 : p.a.c = p'.a.c + e'.cost.toNat := by rw [hq]; rfl
          omega
      · have := h1 _ (by rw [g]; exact h.root)
        simp only at this
        omega
    · exact .inl g
  have hroot : T' r = some ⟨⟨0, 0⟩, []⟩ := by
    rcases hnr with g | g
    · rw [hoth r (Ne.symm g), h.root]
    · rw [g, h.root]
  have hsrc : ∀ e' ∈ Z, T' e'.src = T e'.src := fun e' he' => hdone _ (h.edges e' he').2.2
  have hu' : T' e.src = some p := by rw [hdone _ huO, hu]
  -- what is new costs no more than what was
  have hle : ∀ v q, T v = some q → ∃ q', T' v = some q' ∧ leV q'.a q.a := by
    intro v q hq
    by_cases hvd : v = e.dst
    · subst hvd
      rcases hcase with ⟨q', h1, -, h3⟩ | ⟨q', n, h1, h2, -, h3⟩ | ⟨n, h1, -, h3⟩
      · rw [hq] at h1; cases h1; exact ⟨_, h3, leV_refl _⟩
      · rw [hq] at h1
        cases h1
        refine ⟨_, h3, .inr ⟨rfl, ?_⟩⟩
        simp only
        omega
      · exact ⟨_, h3, .inl (h1 q hq)⟩
    · exact ⟨q, by rw [hoth v hvd, hq], leV_refl _⟩
  have hnew : ∃ q', T' e.dst = some q' ∧ leV q'.a (stepV p.a e) ∧ (T e.dst = some q' ∨ (q'.a = stepV p.a e ∨ ∃ q, T e.dst = some q ∧ q'.a = q.a)) := by
    rcases hcase with ⟨q', h1, h2, h3⟩ | ⟨q', n, h1, h2, -, h3⟩ | ⟨n, h1, -, h3⟩
    · exact ⟨q', h3, .inl h2, .inl h1⟩
    · refine ⟨_, h3, .inr ⟨?_, ?_⟩, .inr ?_⟩
      · simp only [stepV]; omega
      · simp only [stepV]; omega
      · by_cases g : p.a.h + hopN e ≤ q'.a.h
        · left
          rw [Nat.min_eq_left g, h2]
          rfl
        · right
          refine ⟨q', h1, ?_⟩
          rw [Nat.min_eq_right (by omega)]
    · exact ⟨_, h3, leV_refl _, .inr (.inl rfl)⟩
  refine ⟨⟨hroot, ?_, ?_, h.nodup, ?_, ?_, ?_, ?_, ?_, ?_⟩, hu', hdone⟩
  · intro v q hq
    by_cases hvd : v = e.dst
    · rw [hvd]; exact hdm
    · rw [hoth v hvd] at hq; exact h.may v q hq
  · intro v hv
    rw [hdone v hv]
    exact h.had v hv
  · intro x hx
    rcases List.mem_append.1 hx with hx | hx
    · exact h.edges x hx
    · rw [List.mem_singleton] at hx
      rw [hx]
      exact ⟨he, hc, huO⟩
  · intro x hx px hpx
    rcases List.mem_append.1 hx with hx | hx
    · rw [hsrc x hx] at hpx
      obtain ⟨q, hq, hl⟩ := h.closed x hx px hpx
      obtain ⟨q', hq', hl'⟩ := hle _ q hq
      exact ⟨q', hq', leV_trans hl' hl⟩
    · rw [List.mem_singleton] at hx
      subst hx
      rw [hu'] at hpx
      cases hpx
      obtain ⟨q', hq', hl, -⟩ := hnew
      exact ⟨q', hq', hl⟩
  · intro v q hq hvr
    by_cases hvd : v = e.dst
    · subst hvd
      obtain ⟨q', hq', -, hor⟩ := hnew
      rw [hq] at hq'
      cases hq'
      have old : ∀ q0, T e.dst = some q0 → q.a = q0.a → ∃ x ∈ Z ++ [e], x.dst = e.dst ∧ ∃ p, T' x.src = some p ∧ q.a = stepV p.a x := by
        intro q0 h0 hqa
        obtain ⟨x, hx, hd, px, hpx, hxa⟩ := h.tight _ q0 h0 hvr
        exact ⟨x, List.mem_append_left _ hx, hd, px, by rw [hsrc x hx]; exact hpx, by rw [hqa, hxa]⟩
      rcases hor with h1 | h1 | ⟨q0, h1, h2⟩
      · exact old q h1 rfl
      · exact ⟨e, by simp, rfl, p, hu', h1⟩
      · exact old q0 h1 h2
    · rw [hoth v hvd] at hq
      obtain ⟨x, hx, hd, px, hpx, hxa⟩ := h.tight v q hq hvr
      exact ⟨x, List.mem_append_left _ hx, hd, px, by rw [hsrc x hx]; exact hpx, hxa⟩
  · intro v q hq hvr
    by_cases hvd : v = e.dst
    · subst hvd
      have split : ∀ (c : Nat) (h : Hp), (∃ x ∈ Z ++ [e], x.dst = e.dst ∧ ∃ p, T' x.src = some p ∧ c = p.a.c + x.cost.toNat ∧ h ∈ extH r x p.next) ↔ (∃ x ∈ Z, x.dst = e.dst ∧ ∃ p, T x.src = some p ∧ c = p.a.c + x.cost.toNat ∧ h ∈ extH r x p.next) ∨ (c = p.a.c + e.cost.toNat ∧ h ∈ extH r e p.next) := by
        intro c h
        constructor
        · rintro ⟨x, hx, hd, px, hpx, h1, h2⟩
          rcases List.mem_append.1 hx with hx | hx
          · exact .inl ⟨x, hx, hd, px, by rw [← hsrc x hx]; exact hpx, h1, h2⟩
          · rw [List.mem_singleton] at hx
            subst hx
            rw [hu'] at hpx
            cases hpx
            exact .inr ⟨h1, h2⟩
        · rintro (⟨x, hx, hd, px, hpx, h1, h2⟩ | ⟨h1, h2⟩)
          · exact ⟨x, List.mem_append_left _ hx, hd, px, by rw [hsrc x hx]; exact hpx, h1, h2⟩
          · exact ⟨e, by simp, rfl, p, hu', h1, h2⟩
      rcases hcase with ⟨q', h1, h2, h3⟩ | ⟨q', n, h1, h2, hj, h3⟩ | ⟨n, h1, hj, h3⟩
      · rw [h3] at hq
        cases hq
        obtain ⟨g1, g2⟩ := h.next _ q h1 hvr
        refine ⟨g1, fun hh => ?_⟩
        rw [split, g2]
        constructor
        · exact .inl
        · rintro (g | ⟨g, -⟩)
          · exact g
          · omega
      · rw [h3] at hq
        cases hq
        obtain ⟨g1, g2⟩ := h.next _ q' h1 hvr
        refine ⟨hj.sorted, fun hh => ?_⟩
        simp only
        rw [split, hj.mem, g2]
        constructor
        · rintro (g | g)
          · exact .inl g
          · exact .inr ⟨h2, g⟩
        · rintro (g | ⟨-, g⟩)
          · exact .inl g
          · exact .inr g
      · rw [h3] at hq
        cases hq
        refine ⟨hj.sorted, fun hh => ?_⟩
        simp only [stepV]
        rw [split, hj.mem]
        constructor
        · rintro (g | g)
          · cases g
          · exact .inr ⟨rfl, g⟩
        · rintro (⟨x, hx, hd, px, hpx, hxc, -⟩ | ⟨-, g⟩)
          · exfalso
            obtain ⟨q0, hq0, hl⟩ := h.closed x hx px hpx
            rw [hd] at hq0
            have := h1 q0 hq0
            unfold leV stepV at hl
            simp only at hl
            omega
          · exact .inr g
    · rw [hoth v hvd] at hq
      obtain ⟨g1, g2⟩ := h.next v q hq hvr
      refine ⟨g1, fun hh => ?_⟩
      rw [g2]
      constructor
      · rintro ⟨x, hx, hd, px, hpx, k1, k2⟩
        exact ⟨x, List.mem_append_left _ hx, hd, px, by rw [hsrc x hx]; exact hpx, k1, k2⟩
      · rintro ⟨x, hx, hd, px, hpx, k1, k2⟩
        rcases List.mem_append.1 hx with hx | hx
        · exact ⟨x, hx, hd, px, by rw [← hsrc x hx]; exact hpx, k1, k2⟩
        · rw [List.mem_singleton] at hx
          rw [hx] at hd
          exact absurd hd.symm hvd
  · intro x px v q hx hpx hv hq
    rw [hdone x hx] at hpx
    by_cases hvd : v = e.dst
    · subst hvd
      obtain ⟨q', hq', -, hor⟩ := hnew
      rw [hq] at hq'
      cases hq'
      rcases hor with h1 | h1 | ⟨q0, h1, h2⟩
      · exact h.order x px _ q hx hpx hv h1
      · have h2 := hlast x px hx hpx
        rw [h1]
        omega
      · have := h.order x px _ q0 hx hpx hv h1
        rw [h2]
        exact this
    · rw [hoth v hvd] at hq
      exact h.order x px v q hx hpx hv hq
  · intro v q hq
    by_cases hvd : v = e.dst
    · subst hvd
      obtain ⟨q', hq', -, hor⟩ := hnew
      rw [hq] at hq'
      cases hq'
      rcases hor with h1 | h1 | ⟨q0, h1, h2⟩
      · exact h.small _ q h1
      · rw [h1]
        unfold stepV
        simp only
        omega
      · have := h.small _ q0 h1
        rw [h2]
        exact this
    · rw [hoth v hvd] at hq
      exact h.small v q hq
/-- all is done -/
theorem Dij.ends (h : Dij E r O Z T) (hall : ∀ v p, T v = some p → v ∈ O) (hZ : ∀ e ∈ E, cntE e = true → e.src ∈ O → e ∈ Z) : IsDist E r (fun v => (T v).map (·.a)) ∧ IsNext E r (fun v => (T v).map (·.a)) (fun v => ((T v).map (·.next)).getD []) := by
  refine ⟨⟨by simp only [h.root]; rfl, ?_, ?_⟩, ⟨by simp only [h.root]; rfl, ?_⟩⟩
  · intro e he hc a ha
    obtain ⟨p, hp, rfl⟩ := Option.map_eq_some_iff.1 ha
    obtain ⟨q, hq, hl⟩ := h.closed e (hZ e he hc (hall _ p hp)) p hp
    exact ⟨q.a, by simp only [hq]; rfl, hl⟩
  · intro v a ha
    obtain ⟨q, hq, rfl⟩ := Option.map_eq_some_iff.1 ha
    by_cases hvr : v = r
    · exact .inl hvr
    · obtain ⟨e, he, hd, p, hp, hqa⟩ := h.tight v q hq hvr
      exact .inr ⟨e, (h.edges e he).1, (h.edges e he).2.1, hd, p.a, by simp only [hp]; rfl, hqa⟩
  · intro v a ha hvr hh
    obtain ⟨q, hq, rfl⟩ := Option.map_eq_some_iff.1 ha
    simp only [hq, Option.map_some, Option.getD_some]
    rw [(h.next v q hq hvr).2]
    constructor
    · rintro ⟨e, he, hd, p, hp, h1, h2⟩
      exact ⟨e, (h.edges e he).1, (h.edges e he).2.1, hd, p.a, by simp only [hp]; rfl, h1, by simp only [hp, Option.map_some, Option.getD_some]; exact h2⟩
    · rintro ⟨e, he, hc, hd, b, hb, h1, h2⟩
      obtain ⟨p, hp, rfl⟩ := Option.map_eq_some_iff.1 hb
      simp only [hp, Option.map_some, Option.getD_some] at h2
      exact ⟨e, hZ e he hc (hall _ p hp), hd, p, hp, h1, h2⟩
end

end Go.Proofs.YtpnbibokddhheaaGreat

/-
  Layer 21 in plain words: the nodes of a tree, and what holds of them.
-/
namespace Go.Proofs.YtpnbibokddhheaaGreat

theorem ltH_irr (a : Hp) : ¬ ltH a a := by unfold ltH; omega
theorem ltH_asy (a b : Hp) : ltH a b → ¬ ltH b a := by unfold ltH; omega
theorem ltH_tri (a b : Hp) : ltH a b ∨ a = b ∨ ltH b a := by
  obtain ⟨a1, a2⟩ := a
  obtain ⟨b1, b2⟩ := b
  unfold ltH
  simp only [Hp.mk.injEq]
  omega
theorem ltH_trans {a b c : Hp} (h : ltH a b) (g : ltH b c) : ltH a c := by unfold ltH at *; omega
theorem JoinH.unique {L M N N' : List Hp} (h : JoinH L M N) (h' : JoinH L M N') : N = N' := sorted_ext ltH_irr ltH_asy h.sorted h'.sorted fun e => by rw [h.mem, h'.mem]
def ltX (a b : Vx) : Prop := a.kind < b.kind ∨ (a.kind = b.kind ∧ a.id < b.id)
theorem ltX_irr (a : Vx) : ¬ ltX a a := by unfold ltX; omega
theorem ltX_asy (a b : Vx) : ltX a b → ¬ ltX b a := by unfold ltX; omega

/-- a node in plain words -/
structure Nk where
  v : Vx
  a : Val2
  next : List Hp
/-- the least values from every vertex -/
def Dists (E : List Ed) (DD : Vx → Vx → Option Val2) : Prop := ∀ r, IsDist E r (DD r)
theorem dists_are (E : List Ed) : ∃ DD, Dists E DD := by
  obtain ⟨f, hf⟩ := Classical.axiomOfChoice (fun r => dist_is E r)
  exact ⟨f, hf⟩
theorem dists_unique {E E' : List Ed} {DD DD' : Vx → Vx → Option Val2} (h : Dists E DD) (h' : Dists E' DD') (hE : ∀ e, cntE e = true → (e ∈ E ↔ e ∈ E')) : DD = DD' := by
  funext r
  exact (h r).unique (h' r) hE
/-- the tree of a root -/
structure TreeIs (E : List Ed) (DD : Vx → Vx → Option Val2) (r : Vx) (L : List Nk) : Prop where
  sorted : L.Pairwise fun x y => ltX x.v y.v
  has : ∀ v a, DD r v = some a → ∃ n ∈ L, n.v = v
  val : ∀ n ∈ L, DD r n.v = some n.a
  next : ∀ n ∈ L, n.next.Pairwise ltH ∧ ∀ h, h ∈ n.next ↔ isHop E DD r n.v h
theorem isHop_congr {E E' : List Ed} (hE : ∀ e, cntE e = true → (e ∈ E ↔ e ∈ E')) (DD : Vx → Vx → Option Val2) (r v : Vx) (h : Hp) : isHop E DD r v h → isHop E' DD r v h := by
  rintro ⟨e, he, hc, hs, a, ha, hh⟩
  refine ⟨e, (hE e hc).1 he, hc, hs, a, ha, ?_⟩
  rcases hh with g | ⟨f, hf, hfc, g⟩
  · exact .inl g
  · exact .inr ⟨f, (hE f hfc).1 hf, hfc, g⟩
theorem pairwise_map_key {L : List Nk} (h : L.Pairwise fun x y => ltX x.v y.v) : (L.map (·.v)).Pairwise ltX := by
  rw [List.pairwise_map]
  exact h
theorem tree_unique {E E' : List Ed} {DD DD' : Vx → Vx → Option Val2} {r : Vx} {L L' : List Nk} (hD : Dists E DD) (hD' : Dists E' DD') (h : TreeIs E DD r L) (h' : TreeIs E' DD' r L') (hE : ∀ e, cntE e = true → (e ∈ E ↔ e ∈ E')) : L = L' := by
  have hDD := dists_unique hD hD' hE
  subst hDD
  have hkeys : L.map (·.v) = L'.map (·.v) := by
    refine sorted_ext ltX_irr ltX_asy (pairwise_map_key h.sorted) (pairwise_map_key h'.sorted) fun v => ?_
    rw [List.mem_map, List.mem_map]
    constructor
    · rintro ⟨n, hn, rfl⟩
      exact h'.has _ _ (h.val n hn)
    · rintro ⟨n, hn, rfl⟩
      exact h.has _ _ (h'.val n hn)
  have hlen : L.length = L'.length := by simpa using congrArg List.length hkeys
  refine List.ext_getElem hlen fun i h1 h2 => ?_
  have hv : L[i].v = L'[i].v := by
    have h3 : (L.map (·.v))[i]'(by rw [List.length_map]; exact h1) = (L'.map (·.v))[i]'(by rw [List.length_map]; exact h2) := by
      congr 1
    simpa using h3
  have m1 := List.getElem_mem h1
  have m2 := List.getElem_mem h2
  have ha : L[i].a = L'[i].a := by
    have g1 := h.val _ m1
    have g2 := h'.val _ m2
    rw [hv, g2] at g1
    exact (Option.some.inj g1).symm
  have hx : L[i].next = L'[i].next := by
    refine sorted_ext ltH_irr ltH_asy (h.next _ m1).1 (h'.next _ m2).1 fun hp => ?_
    rw [(h.next _ m1).2, (h'.next _ m2).2, hv]
    exact ⟨isHop_congr hE _ _ _ _, isHop_congr (fun e hc => (hE e hc).symm) _ _ _ _⟩
  have same : ∀ x y : Nk, x.v = y.v → x.a = y.a → x.next = y.next → x = y := by
    rintro ⟨x1, x2, x3⟩ ⟨y1, y2, y3⟩ h1 h2 h3
    simp only at h1 h2 h3
    rw [h1, h2, h3]
  exact same _ _ hv ha hx
section
variable {E : List Ed} {r : Vx} {DD : Vx → Vx → Option Val2}
/-- a first hop goes on -/
theorem isHop_some (hD : Dists E DD) (hr : r.kind = 1) : ∀ v a, DD r v = some a → v = r ∨ ∃ h, isHop E DD r v h := by
  refine (hD r).induct (P := fun v _ => v = r ∨ ∃ h, isHop E DD r v h) (.inl rfl) ?_
  intro e he hc b hb hd hP
  right
  by_cases hs : e.src = r
  · refine ⟨_, e, he, hc, hs, _, hd, .inl ⟨rfl, ?_, rfl⟩⟩
    rw [hs, (hD r).root] at hb
    cases hb
    simp [stepV]
  · rcases hP with g | ⟨h, e1, he1, hc1, hs1, b', hb', hh⟩
    · exact absurd g hs
    rw [hb] at hb'
    cases hb'
    have hs1k : e1.fk = r.kind := by rw [← hs1]; rfl
    obtain ⟨-, -, hk1⟩ := cntE_iff.1 hc1
    obtain ⟨-, -, hk⟩ := cntE_iff.1 hc
    rcases hh with ⟨h1, h2, h3⟩ | ⟨f, hf, hfc, hfs, c, hcc, h2, h3⟩
    · have hk3 : e1.tk = e.fk := congrArg Vx.kind h1
      refine ⟨_, e1, he1, hc1, hs1, _, hd, .inr ⟨e, he, hc, h1.symm, ⟨0, 0⟩, (hD _).root, ?_, rfl⟩⟩
      unfold stepV
      simp only
      omega
    · obtain ⟨d, hd2, hle⟩ := (hD f.dst).closed e he hc c hcc
      obtain ⟨n1, hn1, hle1⟩ := (hD r).closed e1 he1 hc1 ⟨0, 0⟩ (by rw [hs1]; exact (hD r).root)
      obtain ⟨n2, hn2, hle2⟩ := (hD r).closed f hf hfc n1 (by rw [hfs]; exact hn1)
      obtain ⟨x, hx, hle3⟩ := dist_join hD hn2 hd2
      rw [hd] at hx
      cases hx
      refine ⟨_, e1, he1, hc1, hs1, _, hd, .inr ⟨f, hf, hfc, hfs, d, hd2, ?_, rfl⟩⟩
      obtain ⟨-, -, hfk⟩ := cntE_iff.1 hfc
      have hfsk : f.fk = e1.tk := congrArg Vx.kind hfs
      unfold leV stepV at hle hle1 hle2
      unfold stepV at hle3 ⊢
      simp only at hle hle1 hle2 hle3 h2 ⊢
      omega
/-- what a first hop is -/
theorem isHop_steps (hD : Dists E DD) (hr : r.kind = 1) (hm : mayV r = true) {v : Vx} {a : Val2} {h : Hp} (ha : DD r v = some a) (hh : isHop E DD r v h) :
    (h.id = 0 ∧ v.kind = 2 ∧ v.id / 16 = h.lan ∧ a.h = 1) ∨ (h.id ≠ 0 ∧ h.id ≠ r.id ∧ (1 ≤ h.id ∧ h.id ≤ 15) ∧ ∃ b y, DD ⟨1, h.id⟩ v = some b ∧ DD r ⟨1, h.id⟩ = some y ∧ b.c + y.c = a.c ∧ 1 ≤ y.c) := by
  obtain ⟨e, he, hc, hs, a', ha', hh⟩ := hh
  rw [ha] at ha'
  cases ha'
  have hsk : e.fk = r.kind := by rw [← hs]; rfl
  obtain ⟨-, -, hk⟩ := cntE_iff.1 hc
  obtain ⟨n1, hn1, hle1⟩ := (hD r).closed e he hc ⟨0, 0⟩ (by rw [hs]; exact (hD r).root)
  rcases hh with ⟨h1, h2, h3⟩ | ⟨f, hf, hfc, hfs, b, hb, h2, h3⟩
  · left
    subst h1
    rw [ha] at hn1
    cases hn1
    have hp := (hD r).pos hr _ _ ha
    rw [h3]
    refine ⟨rfl, ?_, rfl, ?_⟩
    · show e.tk = 2
      omega
    · unfold leV stepV hopN at hle1
      have htk : e.tk = 2 := by omega
      rw [if_pos htk] at hle1
      simp only at hle1
      rcases hp with ⟨-, hp⟩ | ⟨-, hp⟩
      · rw [hp] at h2
        simp only at h2
        omega
      · omega
  · right
    obtain ⟨-, hfm, hfk⟩ := cntE_iff.1 hfc
    have hfsk : f.fk = e.tk := congrArg Vx.kind hfs
    have hft : f.tk = 1 := by omega
    have hfd : f.dst = ⟨1, f.ti⟩ := by unfold Ed.dst; rw [hft]
    have hfi : 1 ≤ f.ti ∧ f.ti ≤ 15 := by
      rcases mayV_iff.1 hfm with ⟨-, q1, q2⟩ | ⟨q0, -, -⟩
      · rw [hfd] at q1 q2; exact ⟨q1, q2⟩
      · rw [hfd] at q0; simp only at q0; omega
    obtain ⟨n2, hn2, hle2⟩ := (hD r).closed f hf hfc n1 (by rw [hfs]; exact hn1)
    obtain ⟨x, hx, hle3⟩ := dist_join hD hn2 hb
    rw [ha] at hx
    cases hx
    rw [h3]
    unfold leV stepV at hle1 hle2
    simp only at hle1 hle2 h2 ⊢
    have hne : f.dst ≠ r := by
      intro e'
      rw [e', ha] at hb
      cases hb
      omega
    refine ⟨by omega, fun e' => hne ?_, hfi, b, n2, by rw [← hfd]; exact hb, by rw [← hfd]; exact hn2, by omega, ?_⟩
    · rw [hfd, e']
      cases r
      simp only at hr
      rw [hr]
    · rcases (hD r).pos hr _ _ hn2 with ⟨g, -⟩ | ⟨-, g, -⟩
      · exact absurd g hne
      · exact g
end

end Go.Proofs.YtpnbibokddhheaaGreat

/-
  A row in order, each once: plain words.
-/
namespace Go.Proofs.YtpnbibokddhheaaGreat

/-- the first n of a row, but those that are like the one ahead -/
def cptN {α : Type} [DecidableEq α] (L : List α) : Nat → List α
  | 0 => []
  | 1 => L.take 1
  | n + 2 => if L[n + 1]? = L[n]? then cptN L (n + 1) else cptN L (n + 1) ++ (L[n + 1]?).toList
def cptL {α : Type} [DecidableEq α] (L : List α) : List α := cptN L L.length
section
variable {α : Type} [DecidableEq α] {L : List α}
theorem cptN_len : ∀ n, (cptN L n).length ≤ n
  | 0 => Nat.le_refl _
  | 1 => by show (L.take 1).length ≤ 1; rw [List.length_take]; omega
  | n + 2 => by
    have ih := cptN_len (n + 1)
    unfold cptN
    split
    · omega
    · rw [List.length_append]
      have : (L[n + 1]?).toList.length ≤ 1 := by cases L[n + 1]? <;> simp
      omega
theorem cptN_pos (h0 : 0 < L.length) : ∀ n, 0 < n → 0 < (cptN L n).length
  | 0, h => absurd h (by omega)
  | 1, _ => by show 0 < (L.take 1).length; rw [List.length_take]; omega
  | n + 2, _ => by
    have ih := cptN_pos h0 (n + 1) (by omega)
    unfold cptN
    split
    · exact ih
    · rw [List.length_append]; omega
theorem cptN_same {n : Nat} (h : n + 1 < L.length) (e : L[n + 1] = L[n]) : cptN L (n + 2) = cptN L (n + 1) := by
  conv => lhs; unfold cptN
  rw [if_pos (by rw [List.getElem?_eq_getElem h, List.getElem?_eq_getElem (by omega), e])]
theorem cptN_new {n : Nat} (h : n + 1 < L.length) (e : L[n + 1] ≠ L[n]) : cptN L (n + 2) = cptN L (n + 1) ++ [L[n + 1]] := by
  conv => lhs; unfold cptN
  rw [if_neg (by rw [List.getElem?_eq_getElem h, List.getElem?_eq_getElem (by omega)]; intro e'; injection e' with e'; exact e e'), List.getElem?_eq_getElem h]
  rfl
theorem cptN_take : ∀ n, n ≤ L.length → (∀ i (h : i + 1 < n) (hn : n ≤ L.length), L[i + 1]'(by omega) ≠ L[i]'(by omega)) → cptN L n = L.take n
  | 0, _, _ => rfl
  | 1, _, _ => rfl
  | n + 2, hn, h => by
    rw [cptN_new (by omega) (h n (by omega) hn), cptN_take (n + 1) (by omega) (fun i hi _ => h i (by omega) hn)]
    exact (List.take_succ_eq_append_getElem (by omega)).symm
/-- the last of them is the last one -/
theorem cptN_last : ∀ n (hn : n < L.length), (cptN L (n + 1)).getLast? = some L[n]
  | 0, hn => by
    show (L.take 1).getLast? = _
    cases L with
    | nil => simp at hn
    | cons a l => simp
  | n + 1, hn => by
    by_cases e : L[n + 1] = L[n]
    · rw [cptN_same hn e, cptN_last n (by omega), e]
    · rw [cptN_new hn e]; simp
theorem cptN_mem : ∀ n, n ≤ L.length → ∀ x, x ∈ cptN L n ↔ x ∈ L.take n
  | 0, _, x => by simp [cptN]
  | 1, _, x => by simp [cptN]
  | n + 2, hn, x => by
    have ih := cptN_mem (n + 1) (by omega) x
    rw [List.take_succ_eq_append_getElem (by omega : n + 1 < L.length), List.mem_append, List.mem_singleton, ← ih]
    by_cases e : L[n + 1] = L[n]
    · rw [cptN_same (by omega) e]
      constructor
      · exact .inl
      · rintro (h | h)
        · exact h
        · rw [h, e]
          exact List.mem_of_getLast? (cptN_last n (by omega))
    · rw [cptN_new (by omega) e, List.mem_append, List.mem_singleton]
/-- of a row in order: each once -/
theorem cptN_sorted {R : α → α → Prop} (tri : ∀ a b, R a b ∨ a = b ∨ R b a) (tr : ∀ a b c, R a b → R b c → R a c) (hs : L.Pairwise fun a b => ¬ R b a) : ∀ n, n ≤ L.length → (cptN L n).Pairwise R
  | 0, _ => List.Pairwise.nil
  | 1, _ => by
    show (L.take 1).Pairwise R
    cases L <;> simp
  | n + 2, hn => by
    have ih := cptN_sorted tri tr hs (n + 1) (by omega)
    by_cases e : L[n + 1] = L[n]
    · rw [cptN_same (by omega) e]; exact ih
    · rw [cptN_new (by omega) e]
      have hlt : R L[n] L[n + 1] := by
        rcases tri L[n] L[n + 1] with g | g | g
        · exact g
        · exact absurd g.symm e
        · exact absurd g (List.pairwise_iff_getElem.1 hs n (n + 1) (by omega) (by omega) (by omega))
      refine List.pairwise_append.2 ⟨ih, List.pairwise_singleton _ _, fun a ha b hb => ?_⟩
      rw [List.mem_singleton] at hb
      subst hb
      have hm := (cptN_mem (n + 1) (by omega) a).1 ha
      rw [List.mem_take_iff_getElem] at hm
      obtain ⟨i, hi, rfl⟩ := hm
      by_cases hin : i = n
      · subst hin; exact hlt
      · have h1 := List.pairwise_iff_getElem.1 hs i n (by omega) (by omega) (by omega)
        rcases tri L[i] L[n] with g | g | g
        · exact tr _ _ _ g hlt
        · rw [g]; exact hlt
        · exact absurd g h1
theorem cptL_mem (x : α) : x ∈ cptL L ↔ x ∈ L := by
  unfold cptL
  rw [cptN_mem _ (Nat.le_refl _), List.take_length]
end

end Go.Proofs.YtpnbibokddhheaaGreat

/-
  Layer 21 in plain words: a hop into hops in order; a row in order, each once.
-/
namespace Go.Proofs.YtpnbibokddhheaaGreat

/-- one more, where it belongs -/
def insHp (h : Hp) : List Hp → List Hp
  | [] => [h]
  | a :: l => if h.lan < a.lan ∨ (h.lan = a.lan ∧ h.id < a.id) then h :: a :: l else a :: insHp h l
def addHp (h : Hp) (L : List Hp) : List Hp := if h ∈ L then L else insHp h L
theorem mem_ins {h x : Hp} : ∀ {L : List Hp}, x ∈ insHp h L ↔ x = h ∨ x ∈ L
  | [] => by simp [insHp]
  | a :: l => by
    unfold insHp
    split
    · simp
    · rw [List.mem_cons, mem_ins (L := l), List.mem_cons]
      constructor
      · rintro (h | h | h)
        · exact .inr (.inl h)
        · exact .inl h
        · exact .inr (.inr h)
      · rintro (h | h | h)
        · exact .inr (.inl h)
        · exact .inl h
        · exact .inr (.inr h)
theorem ins_sorted {h : Hp} : ∀ {L : List Hp}, L.Pairwise ltH → h ∉ L → (insHp h L).Pairwise ltH
  | [], _, _ => List.pairwise_singleton _ _
  | a :: l, hs, hn => by
    obtain ⟨h1, h2⟩ := List.pairwise_cons.1 hs
    unfold insHp
    split
    · rename_i hlt
      refine List.pairwise_cons.2 ⟨fun x hx => ?_, hs⟩
      rcases List.mem_cons.1 hx with rfl | hx
      · exact hlt
      · exact ltH_trans hlt (h1 x hx)
    · rename_i hlt
      refine List.pairwise_cons.2 ⟨fun x hx => ?_, ins_sorted h2 (fun hm => hn (List.mem_cons_of_mem _ hm))⟩
      rcases mem_ins.1 hx with rfl | hx
      · rcases ltH_tri a x with g | g | g
        · exact g
        · exact absurd (g ▸ List.mem_cons_self) hn
        · exact absurd g hlt
      · exact h1 x hx
theorem mem_add {h x : Hp} {L : List Hp} : x ∈ addHp h L ↔ x = h ∨ x ∈ L := by
  unfold addHp
  split
  · rename_i hm
    constructor
    · exact .inr
    · rintro (rfl | h)
      · exact hm
      · exact h
  · exact mem_ins
theorem add_sorted {h : Hp} {L : List Hp} (hs : L.Pairwise ltH) : (addHp h L).Pairwise ltH := by
  unfold addHp
  split
  · exact hs
  · rename_i hm
    exact ins_sorted hs hm
theorem ins_len (h : Hp) : ∀ L : List Hp, (insHp h L).length = L.length + 1
  | [] => rfl
  | a :: l => by
    unfold insHp
    split
    · simp
    · rw [List.length_cons, ins_len h l, List.length_cons]
theorem ins_none {h : Hp} : ∀ {L : List Hp}, (∀ p ∈ L, ¬ ltH h p) → insHp h L = L ++ [h]
  | [], _ => rfl
  | a :: l, hn => by
    unfold insHp
    rw [if_neg (show ¬ (h.lan < a.lan ∨ (h.lan = a.lan ∧ h.id < a.id)) from hn a List.mem_cons_self), ins_none (fun p hp => hn p (List.mem_cons_of_mem _ hp))]
    rfl
theorem ins_app {h : Hp} {M : List Hp} : ∀ {L : List Hp}, (∀ p ∈ L, ¬ ltH h p) → insHp h (L ++ M) = L ++ insHp h M
  | [], _ => rfl
  | a :: l, hn => by
    rw [List.cons_append]
    conv => lhs; unfold insHp
    rw [if_neg (show ¬ (h.lan < a.lan ∨ (h.lan = a.lan ∧ h.id < a.id)) from hn a List.mem_cons_self), ins_app (fun p hp => hn p (List.mem_cons_of_mem _ hp))]
    rfl
theorem ins_done {h : Hp} {M : List Hp} : ∀ {L : List Hp}, (∃ p ∈ L, ltH h p) → insHp h (L ++ M) = insHp h L ++ M
  | [], hn => by obtain ⟨p, hp, -⟩ := hn; cases hp
  | a :: l, hn => by
    rw [List.cons_append]
    unfold insHp
    by_cases ha : h.lan < a.lan ∨ (h.lan = a.lan ∧ h.id < a.id)
    · rw [if_pos ha, if_pos ha]; rfl
    · rw [if_neg ha, if_neg ha, List.cons_append]
      obtain ⟨p, hp, hl⟩ := hn
      rcases List.mem_cons.1 hp with rfl | hp
      · exact absurd hl ha
      · rw [ins_done ⟨p, hp, hl⟩]

/-- hops of both, sorted, each once -/
theorem join_cpt {A B M : List Hp} (hp : ∀ x, x ∈ M ↔ x ∈ A ∨ x ∈ B) (hs : M.Pairwise fun a b => ¬ ltH b a) : JoinH A B (cptL M) :=
  ⟨cptN_sorted ltH_tri (fun _ _ _ => ltH_trans) hs _ (Nat.le_refl _), fun h => by rw [cptL_mem, hp]⟩

/-- all that might be, in order -/
def ordV : List Vx := (List.range 64).map (fun i : Nat => ⟨1, (i : Int)⟩) ++ (List.range 64).map (fun i : Nat => ⟨2, (i : Int)⟩)
theorem ordV_sorted : ordV.Pairwise ltX := by
  unfold ordV
  have hp : ∀ k : Int, ((List.range 64).map fun i : Nat => (⟨k, (i : Int)⟩ : Vx)).Pairwise ltX := by
    intro k
    rw [List.pairwise_map]
    refine List.pairwise_lt_range.imp ?_
    intro a b h
    right
    exact ⟨rfl, by simp only; omega⟩
  refine List.pairwise_append.2 ⟨hp 1, hp 2, ?_⟩
  intro a ha b hb
  obtain ⟨i, -, rfl⟩ := List.mem_map.1 ha
  obtain ⟨j, -, rfl⟩ := List.mem_map.1 hb
  left
  show (1 : Int) < 2
  decide
theorem ordV_mem {v : Vx} (h : mayV v = true) : v ∈ ordV := by
  obtain ⟨k, i⟩ := v
  unfold ordV
  rw [List.mem_append, List.mem_map, List.mem_map]
  rcases mayV_iff.1 h with ⟨h1, h2, h3⟩ | ⟨h1, h2, h3⟩
  · simp only at h1 h2 h3
    exact .inl ⟨i.toNat, by rw [List.mem_range]; omega, by rw [h1, Int.toNat_of_nonneg (by omega)]⟩
  · simp only at h1 h2 h3
    exact .inr ⟨i.toNat, by rw [List.mem_range]; omega, by rw [h1, Int.toNat_of_nonneg (by omega)]⟩
def nodeO (T : Vx → Option (Val2 × List Hp)) (v : Vx) : List Nk := match T v with
  | some x => [⟨v, x.1, x.2⟩]
  | none => []
def nodesO (T : Vx → Option (Val2 × List Hp)) (L : List Vx) : List Nk := L.flatMap (nodeO T)
theorem mem_nodeO {T : Vx → Option (Val2 × List Hp)} {v : Vx} {n : Nk} : n ∈ nodeO T v ↔ n.v = v ∧ T v = some (n.a, n.next) := by
  unfold nodeO
  cases h : T v with
  | none => simp
  | some x =>
    obtain ⟨a, l⟩ := x
    simp only [List.mem_singleton, Option.some.injEq, Prod.mk.injEq]
    constructor
    · rintro rfl; exact ⟨rfl, rfl, rfl⟩
    · rintro ⟨rfl, rfl, rfl⟩; rfl
theorem mem_nodesO {T : Vx → Option (Val2 × List Hp)} {L : List Vx} {n : Nk} : n ∈ nodesO T L ↔ n.v ∈ L ∧ T n.v = some (n.a, n.next) := by
  unfold nodesO
  rw [List.mem_flatMap]
  constructor
  · rintro ⟨v, hv, hn⟩
    obtain ⟨rfl, h⟩ := mem_nodeO.1 hn
    exact ⟨hv, h⟩
  · rintro ⟨hv, h⟩
    exact ⟨_, hv, mem_nodeO.2 ⟨rfl, h⟩⟩
theorem nodesO_sorted {T : Vx → Option (Val2 × List Hp)} : ∀ {L : List Vx}, L.Pairwise ltX → (nodesO T L).Pairwise fun x y => ltX x.v y.v
  | [], _ => List.Pairwise.nil
  | v :: L, h => by
    obtain ⟨h1, h2⟩ := List.pairwise_cons.1 h
    have ih := nodesO_sorted (T := T) h2
    show (nodeO T v ++ nodesO T L).Pairwise _
    refine List.pairwise_append.2 ⟨?_, ih, fun a ha b hb => ?_⟩
    · unfold nodeO
      cases T v <;> simp
    · obtain ⟨rfl, -⟩ := mem_nodeO.1 ha
      exact h1 _ (mem_nodesO.1 hb).1
/-- what the document lists is the tree -/
theorem tree_of_ord {E : List Ed} {r : Vx} {DD : Vx → Vx → Option Val2} {T : Vx → Option (Val2 × List Hp)} (hD : Dists E DD) (hm : mayV r = true) (h1 : ∀ v, (T v).map (·.1) = DD r v) (h2 : ∀ v a n, T v = some (a, n) → n.Pairwise ltH ∧ ∀ h, h ∈ n ↔ isHop E DD r v h) : TreeIs E DD r (nodesO T ordV) where
  sorted := nodesO_sorted ordV_sorted
  has := fun v a ha => by
    have := (hD r).may hm v a ha
    rw [← h1] at ha
    obtain ⟨x, hx, -⟩ := Option.map_eq_some_iff.1 ha
    exact ⟨⟨v, x.1, x.2⟩, mem_nodesO.2 ⟨ordV_mem this, hx⟩, rfl⟩
  val := fun n hn => by
    rw [← h1, (mem_nodesO.1 hn).2]
    rfl
  next := fun n hn => h2 _ _ _ (mem_nodesO.1 hn).2

end Go.Proofs.YtpnbibokddhheaaGreat

/-
  Layer 22 in plain words: the ends of a network, the cheapest ones; the routes.
-/
namespace Go.Proofs.YtpnbibokddhheaaGreat

structure Rt where
  kind : Int
  id : Int
  cost : Nat
  next : List Hp
abbrev EndV := Nat × List Hp
/-- the cheapest of the ends, and the hops of all that are as cheap -/
structure EndsAt (X : List EndV) (c : Nat) (N : List Hp) : Prop where
  had : ∃ x ∈ X, x.1 = c
  min : ∀ x ∈ X, c ≤ x.1
  sorted : N.Pairwise ltH
  mem : ∀ h, h ∈ N ↔ ∃ x ∈ X, x.1 = c ∧ h ∈ x.2
def EndsO (X : List EndV) : Option EndV → Prop
  | none => X = []
  | some p => EndsAt X p.1 p.2
theorem EndsO.unique {X X' : List EndV} {o o' : Option EndV} (h : EndsO X o) (h' : EndsO X' o') (hX : ∀ x, x ∈ X ↔ x ∈ X') : o = o' := by
  cases o with
  | none =>
    cases o' with
    | none => rfl
    | some p =>
      obtain ⟨x, hx, -⟩ := EndsAt.had h'
      have h0 : X = [] := h
      rw [← hX, h0] at hx
      cases hx
  | some p =>
    cases o' with
    | none =>
      obtain ⟨x, hx, -⟩ := EndsAt.had h
      have h0 : X' = [] := h'
      rw [hX, h0] at hx
      cases hx
    | some q =>
      obtain ⟨c, N⟩ := p
      obtain ⟨d, M⟩ := q
      have h1 : EndsAt X c N := h
      have h2 : EndsAt X' d M := h'
      have hcd : c = d := by
        obtain ⟨x, hx, e⟩ := h1.had
        obtain ⟨y, hy, e'⟩ := h2.had
        have g1 := h1.min y ((hX y).2 hy)
        have g2 := h2.min x ((hX x).1 hx)
        omega
      subst hcd
      have hNM : N = M := sorted_ext ltH_irr ltH_asy h1.sorted h2.sorted fun e => by
        rw [h1.mem, h2.mem]
        constructor
        · rintro ⟨x, hx, g⟩; exact ⟨x, (hX x).1 hx, g⟩
        · rintro ⟨x, hx, g⟩; exact ⟨x, (hX x).2 hx, g⟩
      rw [hNM]
theorem EndsO.first {c : Nat} {n N : List Hp} (hj : JoinH [] n N) : EndsO ([] ++ [((c, n) : EndV)]) (some (c, N)) where
  had := ⟨(c, n), by simp, rfl⟩
  min := fun x hx => by simp at hx; rw [hx]; exact Nat.le_refl _
  sorted := hj.sorted
  mem := fun h => by rw [hj.mem]; simp
theorem EndsO.less {X : List EndV} {c d : Nat} {n N M : List Hp} (h : EndsO X (some (d, M))) (hlt : c < d) (hj : JoinH [] n N) : EndsO (X ++ [(c, n)]) (some (c, N)) where
  had := ⟨(c, n), by simp, rfl⟩
  min := fun x hx => by
    rcases List.mem_append.1 hx with hx | hx
    · have := EndsAt.min h x hx
      simp only at this ⊢
      omega
    · rw [List.mem_singleton] at hx; rw [hx]; exact Nat.le_refl _
  sorted := hj.sorted
  mem := fun x => by
    rw [hj.mem]
    constructor
    · rintro (g | g)
      · cases g
      · exact ⟨(c, n), by simp, rfl, g⟩
    · rintro ⟨y, hy, e, g⟩
      rcases List.mem_append.1 hy with hy | hy
      · have := EndsAt.min h y hy
        simp only at this e
        omega
      · rw [List.mem_singleton] at hy; subst hy; exact .inr g
theorem EndsO.same {X : List EndV} {c : Nat} {n N M : List Hp} (h : EndsO X (some (c, M))) (hj : JoinH M n N) : EndsO (X ++ [(c, n)]) (some (c, N)) where
  had := ⟨(c, n), by simp, rfl⟩
  min := fun x hx => by
    rcases List.mem_append.1 hx with hx | hx
    · exact EndsAt.min h x hx
    · rw [List.mem_singleton] at hx; rw [hx]; exact Nat.le_refl _
  sorted := hj.sorted
  mem := fun x => by
    rw [hj.mem]
    have hm := EndsAt.mem h x
    simp only at hm
    rw [hm]
    constructor
    · rintro (⟨y, hy, g⟩ | g)
      · exact ⟨y, List.mem_append_left _ hy, g⟩
      · exact ⟨(c, n), by simp, rfl, g⟩
    · rintro ⟨y, hy, e, g⟩
      rcases List.mem_append.1 hy with hy | hy
      · exact .inl ⟨y, hy, e, g⟩
      · rw [List.mem_singleton] at hy; subst hy; exact .inr g
theorem EndsO.more {X : List EndV} {c d : Nat} {n M : List Hp} (h : EndsO X (some (d, M))) (hlt : d < c) : EndsO (X ++ [(c, n)]) (some (d, M)) where
  had := by obtain ⟨x, hx, e⟩ := EndsAt.had h; exact ⟨x, List.mem_append_left _ hx, e⟩
  min := fun x hx => by
    rcases List.mem_append.1 hx with hx | hx
    · exact EndsAt.min h x hx
    · rw [List.mem_singleton] at hx; subst hx; simp only; omega
  sorted := EndsAt.sorted h
  mem := fun x => by
    have hm := EndsAt.mem h x
    rw [hm]
    simp only
    constructor
    · rintro ⟨y, hy, g⟩; exact ⟨y, List.mem_append_left _ hy, g⟩
    · rintro ⟨y, hy, e, g⟩
      rcases List.mem_append.1 hy with hy | hy
      · exact ⟨y, hy, e, g⟩
      · rw [List.mem_singleton] at hy; subst hy; simp only at e; omega

def nodeEnd (lan : Int) (n : Nk) : List EndV := if n.v.kind = 2 ∧ n.v.id / 16 = lan then [(n.a.c, n.next)] else []
def nodeEnds (lan : Int) (nodes : List Nk) : List EndV := nodes.flatMap (nodeEnd lan)
def leafEnd (self lan : Int) (f : Lf) (n : Nk) : List EndV := if f.lan = lan ∧ n.v = ⟨1, f.router⟩ then [(n.a.c + f.cost.toNat, if f.router = self then [⟨lan, 0⟩] else n.next)] else []
def leafEnds (self lan : Int) (nodes : List Nk) (leaves : List Lf) : List EndV := leaves.flatMap fun f => nodes.flatMap (leafEnd self lan f)
def endsV (self lan : Int) (nodes : List Nk) (leaves : List Lf) : List EndV := nodeEnds lan nodes ++ leafEnds self lan nodes leaves
theorem mem_nodeEnds {lan : Int} {nodes : List Nk} {x : EndV} : x ∈ nodeEnds lan nodes ↔ ∃ n ∈ nodes, n.v.kind = 2 ∧ n.v.id / 16 = lan ∧ x = (n.a.c, n.next) := by
  unfold nodeEnds nodeEnd
  rw [List.mem_flatMap]
  constructor
  · rintro ⟨n, hn, h⟩
    split at h
    · rename_i hc
      rw [List.mem_singleton] at h
      exact ⟨n, hn, hc.1, hc.2, h⟩
    · cases h
  · rintro ⟨n, hn, h1, h2, h3⟩
    refine ⟨n, hn, ?_⟩
    rw [if_pos ⟨h1, h2⟩, List.mem_singleton]
    exact h3
theorem mem_leafEnds {self lan : Int} {nodes : List Nk} {leaves : List Lf} {x : EndV} : x ∈ leafEnds self lan nodes leaves ↔ ∃ f ∈ leaves, ∃ n ∈ nodes, f.lan = lan ∧ n.v = ⟨1, f.router⟩ ∧ x = (n.a.c + f.cost.toNat, if f.router = self then [⟨lan, 0⟩] else n.next) := by
  unfold leafEnds leafEnd
  rw [List.mem_flatMap]
  constructor
  · rintro ⟨f, hf, h⟩
    obtain ⟨n, hn, h⟩ := List.mem_flatMap.1 h
    split at h
    · rename_i hc
      rw [List.mem_singleton] at h
      exact ⟨f, hf, n, hn, hc.1, hc.2, h⟩
    · cases h
  · rintro ⟨f, hf, n, hn, h1, h2, h3⟩
    refine ⟨f, hf, List.mem_flatMap.2 ⟨n, hn, ?_⟩⟩
    rw [if_pos ⟨h1, h2⟩, List.mem_singleton]
    exact h3
theorem mem_endsV {self lan : Int} {nodes : List Nk} {leaves : List Lf} {x : EndV} : x ∈ endsV self lan nodes leaves ↔ (∃ n ∈ nodes, n.v.kind = 2 ∧ n.v.id / 16 = lan ∧ x = (n.a.c, n.next)) ∨ (∃ f ∈ leaves, ∃ n ∈ nodes, f.lan = lan ∧ n.v = ⟨1, f.router⟩ ∧ x = (n.a.c + f.cost.toNat, if f.router = self then [⟨lan, 0⟩] else n.next)) := by
  unfold endsV
  rw [List.mem_append, mem_nodeEnds, mem_leafEnds]
def rtOf (self : Int) (n : Nk) : List Rt := if n.v.kind = 1 ∧ n.v.id ≠ self then [⟨1, n.v.id, n.a.c, n.next⟩] else []
def rtsOf (self : Int) (nodes : List Nk) : List Rt := nodes.flatMap (rtOf self)
def netOf (o : Int → Option EndV) (lan : Int) : List Rt := match o lan with
  | some p => [⟨2, lan, p.1, p.2⟩]
  | none => []
def netsOf (o : Int → Option EndV) (X : List Int) : List Rt := X.flatMap (netOf o)
/-- a router's routes by its tree -/
def RoutesAre (self : Int) (nodes : List Nk) (leaves : List Lf) (L : List Rt) : Prop :=
  ∃ o : Int → Option EndV, (∀ lan, 0 ≤ lan → lan ≤ 3 → EndsO (endsV self lan nodes leaves) (o lan)) ∧ L = rtsOf self nodes ++ netsOf o [0, 1, 2, 3]
theorem routes_unique {self : Int} {nodes : List Nk} {leaves : List Lf} {L L' : List Rt} (h : RoutesAre self nodes leaves L) (h' : RoutesAre self nodes leaves L') : L = L' := by
  obtain ⟨o, ho, rfl⟩ := h
  obtain ⟨o', ho', rfl⟩ := h'
  have e : ∀ lan, 0 ≤ lan → lan ≤ 3 → o lan = o' lan := fun lan h1 h2 => (ho lan h1 h2).unique (ho' lan h1 h2) fun _ => Iff.rfl
  simp only [netsOf, List.flatMap_cons, List.flatMap_nil, netOf, e 0 (by decide) (by decide), e 1 (by decide) (by decide), e 2 (by decide) (by decide), e 3 (by decide) (by decide)]
theorem mem_rts {self : Int} {nodes : List Nk} {x : Rt} : x ∈ rtsOf self nodes ↔ ∃ n ∈ nodes, n.v.kind = 1 ∧ n.v.id ≠ self ∧ x = ⟨1, n.v.id, n.a.c, n.next⟩ := by
  unfold rtsOf rtOf
  rw [List.mem_flatMap]
  constructor
  · rintro ⟨n, hn, h⟩
    split at h
    · rename_i hc
      rw [List.mem_singleton] at h
      exact ⟨n, hn, hc.1, hc.2, h⟩
    · cases h
  · rintro ⟨n, hn, h1, h2, h3⟩
    refine ⟨n, hn, ?_⟩
    rw [if_pos ⟨h1, h2⟩, List.mem_singleton]
    exact h3
theorem mem_nets {o : Int → Option EndV} {X : List Int} {x : Rt} : x ∈ netsOf o X ↔ ∃ lan ∈ X, ∃ p, o lan = some p ∧ x = ⟨2, lan, p.1, p.2⟩ := by
  unfold netsOf netOf
  rw [List.mem_flatMap]
  constructor
  · rintro ⟨lan, hl, h⟩
    split at h
    · rename_i p hp
      rw [List.mem_singleton] at h
      exact ⟨lan, hl, p, hp, h⟩
    · cases h
  · rintro ⟨lan, hl, p, hp, h⟩
    refine ⟨lan, hl, ?_⟩
    rw [hp]
    simpa using h
theorem RoutesAre.router {self : Int} {nodes : List Nk} {leaves : List Lf} {L : List Rt} (h : RoutesAre self nodes leaves L) {x : Rt} (h1 : x.kind = 1) : x ∈ L ↔ ∃ n ∈ nodes, n.v = ⟨1, x.id⟩ ∧ x.id ≠ self ∧ x.cost = n.a.c ∧ x.next = n.next := by
  obtain ⟨o, ho, rfl⟩ := h
  rw [List.mem_append, mem_rts, mem_nets]
  obtain ⟨k, i, c, N⟩ := x
  simp only at h1
  subst h1
  constructor
  · rintro (⟨n, hn, g1, g2, g3⟩ | ⟨lan, -, p, -, g⟩)
    · injection g3 with e1 e2 e3 e4
      subst e2 e3 e4
      refine ⟨n, hn, ?_, g2, rfl, rfl⟩
      obtain ⟨⟨a, b⟩, _, _⟩ := n
      simp only at g1
      rw [g1]
    · injection g with e1 e2 e3 e4
      exact absurd e1 (by decide)
  · rintro ⟨n, hn, g1, g2, g3, g4⟩
    left
    simp only at g1 g2 g3 g4
    refine ⟨n, hn, by rw [g1], by rw [g1]; exact g2, ?_⟩
    rw [g1, g3, g4]
theorem RoutesAre.net {self : Int} {nodes : List Nk} {leaves : List Lf} {L : List Rt} (h : RoutesAre self nodes leaves L) {x : Rt} (h1 : x.kind = 2) : x ∈ L ↔ (0 ≤ x.id ∧ x.id ≤ 3) ∧ EndsAt (endsV self x.id nodes leaves) x.cost x.next := by
  obtain ⟨o, ho, rfl⟩ := h
  rw [List.mem_append, mem_rts, mem_nets]
  obtain ⟨k, i, c, N⟩ := x
  simp only at h1
  subst h1
  constructor
  · rintro (⟨n, hn, g1, g2, g3⟩ | ⟨lan, hl, p, hp, g⟩)
    · injection g3 with e1 e2 e3 e4
      exact absurd e1 (by decide)
    · injection g with e1 e2 e3 e4
      subst e2 e3 e4
      have hr : 0 ≤ i ∧ i ≤ 3 := by simp at hl; omega
      refine ⟨hr, ?_⟩
      have := ho i hr.1 hr.2
      rw [hp] at this
      exact this
  · rintro ⟨hr, g⟩
    right
    have h2 := ho i hr.1 hr.2
    simp only at hr
    refine ⟨i, by simp; omega, (c, N), ?_, rfl⟩
    exact h2.unique (o' := some (c, N)) g fun _ => Iff.rfl
/-- each is a router's or a network's -/
theorem RoutesAre.kinds {self : Int} {nodes : List Nk} {leaves : List Lf} {L : List Rt} (h : RoutesAre self nodes leaves L) : ∀ x ∈ L, x.kind = 1 ∨ x.kind = 2 := by
  obtain ⟨o, ho, rfl⟩ := h
  intro x hx
  rw [List.mem_append, mem_rts, mem_nets] at hx
  rcases hx with ⟨n, hn, g1, g2, rfl⟩ | ⟨lan, hl, p, hp, rfl⟩
  · exact .inl rfl
  · exact .inr rfl
def ltR (a b : Rt) : Prop := a.kind < b.kind ∨ (a.kind = b.kind ∧ a.id < b.id)
theorem RoutesAre.sorted {self : Int} {nodes : List Nk} {leaves : List Lf} {L : List Rt} (h : RoutesAre self nodes leaves L) (hs : nodes.Pairwise fun x y => ltX x.v y.v) : L.Pairwise ltR := by
  obtain ⟨o, ho, rfl⟩ := h
  refine List.pairwise_append.2 ⟨?_, ?_, ?_⟩
  · clear ho
    unfold rtsOf
    induction nodes with
    | nil => exact List.Pairwise.nil
    | cons n l ih =>
      obtain ⟨h1, h2⟩ := List.pairwise_cons.1 hs
      rw [List.flatMap_cons]
      refine List.pairwise_append.2 ⟨?_, ih h2, ?_⟩
      · unfold rtOf
        split <;> simp
      · intro a ha b hb
        have hb' : b ∈ rtsOf self l := hb
        obtain ⟨m, hm, g1, g2, rfl⟩ := mem_rts.1 hb'
        have ha' : a ∈ rtsOf self [n] := by unfold rtsOf; simpa using ha
        obtain ⟨n', hn', g3, g4, rfl⟩ := mem_rts.1 ha'
        rw [List.mem_singleton] at hn'
        subst hn'
        rcases h1 m hm with g | ⟨g, g'⟩
        · omega
        · exact .inr ⟨rfl, g'⟩
  · have hp : ∀ X : List Int, X.Pairwise (fun a b => a < b) → (netsOf o X).Pairwise ltR := by
      intro X
      induction X with
      | nil => intro _; exact List.Pairwise.nil
      | cons i X ih =>
        intro hX
        obtain ⟨h1, h2⟩ := List.pairwise_cons.1 hX
        unfold netsOf
        rw [List.flatMap_cons]
        refine List.pairwise_append.2 ⟨?_, ih h2, ?_⟩
        · unfold netOf
          split <;> simp
        · intro a ha b hb
          have hb' : b ∈ netsOf o X := hb
          obtain ⟨j, hj, p, hp, rfl⟩ := mem_nets.1 hb'
          have ha' : a ∈ netsOf o [i] := by unfold netsOf; simpa using ha
          obtain ⟨i', hi', q, hq, rfl⟩ := mem_nets.1 ha'
          rw [List.mem_singleton] at hi'
          subst hi'
          exact .inr ⟨rfl, h1 j hj⟩
    exact hp _ (by decide)
  · intro a ha b hb
    obtain ⟨n, hn, g1, g2, rfl⟩ := mem_rts.1 ha
    obtain ⟨j, hj, p, hp, rfl⟩ := mem_nets.1 hb
    exact .inl (show (1 : Int) < 2 by decide)
theorem ltR_irr (a : Rt) : ¬ ltR a a := by unfold ltR; omega
/-- one of a kind and number alone -/
theorem route_one {L : List Rt} (hs : L.Pairwise ltR) {x y : Rt} (hx : x ∈ L) (hy : y ∈ L) (hk : x.kind = y.kind) (hi : x.id = y.id) : x = y := by
  obtain ⟨i, h1, rfl⟩ := List.getElem_of_mem hx
  obtain ⟨j, h2, rfl⟩ := List.getElem_of_mem hy
  rcases Nat.lt_trichotomy i j with h | h | h
  · have := List.pairwise_iff_getElem.1 hs i j h1 h2 h
    unfold ltR at this
    omega
  · subst h; rfl
  · have := List.pairwise_iff_getElem.1 hs j i h2 h1 h
    unfold ltR at this
    omega

end Go.Proofs.YtpnbibokddhheaaGreat
