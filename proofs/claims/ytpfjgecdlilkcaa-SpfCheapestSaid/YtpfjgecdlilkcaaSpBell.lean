/-
  Layer 21 in plain words: costs that are made less till none can be are the least ones.
-/
import Derived.Test.YtpfjgecdlilkcaaSpPlain
namespace Go.Proofs.Ytpfjgecdlilkcaa

/-- an address in an order; every vertex that may be -/
def allV : List Vx := (List.range 15).map (fun i => ⟨1, (i : Int) + 1⟩) ++ (List.range 64).map (fun i => ⟨2, (i : Int)⟩)
theorem allV_len : allV.length = 79 := by simp [allV]
theorem mem_allV {v : Vx} (h : mayV v = true) : v ∈ allV := by
  obtain ⟨k, i⟩ := v
  unfold allV
  rw [List.mem_append, List.mem_map, List.mem_map]
  rcases mayV_iff.1 h with ⟨h1, h2, h3⟩ | ⟨h1, h2, h3⟩
  · simp only at h1 h2 h3
    refine .inl ⟨i.toNat - 1, List.mem_range.2 (by omega), ?_⟩
    rw [h1]
    congr 1
    omega
  · simp only at h1 h2 h3
    refine .inr ⟨i.toNat, List.mem_range.2 (by omega), ?_⟩
    rw [h1]
    congr 1
    omega
theorem nodup_len {α : Type} [DecidableEq α] : ∀ (l m : List α), l.Nodup → (∀ x ∈ l, x ∈ m) → l.length ≤ m.length
  | [], _, _, _ => Nat.zero_le _
  | x :: l, m, hn, hs => by
    rw [List.nodup_cons] at hn
    have hx := hs x (by simp)
    have ih := nodup_len l (m.erase x) hn.2 fun y hy => (List.mem_erase_of_ne (fun e : y = x => hn.1 (by rw [← e]; exact hy))).2 (hs y (by simp [hy]))
    rw [List.length_erase_of_mem hx] at ih
    have := List.length_pos_of_mem hx
    rw [List.length_cons]
    omega
theorem may_len {l : List Vx} (hn : l.Nodup) (h : ∀ v ∈ l, mayV v = true) : l.length ≤ 79 := by
  have := nodup_len l allV hn fun v hv => mem_allV (h v hv)
  rwa [allV_len] at this

abbrev RowV := Vx × Val2
def ixV (v : Vx) (L : List RowV) : Nat := L.findIdx fun p => decide (p.1 = v)
def getR (L : List RowV) (v : Vx) : Option Val2 := (L[ixV v L]?).map (·.2)
def lessV (a b : Val2) : Bool := decide (a.c < b.c) || (decide (a.c = b.c) && decide (a.h < b.h))
theorem lessV_iff {a b : Val2} : lessV a b = true ↔ ¬ leV b a := by simp only [lessV, leV, Bool.or_eq_true, Bool.and_eq_true, decide_eq_true_eq]; omega
def relax (L : List RowV) (e : Ed) : List RowV :=
  if cntE e = true then
    match getR L e.src with
    | none => L
    | some a => match getR L e.dst with
      | none => L ++ [(e.dst, stepV a e)]
      | some b => if lessV (stepV a e) b = true then L.set (ixV e.dst L) (e.dst, stepV a e) else L
  else L
def roundR (E : List Ed) (L : List RowV) : List RowV := E.foldl relax L
def iterR (E : List Ed) : Nat → List RowV → List RowV
  | 0, L => L
  | n + 1, L => iterR E n (roundR E L)
theorem iterR_succ (E : List Ed) : ∀ (n : Nat) (L : List RowV), iterR E (n + 1) L = roundR E (iterR E n L)
  | 0, _ => rfl
  | n + 1, L => by rw [iterR, iterR_succ E n, iterR]
theorem iterR_fix {E : List Ed} {L : List RowV} (h : roundR E L = L) : ∀ n, iterR E n L = L
  | 0 => rfl
  | n + 1 => by rw [iterR, h, iterR_fix h n]
theorem iterR_stop {E : List Ed} {L : List RowV} {k : Nat} (hk : k ≤ 200) (h : roundR E (iterR E k L) = iterR E k L) : iterR E 200 L = iterR E k L := by
  have add : ∀ m n (M : List RowV), iterR E (m + n) M = iterR E n (iterR E m M) := by
    intro m
    induction m with
    | zero => intro n M; rw [Nat.zero_add, iterR]
    | succ m ih => intro n M; rw [Nat.succ_add, iterR, ih, iterR]
  have := add k (200 - k) L
  rw [show k + (200 - k) = 200 by omega] at this
  rw [this, iterR_fix h]
theorem relax_snoc (E : List Ed) {k : Nat} (hk : k < E.length) (L : List RowV) : roundR (E.take (k + 1)) L = relax (roundR (E.take k) L) E[k] := by
  unfold roundR
  rw [List.take_succ_eq_append_getElem hk, List.foldl_append]
  rfl

theorem ix_lt {L : List RowV} {v : Vx} {a : Val2} (h : getR L v = some a) : ∃ hi : ixV v L < L.length, L[ixV v L]'hi = (v, a) := by
  unfold getR at h
  obtain ⟨p, hp, rfl⟩ := Option.map_eq_some_iff.1 h
  obtain ⟨hi, hp⟩ := List.getElem?_eq_some_iff.1 hp
  refine ⟨hi, ?_⟩
  have := List.findIdx_getElem (p := fun p : RowV => decide (p.1 = v)) (xs := L) (w := hi)
  unfold ixV at hp ⊢
  rw [hp] at this ⊢
  rw [decide_eq_true_eq] at this
  rw [← this]
theorem get_none {L : List RowV} {v : Vx} : getR L v = none ↔ ∀ p ∈ L, p.1 ≠ v := by
  unfold getR ixV
  rw [Option.map_eq_none_iff, List.getElem?_eq_none_iff]
  have h1 := List.findIdx_le_length (p := fun p : RowV => decide (p.1 = v)) (xs := L)
  constructor
  · intro h p hp e
    have := List.findIdx_lt_length_of_exists (p := fun p : RowV => decide (p.1 = v)) (xs := L) ⟨p, hp, by simp [e]⟩
    omega
  · intro h
    have := (List.findIdx_eq_length (p := fun p : RowV => decide (p.1 = v)) (xs := L)).2 fun p hp => by simp [h p hp]
    omega
theorem getR_cons (p : RowV) (L : List RowV) (v : Vx) : getR (p :: L) v = if p.1 = v then some p.2 else getR L v := by
  unfold getR ixV
  rw [List.findIdx_cons]
  by_cases h : p.1 = v
  · simp [h]
  · simp [h]
theorem getR_snoc (x : Vx) (b : Val2) (v : Vx) : ∀ L : List RowV, getR L x = none → getR (L ++ [(x, b)]) v = if x = v then some b else getR L v
  | [], _ => by rw [List.nil_append, getR_cons]
  | p :: L, h => by
    rw [getR_cons] at h
    by_cases hp : p.1 = x
    · rw [if_pos hp] at h; cases h
    · rw [if_neg hp] at h
      rw [List.cons_append, getR_cons, getR_cons, getR_snoc x b v L h]
      by_cases h1 : p.1 = v
      · rw [if_pos h1, if_pos h1, if_neg]
        intro e
        exact hp (by rw [h1, e])
      · rw [if_neg h1, if_neg h1]
theorem getR_set (x : Vx) (b : Val2) (v : Vx) : ∀ L : List RowV, getR L x ≠ none → getR (L.set (ixV x L) (x, b)) v = if x = v then some b else getR L v
  | [], h => absurd rfl h
  | p :: L, h => by
    rw [getR_cons] at h
    unfold ixV
    rw [List.findIdx_cons]
    by_cases hp : p.1 = x
    · simp only [hp, decide_true, cond_true, List.set_cons_zero]
      rw [getR_cons, getR_cons]
      by_cases h1 : x = v
      · rw [if_pos h1, if_pos h1]
      · have h2 : ¬ p.1 = v := fun e => h1 (by rw [← hp, e])
        simp [h1, h2]
    · rw [if_neg hp] at h
      simp only [hp, decide_false, cond_false, List.set_cons_succ]
      rw [getR_cons, getR_cons]
      have ih := getR_set x b v L h
      unfold ixV at ih
      by_cases h1 : p.1 = v
      · rw [if_pos h1, if_pos h1, if_neg]
        intro e
        exact hp (by rw [h1, e])
      · rw [if_neg h1, if_neg h1, ih]
theorem keys_set (x : Vx) (b : Val2) (L : List RowV) (h : getR L x ≠ none) : (L.set (ixV x L) (x, b)).map (·.1) = L.map (·.1) := by
  cases hg : getR L x with
  | none => exact absurd hg h
  | some a =>
    obtain ⟨hi, e⟩ := ix_lt hg
    refine List.ext_getElem (by simp) fun n h1 h2 => ?_
    simp only [List.getElem_map, List.getElem_set]
    split
    · rename_i hn
      subst hn
      rw [e]
    · rfl
/-- what one edge does -/
theorem relax_get (L : List RowV) (e : Ed) (v : Vx) : getR (relax L e) v = if cntE e = true then (match getR L e.src with
    | none => getR L v
    | some a => if e.dst = v then (match getR L e.dst with | none => some (stepV a e) | some b => if lessV (stepV a e) b = true then some (stepV a e) else some b) else getR L v) else getR L v := by
  unfold relax
  split
  · cases h1 : getR L e.src with
    | none => rfl
    | some a =>
      simp only
      cases h2 : getR L e.dst with
      | none => simp only; rw [getR_snoc _ _ _ _ h2]
      | some b =>
        simp only
        split
        · rw [getR_set _ _ _ _ (by rw [h2]; simp)]
        · split
          · rename_i h3
            rw [← h3, h2]
          · rfl
  · rfl
structure RowsOk (E : List Ed) (r : Vx) (L : List RowV) : Prop where
  keys : (L.map (·.1)).Nodup
  may : ∀ p ∈ L, mayV p.1 = true
theorem RowsOk.start (E : List Ed) {r : Vx} (hr : mayV r = true) : RowsOk E r [(r, ⟨0, 0⟩)] := ⟨by simp, by simpa using hr⟩
theorem RowsOk.relax {E : List Ed} {r : Vx} {L : List RowV} (h : RowsOk E r L) (e : Ed) : RowsOk E r (relax L e) := by
  unfold Go.Proofs.Ytpfjgecdlilkcaa.relax
  split
  · rename_i hc
    cases h1 : getR L e.src with
    | none => exact h
    | some a =>
      simp only
      cases h2 : getR L e.dst with
      | none =>
        simp only
        refine ⟨?_, fun p hp => ?_⟩
        · rw [List.map_append, List.map_singleton, List.nodup_append]
          refine ⟨h.keys, by simp, fun x hx y hy => ?_⟩
          obtain ⟨p, hp, rfl⟩ := List.mem_map.1 hx
          rw [List.mem_singleton] at hy
          rw [hy]
          exact get_none.1 h2 p hp
        · rcases List.mem_append.1 hp with hp | hp
          · exact h.may p hp
          · rw [List.mem_singleton] at hp
            rw [hp]
            exact (cntE_iff.1 hc).2.1
      | some b =>
        simp only
        split
        · have hk := keys_set e.dst (stepV a e) L (by rw [h2]; simp)
          refine ⟨by rw [hk]; exact h.keys, fun p hp => ?_⟩
          have : p.1 ∈ L.map (·.1) := by rw [← hk]; exact List.mem_map_of_mem hp
          obtain ⟨q, hq, he⟩ := List.mem_map.1 this
          rw [← he]
          exact h.may q hq
        · exact h
  · exact h
theorem RowsOk.len {E : List Ed} {r : Vx} {L : List RowV} (h : RowsOk E r L) : L.length ≤ 79 := by
  have := may_len h.keys fun v hv => by
    obtain ⟨p, hp, rfl⟩ := List.mem_map.1 hv
    exact h.may p hp
  rwa [List.length_map] at this
theorem RowsOk.round {E : List Ed} {r : Vx} : ∀ (T : List Ed) {L : List RowV}, RowsOk E r L → RowsOk E r (roundR T L)
  | [], _, h => h
  | e :: T, _, h => RowsOk.round T (h.relax e)
theorem RowsOk.iter {E : List Ed} {r : Vx} : ∀ (n : Nat) {L : List RowV}, RowsOk E r L → RowsOk E r (iterR E n L)
  | 0, _, h => h
  | n + 1, _, h => RowsOk.iter n (h.round E)

section
variable {E : List Ed} {r : Vx} {D : Vx → Option Val2}
def SoundR (D : Vx → Option Val2) (L : List RowV) : Prop := ∀ v b, getR L v = some b → ∃ a, D v = some a ∧ leV a b
theorem SoundR.start (h : IsDist E r D) : SoundR D [(r, ⟨0, 0⟩)] := by
  intro v b hb
  rw [getR_cons] at hb
  split at hb
  · rename_i e
    cases hb
    exact ⟨_, by rw [← e]; exact h.root, leV_refl _⟩
  · cases hb
theorem SoundR.relax (h : IsDist E r D) {L : List RowV} (hs : SoundR D L) {e : Ed} (he : e ∈ E) : SoundR D (relax L e) := by
  intro v b hb
  rw [relax_get] at hb
  split at hb
  · rename_i hc
    cases h1 : getR L e.src with
    | none => rw [h1] at hb; exact hs v b hb
    | some a =>
      rw [h1] at hb
      simp only at hb
      split at hb
      · rename_i hv
        subst hv
        obtain ⟨a', ha', hle⟩ := hs _ _ h1
        obtain ⟨c, hc2, hle2⟩ := h.closed e he hc a' ha'
        have hst : ∃ x, D e.dst = some x ∧ leV x (stepV a e) := ⟨c, hc2, leV_trans hle2 (stepV_mono hle e)⟩
        cases h2 : getR L e.dst with
        | none => rw [h2] at hb; simp only at hb; cases hb; exact hst
        | some d =>
          rw [h2] at hb
          simp only at hb
          split at hb
          · cases hb; exact hst
          · cases hb; exact hs _ _ h2
      · exact hs v b hb
  · exact hs v b hb
/-- it is as it will be -/
def ExactR (D : Vx → Option Val2) (L : List RowV) (v : Vx) : Prop := ∃ a, D v = some a ∧ getR L v = some a
theorem relax_le (L : List RowV) (e : Ed) {v : Vx} {b : Val2} (h : getR L v = some b) : ∃ b', getR (relax L e) v = some b' ∧ leV b' b := by
  rw [relax_get]
  split
  · cases h1 : getR L e.src with
    | none => exact ⟨b, h, leV_refl _⟩
    | some a =>
      simp only
      split
      · rename_i hv
        subst hv
        rw [h]
        simp only
        split
        · rename_i hl
          refine ⟨_, rfl, ?_⟩
          have := lessV_iff.1 hl
          rcases leV_total (stepV a e) b with g | g
          · exact g
          · exact absurd g this
        · exact ⟨_, rfl, leV_refl _⟩
      · exact ⟨b, h, leV_refl _⟩
  · exact ⟨b, h, leV_refl _⟩
theorem ExactR.relax (h : IsDist E r D) {L : List RowV} (hs : SoundR D L) {e : Ed} (he : e ∈ E) {v : Vx} (hx : ExactR D L v) : ExactR D (relax L e) v := by
  obtain ⟨a, ha, hg⟩ := hx
  obtain ⟨b, hb, hle⟩ := relax_le L e hg
  obtain ⟨a', ha', hle2⟩ := (hs.relax h he) v b hb
  rw [ha] at ha'
  cases ha'
  rw [leV_anti hle hle2] at hb
  exact ⟨a, ha, hb⟩
theorem exact_over {L : List RowV} (hs : SoundR D L) {e : Ed} (hc : cntE e = true) {b : Val2} (hb : D e.src = some b) (hd : D e.dst = some (stepV b e)) (hx : ExactR D L e.src) : ExactR D (relax L e) e.dst := by
  obtain ⟨a, ha, hg⟩ := hx
  rw [hb] at ha
  cases ha
  refine ⟨_, hd, ?_⟩
  rw [relax_get, if_pos hc, hg]
  simp only [if_true]
  cases h2 : getR L e.dst with
  | none => rfl
  | some c =>
    simp only
    split
    · rfl
    · rename_i hl
      obtain ⟨x, hx, hle⟩ := hs _ _ h2
      rw [hd] at hx
      cases hx
      have : leV c (stepV b e) := by
        by_cases g : leV c (stepV b e)
        · exact g
        · exact absurd (lessV_iff.2 g) hl
      rw [leV_anti hle this]
theorem round_keep (h : IsDist E r D) : ∀ (T : List Ed) {L : List RowV}, (∀ e ∈ T, e ∈ E) → SoundR D L → SoundR D (roundR T L) ∧ ∀ v, ExactR D L v → ExactR D (roundR T L) v
  | [], _, _, hs => ⟨hs, fun _ hx => hx⟩
  | e :: T, L, hT, hs => by
    have he := hT e (by simp)
    obtain ⟨h1, h2⟩ := round_keep h T (fun x hx => hT x (by simp [hx])) (hs.relax h he)
    exact ⟨h1, fun v hx => h2 v (hx.relax h hs he)⟩
/-- it is had over so many edges -/
def Reach (E : List Ed) (r : Vx) (D : Vx → Option Val2) : Nat → Vx → Prop
  | 0, v => v = r
  | k + 1, v => ∃ e ∈ E, cntE e = true ∧ e.dst = v ∧ ∃ b, D e.src = some b ∧ D e.dst = some (stepV b e) ∧ Reach E r D k e.src
theorem round_reach (h : IsDist E r D) {L : List RowV} (hs : SoundR D L) {k : Nat} (hx : ∀ v, Reach E r D k v → ExactR D L v) : ∀ v, Reach E r D (k + 1) v → ExactR D (roundR E L) v := by
  rintro v ⟨e, he, hc, rfl, b, hb, hd, hre⟩
  obtain ⟨P, Q, hPQ⟩ := List.append_of_mem he
  have hr : roundR E L = roundR Q (relax (roundR P L) e) := by
    conv => lhs; rw [hPQ]
    unfold roundR
    rw [List.foldl_append, List.foldl_cons]
  rw [hr]
  have hP : ∀ x ∈ P, x ∈ E := fun x hx => by rw [hPQ]; simp [hx]
  have hQ : ∀ x ∈ Q, x ∈ E := fun x hx => by rw [hPQ]; simp [hx]
  obtain ⟨s1, k1⟩ := round_keep h P hP hs
  have x1 := k1 _ (hx _ hre)
  exact (round_keep h Q hQ (s1.relax h he)).2 _ (exact_over s1 hc hb hd x1)
theorem iter_reach (h : IsDist E r D) : ∀ n, SoundR D (iterR E n [(r, ⟨0, 0⟩)]) ∧ ∀ k, k ≤ n → ∀ v, Reach E r D k v → ExactR D (iterR E n [(r, ⟨0, 0⟩)]) v
  | 0 => ⟨SoundR.start h, fun k hk v hv => by
    have : k = 0 := by omega
    subst this
    rw [show v = r from hv]
    exact ⟨_, h.root, by rw [iterR, getR_cons, if_pos rfl]⟩⟩
  | n + 1 => by
    obtain ⟨s1, x1⟩ := iter_reach h n
    rw [iterR_succ]
    obtain ⟨s2, k2⟩ := round_keep h E (fun _ h => h) s1
    refine ⟨s2, fun k hk v hv => ?_⟩
    by_cases hkn : k ≤ n
    · exact k2 v (x1 k hkn v hv)
    · have : k = n + 1 := by omega
      subst this
      exact round_reach h s1 (x1 n (Nat.le_refl _)) v hv
theorem reach_few (h : IsDist E r D) : ∀ v a, D v = some a → ∃ k, k ≤ 79 ∧ Reach E r D k v := by
  have := h.induct (P := fun v a => ∃ l : List Vx, l.Nodup ∧ (∀ x ∈ l, mayV x = true ∧ ∃ b, D x = some b ∧ rankV x b < rankV v a) ∧ Reach E r D l.length v) ⟨[], by simp, by simp, rfl⟩ (by
    rintro e he hc b hb hd ⟨l, hn, hl, hre⟩
    refine ⟨e.src :: l, ?_, ?_, ?_⟩
    · rw [List.nodup_cons]
      refine ⟨fun hm => ?_, hn⟩
      obtain ⟨-, b', hb', hlt⟩ := hl _ hm
      rw [hb] at hb'
      cases hb'
      omega
    · intro x hx
      have hstep := rank_step hc b
      rcases List.mem_cons.1 hx with rfl | hx
      · exact ⟨(cntE_iff.1 hc).1, b, hb, hstep⟩
      · obtain ⟨h1, b', hb', hlt⟩ := hl x hx
        exact ⟨h1, b', hb', by omega⟩
    · exact ⟨e, he, hc, rfl, b, hb, hd, hre⟩)
  intro v a hv
  obtain ⟨l, hn, hl, hre⟩ := this v a hv
  exact ⟨l.length, may_len hn fun x hx => (hl x hx).1, hre⟩
/-- the document's costs are the least ones -/
theorem costs_dist (h : IsDist E r D) (v : Vx) : getR (iterR E 200 [(r, ⟨0, 0⟩)]) v = D v := by
  obtain ⟨hs, hx⟩ := iter_reach h 200
  cases hv : D v with
  | some a =>
    obtain ⟨k, hk, hre⟩ := reach_few h v a hv
    obtain ⟨a', ha', hg⟩ := hx k (by omega) v hre
    rw [hv] at ha'
    rw [hg, ← ha']
  | none =>
    cases hg : getR (iterR E 200 [(r, ⟨0, 0⟩)]) v with
    | none => rfl
    | some b =>
      obtain ⟨a, ha, -⟩ := hs v b hg
      rw [hv] at ha
      cases ha
end

end Go.Proofs.Ytpfjgecdlilkcaa
