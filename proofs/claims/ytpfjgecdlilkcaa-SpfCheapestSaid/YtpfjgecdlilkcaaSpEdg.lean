/-
  Layer 21: the edges by the vertices from which they go: rows of the call's own in a map of its own.
-/
import Derived.Test.YtpfjgecdlilkcaaSpNear
import Derived.Test.YtpfjgecdlilkcaaStEntry
namespace Go.Proofs.Ytpfjgecdlilkcaa
open Go.RowKit

abbrev EdR := Value × List Ed
abbrev EdG := List (Vx × EdR)
def edV (G : EdG) : List (Vx × Value) := G.map fun e => (e.1, e.2.1)
def getG (v : Vx) : EdG → Option EdR
  | [] => none
  | e :: G => if e.1 = v then some e.2 else getG v G
def setG (v : Vx) (x : EdR) : EdG → EdG
  | [] => [(v, x)]
  | e :: G => if e.1 = v then (v, x) :: G else e :: setG v x G
theorem getL_edV (v : Vx) : ∀ G : EdG, getL v (edV G) = (getG v G).map (·.1)
  | [] => rfl
  | e :: G => by
    have ih := getL_edV v G
    simp only [edV, List.map_cons] at ih ⊢
    unfold getL getG
    by_cases h : e.1 = v
    · rw [if_pos h, if_pos h]; rfl
    · rw [if_neg h, if_neg h]; exact ih
theorem setL_edV (v : Vx) (x : EdR) : ∀ G : EdG, setL v x.1 (edV G) = edV (setG v x G)
  | [] => rfl
  | e :: G => by
    have ih := setL_edV v x G
    simp only [edV, List.map_cons] at ih ⊢
    unfold setL setG
    by_cases h : e.1 = v
    · rw [if_pos h, if_pos h]; rfl
    · rw [if_neg h, if_neg h, ih]; rfl
theorem setL_twice {κ : Type} [DecidableEq κ] (k : κ) (a b : Value) : ∀ L : List (κ × Value), setL k a (setL k b L) = setL k a L
  | [] => by simp [setL]
  | e :: L => by
    have ih := setL_twice k a b L
    by_cases h : e.1 = k
    · simp [setL, h]
    · simp [setL, h, ih]
theorem getG_set (u v : Vx) (x : EdR) : ∀ G : EdG, getG u (setG v x G) = if u = v then some x else getG u G
  | [] => by
    unfold setG getG
    by_cases h : u = v
    · simp [h]
    · simp [h, Ne.symm h, getG]
  | e :: G => by
    have ih := getG_set u v x G
    unfold setG
    by_cases h1 : e.1 = v
    · rw [if_pos h1]
      by_cases h2 : u = v
      · simp [getG, h2]
      · have h3 : ¬ e.1 = u := fun e' => h2 (by rw [← e', h1])
        have h4 : ¬ v = u := fun e' => h2 e'.symm
        simp [getG, h2, h3, h4]
    · rw [if_neg h1]
      unfold getG
      by_cases h2 : e.1 = u
      · have h3 : ¬ u = v := fun e' => h1 (by rw [h2, e'])
        simp [h2, h3]
      · simp [h2, ih]
theorem getG_mem {v : Vx} {x : EdR} : ∀ {G : EdG}, getG v G = some x → (v, x) ∈ G
  | [], h => by cases h
  | e :: G, h => by
    unfold getG at h
    by_cases he : e.1 = v
    · rw [if_pos he] at h
      cases h
      subst he
      simp
    · rw [if_neg he] at h
      exact List.mem_cons_of_mem _ (getG_mem h)
theorem getG_of_mem {v : Vx} {x : EdR} : ∀ {G : EdG}, (G.map (·.1)).Nodup → (v, x) ∈ G → getG v G = some x
  | [], _, h => by simp at h
  | e :: G, hn, h => by
    simp only [List.map_cons, List.nodup_cons] at hn
    unfold getG
    rcases List.mem_cons.1 h with rfl | h
    · simp
    · have : e.1 ≠ v := fun he => hn.1 (by rw [he]; exact List.mem_map.2 ⟨_, h, rfl⟩)
      rw [if_neg this]
      exact getG_of_mem hn.2 h
theorem keysG (G : EdG) : (edV G).map (·.1) = G.map (·.1) := by
  unfold edV
  rw [List.map_map]
  rfl
theorem mem_setG {v : Vx} {x : EdR} {G : EdG} (hn : (G.map (·.1)).Nodup) {e : Vx × EdR} (he : e ∈ setG v x G) : e = (v, x) ∨ (e ∈ G ∧ e.1 ≠ v) := by
  have hk : ((setG v x G).map (·.1)).Nodup := by
    have := (setL_keys (k := v) (v := x.1) (L := edV G) (by rw [keysG]; exact hn)).1
    rw [setL_edV, keysG] at this
    exact this
  have h1 := getG_of_mem hk (v := e.1) (x := e.2) he
  rw [getG_set] at h1
  by_cases hv : e.1 = v
  · rw [if_pos hv] at h1
    cases h1
    exact .inl (Prod.ext hv rfl)
  · rw [if_neg hv] at h1
    exact .inr ⟨getG_mem h1, hv⟩
theorem own_ne_map {α κ : Type} {e : TypeId} {C b B : Nat} {cells : α → List Value} {enc : κ → Value} {w : World} {v : Value} {L : List α} {M : List (κ × Value)} (ho : OwnR e C cells w B v L) (hm : MapAt enc w b M) : v.ownBlock = none ∨ v.ownBlock ≠ some b := by
  rcases ho.2 with ⟨g', -⟩ | ⟨g', cap, cur, h1, h2, h3, h4⟩
  · rw [g']; exact .inl rfl
  · right
    rw [h1]
    intro e'
    have e2 : g' = b := by injection e'
    obtain ⟨es, clock, h5, -⟩ := hm
    rw [e2, h5] at h3
    cases h3
abbrev OwnE (w : World) (B : Nat) (v : Value) (L : List Ed) : Prop := OwnR 42 5 Ed.cells w B v L
structure EdgAt (w : World) (B be : Nat) (G : EdG) : Prop where
  map : MapAt Vx.enc w be (edV G)
  base : B ≤ be
  own : ∀ e ∈ G, OwnE w B e.2.1 e.2.2
  apart : ∀ e ∈ G, ∀ e' ∈ G, e.1 ≠ e'.1 → e.2.1.ownBlock = none ∨ e.2.1.ownBlock ≠ e'.2.1.ownBlock
/-- what they say: of the edges so far those that count, by where they begin -/
def EdgOf (E : List Ed) (G : EdG) : Prop := ∀ v, ((getG v G).map (·.2)).getD [] = E.filter fun e => cntE e && decide (e.src = v)
section
variable {w w' w1 w2 w3 : World} {B be : Nat} {G : EdG} {E : List Ed}
theorem EdgAt.keys (h : EdgAt w B be G) : (G.map (·.1)).Nodup := by
  have := h.map.nodup
  rw [keysG] at this
  exact this
theorem EdgAt.below (h : EdgAt w B be G) (hb : Below w.heap.size w w') : EdgAt w' B be G := ⟨h.map.below hb h.map.lt, h.base, fun e he => (h.own e he).below hb, h.apart⟩
/-- what turns but places and the map of them leaves the edges as they are -/
theorem EdgAt.mv {bf : Nat} {F : Fnd} (h : EdgAt w B be G) (hm : Mv B bf w w') (hne : be ≠ bf) (hf : MapAt Vx.enc w bf (valsF F)) : EdgAt w' B be G := ⟨hm.map h.map hne, h.base, fun e he => hm.own (h.own e he) (by decide) hf, h.apart⟩
theorem edgOf_nil : EdgOf [] [] := fun _v => rfl
theorem edgOf_skip (h : EdgOf E G) {e : Ed} (hc : cntE e = false) : EdgOf (E ++ [e]) G := fun v => by rw [h v, List.filter_append]; simp [hc]
theorem edgOf_put (h : EdgOf E G) {e : Ed} (hc : cntE e = true) {v' : Value} : EdgOf (E ++ [e]) (setG e.src (v', ((getG e.src G).map (·.2)).getD [] ++ [e]) G) := fun v => by
  rw [getG_set, List.filter_append]
  by_cases hv : v = e.src
  · subst hv
    rw [if_pos rfl, ← h e.src]
    simp [hc]
  · rw [if_neg hv, h v]
    simp [Ne.symm hv]
/-- one more edge in its row -/
theorem EdgAt.put (h : EdgAt w B be G) {k : Vx} {x0 : EdR} (hx0 : (getG k G).getD (.slice none 0 0, []) = x0) {st : Nat} (he : EntryAt Vx.enc w1 be (setL k x0.1 (edV G)) k st) (hg1 : w.grownBy w1 (some be)) {x : EdR} (ho : OwnE w2 B x.1 x.2) (hg2 : w1.grownBy w2 x0.1.ownBlock) (hor : x.1.ownBlock = x0.1.ownBlock ∨ x.1.ownBlock = some w1.heap.size)
    (hm : MapAt Vx.enc w3 be (setL k x.1 (setL k x0.1 (edV G)))) (hg3 : w2.grownBy w3 (some be)) (_hB : B ≤ w.heap.size) : EdgAt w3 B be (setG k x G) := by
  rw [setL_twice, setL_edV] at hm
  have hno : ∀ e ∈ G, e.1 ≠ k → e.2.1.ownBlock = none ∨ e.2.1.ownBlock ≠ x0.1.ownBlock := by
    intro e hm1 hne
    cases hg : getG k G with
    | none =>
      rw [hg] at hx0
      simp only [Option.getD] at hx0
      subst hx0
      cases hv : e.2.1.ownBlock with
      | none => exact .inl rfl
      | some b => exact .inr (by simp [Value.ownBlock])
    | some y =>
      rw [hg] at hx0
      simp only [Option.getD] at hx0
      subst hx0
      exact h.apart e hm1 _ (getG_mem hg) hne
  have hol : ∀ e ∈ G, e.1 ≠ k → OwnE w2 B e.2.1 e.2.2 := fun e hm1 hne => OwnR.kept (OwnR.kept (h.own e hm1) hg1 (own_ne_map (h.own e hm1) h.map)) hg2 (hno e hm1 hne)
  have hm2 := (he.grown hg2 (fun e => by
    rcases hv : x0.1.ownBlock with _ | b
    · rw [hv] at e; cases e
    · cases hg : getG k G with
      | none =>
        rw [hg] at hx0
        simp only [Option.getD] at hx0
        rw [← hx0] at hv
        cases hv
      | some y =>
        rw [hg] at hx0
        simp only [Option.getD] at hx0
        subst hx0
        rcases own_ne_map (h.own _ (getG_mem hg)) h.map with g | g
        · rw [g] at e; cases e
        · exact g e.symm)).map
  refine ⟨hm, h.base, ?_, ?_⟩
  · intro e hm1
    rcases mem_setG h.keys hm1 with rfl | ⟨hm1, hne⟩
    · exact OwnR.kept ho hg3 (own_ne_map ho hm2)
    · exact OwnR.kept (hol e hm1 hne) hg3 (own_ne_map (hol e hm1 hne) hm2)
  · intro e hm1 e' hm1' hee
    rcases mem_setG h.keys hm1 with rfl | ⟨hm1, hne⟩ <;> rcases mem_setG h.keys hm1' with rfl | ⟨hm1', hne'⟩
    · exact absurd rfl hee
    · rcases hor with e1 | e1
      · rcases hno e' hm1' hne' with g | g
        · cases hv : x.1.ownBlock with
          | none => exact .inl rfl
          | some b => right; rw [g]; simp
        · right
          simp only
          rw [e1]
          exact fun q => g q.symm
      · right
        simp only
        rw [e1]
        intro q
        have := ((h.own e' hm1').block _ q.symm).2
        have := hg1.size
        omega
    · rcases hor with e1 | e1
      · rcases hno e hm1 hne with g | g
        · exact .inl g
        · right; simp only; rw [e1]; exact g
      · right
        simp only
        rw [e1]
        intro q
        have := ((h.own e hm1).block _ q).2
        have := hg1.size
        omega
    · exact h.apart e hm1 e' hm1' hee
end

end Go.Proofs.Ytpfjgecdlilkcaa
