/-
  Layer 21: rows of costs: how large they get; what one edge does, case by case; stored in a row that the call made itself.
-/
import Derived.Test.YtpfjgecdlilkcaaSpRefA
import Derived.Test.YtpfjgecdlilkcaaRowClr
namespace Go.Proofs.Ytpfjgecdlilkcaa
open Go.RowKit

def BndR (x : Nat) (L : List RowV) : Prop := ∀ p ∈ L, p.2.c ≤ 100 * x ∧ p.2.h ≤ x
theorem fix_some {L : List RowV} {v : Vx} {a : Val2} (h : getR L v = some a) : ∃ k : Nat, ∃ hk : k < L.length, fixV L v = k ∧ ixV v L = k ∧ L[k] = (v, a) := by
  obtain ⟨hi, e⟩ := ix_lt h
  exact ⟨_, hi, by unfold fixV; rw [if_pos hi], rfl, e⟩
theorem fix_none {L : List RowV} {v : Vx} (h : getR L v = none) : fixV L v = -1 := ix_not (get_none.1 h)
theorem relax_off {L : List RowV} {e : Ed} (h : cntE e = false) : relax L e = L := by unfold relax; rw [h]; rfl
theorem relax_out {L : List RowV} {e : Ed} (h : getR L e.src = none) : relax L e = L := by unfold relax; rw [h]; simp
theorem relax_new {L : List RowV} {e : Ed} {a : Val2} (hc : cntE e = true) (h : getR L e.src = some a) (hd : getR L e.dst = none) : relax L e = L ++ [(e.dst, stepV a e)] := by unfold relax; rw [if_pos hc, h]; simp only; rw [hd]
theorem relax_old {L : List RowV} {e : Ed} {a b : Val2} (hc : cntE e = true) (h : getR L e.src = some a) (hd : getR L e.dst = some b) : relax L e = if lessV (stepV a e) b = true then L.set (ixV e.dst L) (e.dst, stepV a e) else L := by unfold relax; rw [if_pos hc, h]; simp only; rw [hd]
theorem cost_le {e : Ed} (h : cntE e = true) : e.cost.toNat ≤ 100 ∧ (0 ≤ e.cost ∧ e.cost ≤ 100) ∧ hopN e ≤ 1 := by
  obtain ⟨-, -, h⟩ := cntE_iff.1 h
  unfold hopN
  refine ⟨by omega, by omega, ?_⟩
  split <;> omega
theorem BndR.relax {x : Nat} {L : List RowV} (h : BndR x L) (e : Ed) : BndR (x + 1) (relax L e) := by
  have hw : ∀ p ∈ L, p.2.c ≤ 100 * (x + 1) ∧ p.2.h ≤ x + 1 := fun p hp => by have := h p hp; omega
  cases hc : cntE e with
  | false => rw [relax_off hc]; exact hw
  | true =>
    cases h1 : getR L e.src with
    | none => rw [relax_out h1]; exact hw
    | some a =>
      obtain ⟨k, hk, -, -, ha⟩ := fix_some h1
      have hm : (e.src, a) ∈ L := by rw [← ha]; exact List.getElem_mem hk
      have hb := h _ hm
      have hl := cost_le hc
      have hs : (stepV a e).c ≤ 100 * (x + 1) ∧ (stepV a e).h ≤ x + 1 := by
        unfold stepV
        simp only at hb ⊢
        omega
      cases h2 : getR L e.dst with
      | none =>
        rw [relax_new hc h1 h2]
        intro p hp
        rcases List.mem_append.1 hp with hp | hp
        · exact hw p hp
        · rw [List.mem_singleton] at hp
          rw [hp]
          exact hs
      | some b =>
        rw [relax_old hc h1 h2]
        split
        · intro p hp
          rcases List.mem_or_eq_of_mem_set hp with hp | hp
          · exact hw p hp
          · rw [hp]
            exact hs
        · exact hw
theorem BndR.round : ∀ (T : List Ed) {x : Nat} {L : List RowV}, BndR x L → BndR (x + T.length) (roundR T L)
  | [], _, _, h => h
  | e :: T, x, _, h => by
    have := BndR.round T (h.relax e)
    rw [List.length_cons, show x + (T.length + 1) = x + 1 + T.length by omega]
    exact this
theorem BndR.iter (E : List Ed) : ∀ (k : Nat) {x : Nat} {L : List RowV}, BndR x L → BndR (x + k * E.length) (iterR E k L)
  | 0, _, _, h => by rw [Nat.zero_mul]; exact h
  | k + 1, x, _, h => by
    have := BndR.iter E k (h.round E)
    rw [Nat.add_mul, Nat.one_mul, show x + (k * E.length + E.length) = x + E.length + k * E.length by omega]
    exact this
/-- what the rows are when the rounds so far are done, and so many edges of the next one -/
def rowsV (E : List Ed) (r : Vx) (k i : Nat) : List RowV := roundR (E.take i) (iterR E k [(r, ⟨0, 0⟩)])
theorem rowsV_zero (E : List Ed) (r : Vx) (k : Nat) : rowsV E r k 0 = iterR E k [(r, ⟨0, 0⟩)] := rfl
theorem rowsV_last (E : List Ed) (r : Vx) (k : Nat) : rowsV E r k E.length = iterR E (k + 1) [(r, ⟨0, 0⟩)] := by
  unfold rowsV
  rw [List.take_length, iterR_succ]
theorem rowsV_next (E : List Ed) (r : Vx) (k : Nat) {i : Nat} (hi : i < E.length) : rowsV E r k (i + 1) = relax (rowsV E r k i) E[i] := relax_snoc E hi _
theorem rowsV_ok {E : List Ed} {r : Vx} (hr : mayV r = true) (k i : Nat) : (rowsV E r k i).length ≤ 79 :=
  (((RowsOk.start E hr).iter k).round (E.take i)).len (E := E) (r := r)
theorem rowsV_small {E : List Ed} {r : Vx} {k i : Nat} (hk : k ≤ 200) (hi : i ≤ E.length) (hE : E.length ≤ 4000) : ∀ p ∈ rowsV E r k i, p.2.c ≤ 100000000 ∧ p.2.h ≤ 1000000 := by
  have h0 : BndR 0 [(r, (⟨0, 0⟩ : Val2))] := fun p hp => by
    rw [List.mem_singleton] at hp
    rw [hp]
    simp
  have h1 := (h0.iter E k).round (E.take i)
  intro p hp
  have := h1 p hp
  have h2 : k * E.length ≤ 200 * 4000 := Nat.mul_le_mul hk hE
  have h3 : (E.take i).length ≤ 4000 := by rw [List.length_take]; omega
  omega
theorem rowsV_stop {E : List Ed} {r : Vx} {k : Nat} (hk : k ≤ 200) (h : rowsV E r k E.length = iterR E k [(r, ⟨0, 0⟩)]) : iterR E 200 [(r, ⟨0, 0⟩)] = rowsV E r k E.length := by
  rw [h]
  refine iterR_stop hk ?_
  rw [rowsV_last, iterR_succ] at h
  exact h

theorem set_flatRw (l : List RowV) (k : Nat) (c : RowV) (hk : k < l.length) :
    (l.set k c).flatMap rcells = ((((l.flatMap rcells).set (k * 4) (.int .i64 c.1.kind)).set (k * 4 + 1) (.int .i64 c.1.id)).set (k * 4 + 2) (.int .i64 c.2.c)).set (k * 4 + 3) (.int .i64 c.2.h) := by
  induction l generalizing k with
  | nil => simp at hk
  | cons d l ih =>
    cases k with
    | zero => simp [rcells]
    | succ k =>
      have h := ih k (by simpa using hk)
      simp only [List.set_cons_succ, List.flatMap_cons, h]
      have h4 : (rcells d).length = 4 := rfl
      rw [List.set_append_right _ _ (by omega), List.set_append_right _ _ (by omega), List.set_append_right _ _ (by omega), List.set_append_right _ _ (by omega)]
      simp only [h4, show (k + 1) * 4 - 4 = k * 4 by omega, show (k + 1) * 4 + 1 - 4 = k * 4 + 1 by omega, show (k + 1) * 4 + 2 - 4 = k * 4 + 2 by omega, show (k + 1) * 4 + 3 - 4 = k * 4 + 3 by omega]
abbrev OwnRw (w : World) (B : Nat) (v : Value) (l : List RowV) : Prop := OwnR 120 4 rcells w B v l
section
variable {w : World} {B g cap n : Nat} {l : List RowV}
theorem OwnRw.set4 (h : OwnRw w B (.slice (some ⟨g, 0, none⟩) n cap) l) (hn : n = l.length) (k : Nat) (hk : k < l.length) (c : RowV) :
    OwnRw ((((w.setCell ⟨g, k * 4, none⟩ (.int .i64 c.1.kind)).setCell ⟨g, k * 4 + 1, none⟩ (.int .i64 c.1.id)).setCell ⟨g, k * 4 + 2, none⟩ (.int .i64 c.2.c)).setCell ⟨g, k * 4 + 3, none⟩ (.int .i64 c.2.h)) B (.slice (some ⟨g, 0, none⟩) n cap) (l.set k c) := by
  subst hn
  unfold OwnRw OwnR
  rw [set_flatRw l k c hk, List.length_set]
  exact ((((World.ownsRow.stored h (k * 4) (.int .i64 c.1.kind)).1.stored (k * 4 + 1) (.int .i64 c.1.id)).1.stored (k * 4 + 2) (.int .i64 c.2.c)).1.stored (k * 4 + 3) (.int .i64 c.2.h)).1
end
theorem Blk.set4s {w : World} {g : Nat} {t : TypeId} {a b c d : Value} (h : Blk w g t #[a, b, c, d]) (a' b' c' d' : Value) : Blk ((((w.setCell ⟨g, 0, none⟩ a').setCell ⟨g, 1, none⟩ b').setCell ⟨g, 2, none⟩ c').setCell ⟨g, 3, none⟩ d') g t #[a', b', c', d'] := h.set4
theorem below_set4 {B : Nat} {w w' : World} {g j : Nat} (h : Below B w w') (hg : B ≤ g) (a b c d : Value) : Below B w ((((w'.setCell ⟨g, j, none⟩ a).setCell ⟨g, j + 1, none⟩ b).setCell ⟨g, j + 2, none⟩ c).setCell ⟨g, j + 3, none⟩ d) :=
  (((h.setCell (p := ⟨g, j, none⟩) hg _).setCell (p := ⟨g, j + 1, none⟩) hg _).setCell (p := ⟨g, j + 2, none⟩) hg _).setCell (p := ⟨g, j + 3, none⟩) hg _
theorem below_set4z {B : Nat} {w w' : World} {g : Nat} (h : Below B w w') (hg : B ≤ g) (a b c d : Value) : Below B w ((((w'.setCell ⟨g, 0, none⟩ a).setCell ⟨g, 1, none⟩ b).setCell ⟨g, 2, none⟩ c).setCell ⟨g, 3, none⟩ d) :=
  (((h.setCell (p := ⟨g, 0, none⟩) hg _).setCell (p := ⟨g, 1, none⟩) hg _).setCell (p := ⟨g, 2, none⟩) hg _).setCell (p := ⟨g, 3, none⟩) hg _

end Go.Proofs.Ytpfjgecdlilkcaa
