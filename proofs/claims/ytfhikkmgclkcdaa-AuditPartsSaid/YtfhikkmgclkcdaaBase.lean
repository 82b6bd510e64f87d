/-
  Base words of this family: lists of structs in memory.
-/
import Derived.Test.YtfhikkmgclkcdaaMem
namespace Go.Proofs.Ytfhikkmgclkcdaa
open Go.RowKit

structure Cand where
  id : Int
  prio : Int
  dr : Int
  bdr : Int
deriving DecidableEq

namespace Cand
def cells (c : Cand) : List Value := [.int .i64 c.id, .int .i64 c.prio, .int .i64 c.dr, .int .i64 c.bdr]
def val (c : Cand) : Value := .agg #[.int .i64 c.id, .int .i64 c.prio, .int .i64 c.dr, .int .i64 c.bdr]
def row (c : Cand) : Array Value := #[.int .i64 c.id, .int .i64 c.prio, .int .i64 c.dr, .int .i64 c.bdr]
def zero : Cand := ⟨0, 0, 0, 0⟩
end Cand

def CandsAt (w : World) (B : Nat) (A : Option Addr) (l : List Cand) : Prop := Reads w B 4 A l.length (l.flatMap Cand.cells)

theorem flat4 (l : List Cand) (k : Nat) (h : k < l.length) :
    (l.flatMap Cand.cells)[k * 4]? = some (.int .i64 l[k].id) ∧ (l.flatMap Cand.cells)[k * 4 + 1]? = some (.int .i64 l[k].prio) ∧
    (l.flatMap Cand.cells)[k * 4 + 2]? = some (.int .i64 l[k].dr) ∧ (l.flatMap Cand.cells)[k * 4 + 3]? = some (.int .i64 l[k].bdr) := by
  induction l generalizing k with
  | nil => simp at h
  | cons c l ih =>
    cases k with
    | zero => simp [Cand.cells]
    | succ k =>
      have := ih k (by simpa using h)
      have e : (k + 1) * 4 = k * 4 + 4 := by omega
      simp only [List.flatMap_cons, List.getElem_cons_succ]
      have h4 : c.cells.length = 4 := rfl
      refine ⟨?_, ?_, ?_, ?_⟩
      · rw [List.getElem?_append_right (by omega), h4, show (k + 1) * 4 - 4 = k * 4 by omega]; exact this.1
      · rw [List.getElem?_append_right (by omega), h4, show (k + 1) * 4 + 1 - 4 = k * 4 + 1 by omega]; exact this.2.1
      · rw [List.getElem?_append_right (by omega), h4, show (k + 1) * 4 + 2 - 4 = k * 4 + 2 by omega]; exact this.2.2.1
      · rw [List.getElem?_append_right (by omega), h4, show (k + 1) * 4 + 3 - 4 = k * 4 + 3 by omega]; exact this.2.2.2

theorem CandsAt.at_ {w : World} {B : Nat} {A : Option Addr} {l : List Cand} (h : CandsAt w B A l) (k : Nat) (hk : k < l.length) : ∃ b o, A = some ⟨b, o, none⟩ ∧ b < B ∧
    w.cell? ⟨b, o + k * 4, none⟩ = some (.int .i64 l[k].id) ∧ w.cell? ⟨b, o + k * 4 + 1, none⟩ = some (.int .i64 l[k].prio) ∧
    w.cell? ⟨b, o + k * 4 + 2, none⟩ = some (.int .i64 l[k].dr) ∧ w.cell? ⟨b, o + k * 4 + 3, none⟩ = some (.int .i64 l[k].bdr) := by
  obtain ⟨b, o, e, hb, hc⟩ := h.2 (by omega)
  have hf := flat4 l k hk
  exact ⟨b, o, e, hb, hc _ _ hf.1, hc _ _ hf.2.1, hc _ _ hf.2.2.1, hc _ _ hf.2.2.2⟩

theorem CandsAt.of {w w' : World} {B : Nat} {A : Option Addr} {l : List Cand} (h : CandsAt w B A l) (hb : Below B w w') (hB : B ≤ w'.heap.size) : CandsAt w' w'.heap.size A l :=
  (Reads.below h hb).more hB

theorem CandsAt.more {w : World} {B B' : Nat} {A : Option Addr} {l : List Cand} (h : CandsAt w B A l) (hB : B ≤ B') : CandsAt w B' A l := Reads.more h hB
theorem CandsAt.below {w w' : World} {B : Nat} {A : Option Addr} {l : List Cand} (h : CandsAt w B A l) (hb : Below B w w') : CandsAt w' B A l := Reads.below h hb

/-- A slice of candidates that the call made itself: blocks from B on. -/
def OwnC (w : World) (B : Nat) (v : Value) (l : List Cand) : Prop := w.ownsRow B 130 4 v l.length (l.flatMap Cand.cells)

theorem List.set_getElem?_self' {α : Type} {l : List α} {k : Nat} {x : α} (h : l[k]? = some x) : l.set k x = l := by
  obtain ⟨hk, rfl⟩ := List.getElem?_eq_some_iff.1 h
  exact List.set_getElem_self hk
theorem length_flat (l : List Cand) : (l.flatMap Cand.cells).length = l.length * 4 := by
  induction l with
  | nil => rfl
  | cons c l ih => simp only [List.flatMap_cons, List.length_append, ih, List.length_cons]; simp [Cand.cells]; omega

section
variable {w w' : World} {B : Nat} {v : Value} {l : List Cand}
theorem OwnC.shape (h : OwnC w B v l) : ∃ A cap, v = .slice A l.length cap ∧ CandsAt w w.heap.size A l := by
  have hx := h.1
  rcases h.2 with ⟨rfl, hn⟩ | ⟨g, cap, cur, rfl, hb, hg, hnc, hcm, hcs, ht⟩
  · exact ⟨none, 0, by rw [hn], length_flat l, fun h0 => by omega⟩
  · refine ⟨_, cap, rfl, length_flat l, fun h0 => ⟨g, 0, rfl, (Array.getElem?_eq_some_iff.1 hg).1, fun j u hj => ?_⟩⟩
    have hc := World.ownsRow.cellAt (w := w) (base := B) (e := 130) (size := 4) (g := g) (n := l.length) (cap := cap) (xs := l.flatMap Cand.cells) h j (by
      have := (List.getElem?_eq_some_iff.1 hj).1; rw [length_flat] at this; exact this)
    rw [Nat.zero_add, hc, hj]
theorem OwnC.at_ (h : OwnC w B v l) (k : Nat) (hk : k < l.length) : ∃ g cap, v = .slice (some ⟨g, 0, none⟩) l.length cap ∧ B ≤ g ∧ g < w.heap.size ∧
    w.cell? ⟨g, k * 4, none⟩ = some (.int .i64 l[k].id) ∧ w.cell? ⟨g, k * 4 + 1, none⟩ = some (.int .i64 l[k].prio) ∧
    w.cell? ⟨g, k * 4 + 2, none⟩ = some (.int .i64 l[k].dr) ∧ w.cell? ⟨g, k * 4 + 3, none⟩ = some (.int .i64 l[k].bdr) ∧
    (∀ j, w.frozen? ⟨g, j, none⟩ = false) := by
  have h' := h
  rcases h.2 with ⟨rfl, hn⟩ | ⟨g, cap, cur, rfl, hb, hg, hnc, hcm, hcs, ht⟩
  · omega
  · have hf := flat4 l k hk
    have hc : ∀ j, j < l.length * 4 → w.cell? ⟨g, j, none⟩ = (l.flatMap Cand.cells)[j]? := fun j hj => World.ownsRow.cellAt (w := w) (base := B) (e := 130) (size := 4) h j hj
    refine ⟨g, cap, rfl, hb, (Array.getElem?_eq_some_iff.1 hg).1, ?_, ?_, ?_, ?_, fun j => World.ownsRow.frozenAt (w := w) (base := B) (e := 130) (size := 4) h j⟩
    · rw [hc _ (by omega)]; exact hf.1
    · rw [hc _ (by omega)]; exact hf.2.1
    · rw [hc _ (by omega)]; exact hf.2.2.1
    · rw [hc _ (by omega)]; exact hf.2.2.2
theorem set_flat (l : List Cand) (k : Nat) (c : Cand) (hk : k < l.length) :
    (l.set k c).flatMap Cand.cells = ((((l.flatMap Cand.cells).set (k * 4) (.int .i64 c.id)).set (k * 4 + 1) (.int .i64 c.prio)).set (k * 4 + 2) (.int .i64 c.dr)).set (k * 4 + 3) (.int .i64 c.bdr) := by
  induction l generalizing k with
  | nil => simp at hk
  | cons d l ih =>
    cases k with
    | zero => simp [Cand.cells]
    | succ k =>
      have h := ih k (by simpa using hk)
      simp only [List.set_cons_succ, List.flatMap_cons, h]
      have h4 : d.cells.length = 4 := rfl
      rw [List.set_append_right _ _ (by omega), List.set_append_right _ _ (by omega), List.set_append_right _ _ (by omega), List.set_append_right _ _ (by omega)]
      simp only [h4, show (k + 1) * 4 - 4 = k * 4 by omega, show (k + 1) * 4 + 1 - 4 = k * 4 + 1 by omega, show (k + 1) * 4 + 2 - 4 = k * 4 + 2 by omega, show (k + 1) * 4 + 3 - 4 = k * 4 + 3 by omega]
theorem OwnC.set_ {g cap n : Nat} (h : OwnC w B (.slice (some ⟨g, 0, none⟩) n cap) l) (hn : n = l.length) (k : Nat) (hk : k < l.length) (c : Cand) :
    OwnC ((((w.setCell ⟨g, k * 4, none⟩ (.int .i64 c.id)).setCell ⟨g, k * 4 + 1, none⟩ (.int .i64 c.prio)).setCell ⟨g, k * 4 + 2, none⟩ (.int .i64 c.dr)).setCell ⟨g, k * 4 + 3, none⟩ (.int .i64 c.bdr)) B (.slice (some ⟨g, 0, none⟩) n cap) (l.set k c) := by
  subst hn
  unfold OwnC
  rw [set_flat l k c hk, List.length_set]
  exact ((((World.ownsRow.stored h (k * 4) (.int .i64 c.id)).1.stored (k * 4 + 1) (.int .i64 c.prio)).1.stored (k * 4 + 2) (.int .i64 c.dr)).1.stored (k * 4 + 3) (.int .i64 c.bdr)).1
theorem flat_set2 (l : List Cand) (k : Nat) (x : Int) (hk : k < l.length) : (l.set k { l[k] with dr := x }).flatMap Cand.cells = (l.flatMap Cand.cells).set (k * 4 + 2) (.int .i64 x) := by
  rw [set_flat l k _ hk]
  have hf := flat4 l k hk
  rw [List.set_getElem?_self' hf.1, List.set_getElem?_self' hf.2.1]
  rw [List.set_getElem?_self' (by rw [List.getElem?_set_ne (by omega)]; exact hf.2.2.2)]
theorem flat_set3 (l : List Cand) (k : Nat) (x : Int) (hk : k < l.length) : (l.set k { l[k] with bdr := x }).flatMap Cand.cells = (l.flatMap Cand.cells).set (k * 4 + 3) (.int .i64 x) := by
  rw [set_flat l k _ hk]
  have hf := flat4 l k hk
  rw [List.set_getElem?_self' hf.1, List.set_getElem?_self' hf.2.1, List.set_getElem?_self' hf.2.2.1]
theorem OwnC.set2 {g cap n : Nat} (h : OwnC w B (.slice (some ⟨g, 0, none⟩) n cap) l) (hn : n = l.length) (k : Nat) (hk : k < l.length) (x : Int) :
    OwnC (w.setCell ⟨g, k * 4 + 2, none⟩ (.int .i64 x)) B (.slice (some ⟨g, 0, none⟩) n cap) (l.set k { l[k] with dr := x }) := by
  subst hn
  unfold OwnC
  rw [flat_set2 l k x hk, List.length_set]
  exact (World.ownsRow.stored h (k * 4 + 2) _).1
theorem OwnC.set3 {g cap n : Nat} (h : OwnC w B (.slice (some ⟨g, 0, none⟩) n cap) l) (hn : n = l.length) (k : Nat) (hk : k < l.length) (x : Int) :
    OwnC (w.setCell ⟨g, k * 4 + 3, none⟩ (.int .i64 x)) B (.slice (some ⟨g, 0, none⟩) n cap) (l.set k { l[k] with bdr := x }) := by
  subst hn
  unfold OwnC
  rw [flat_set3 l k x hk, List.length_set]
  exact (World.ownsRow.stored h (k * 4 + 3) _).1
theorem OwnC.c4 {g cap n : Nat} (h : OwnC w B (.slice (some ⟨g, 0, none⟩) n cap) l) (k : Nat) (hk : k < l.length) (c : Cand) (hc : l[k] = c) :
    w.cell? ⟨g, k * 4, none⟩ = some (.int .i64 c.id) ∧ w.cell? ⟨g, k * 4 + 1, none⟩ = some (.int .i64 c.prio) ∧ w.cell? ⟨g, k * 4 + 2, none⟩ = some (.int .i64 c.dr) ∧ w.cell? ⟨g, k * 4 + 3, none⟩ = some (.int .i64 c.bdr) ∧
    w.frozen? ⟨g, k * 4, none⟩ = false ∧ w.frozen? ⟨g, k * 4 + 1, none⟩ = false ∧ w.frozen? ⟨g, k * 4 + 2, none⟩ = false ∧ w.frozen? ⟨g, k * 4 + 3, none⟩ = false ∧ g < w.heap.size ∧ B ≤ g := by
  subst hc
  obtain ⟨g', cap', hv, h1, h2, h3, h4, h5, h6, h7⟩ := h.at_ k hk
  have e : g = g' := by simp only [Value.slice.injEq, Option.some.injEq, Addr.mk.injEq] at hv; exact hv.1.1
  subst e
  exact ⟨h3, h4, h5, h6, h7 _, h7 _, h7 _, h7 _, h2, h1⟩
theorem OwnC.len {g cap n : Nat} (h : OwnC w B (.slice (some ⟨g, 0, none⟩) n cap) l) : n = l.length := by
  obtain ⟨A, cap', e, _⟩ := h.shape
  simp only [Value.slice.injEq] at e
  exact e.2.1
theorem OwnC.kept {row : Option Nat} (h : OwnC w B v l) (hg : w.grownBy w' row) (hne : v.ownBlock = none ∨ v.ownBlock ≠ row) : OwnC w' B v l := World.ownsRow.kept h hg hne
theorem OwnC.alloc (h : OwnC w B v l) (o : Obj) : OwnC (w.alloc o) B v l := World.ownsRow.alloc h o
theorem OwnC.drew (h : OwnC w B v l) : OwnC w.drew B v l := h
theorem OwnC.drewN (h : OwnC w B v l) (n : Nat) : OwnC (w.drewN n) B v l := h
theorem OwnC.below (h : OwnC w B v l) (hb : Below w.heap.size w w') : OwnC w' B v l :=
  h.kept (row := none) ⟨hb.os, hb.tape, hb.output, hb.size, fun k hk _ => hb.block k hk⟩ (by cases hv : v.ownBlock <;> simp)
theorem OwnC.app {wX : World} {B' : Nat} (h : OwnC w B' v l) (hx : Below w.heap.size w wX) (hg : wX.grownBy w' v.ownBlock) (hB : B' ≤ w.heap.size) : Below B' w w' :=
  (hx.mono hB).grown hg (Nat.le_trans hB hx.size) (fun k hk => (World.ownsRow.lt h k hk).1)
theorem OwnC.lower {B' : Nat} (h : OwnC w B v l) (hB : B' ≤ B) : OwnC w B' v l := by
  refine ⟨h.1, ?_⟩
  rcases h.2 with hn | ⟨g, cap, cur, e, hb, r⟩
  · exact .inl hn
  · exact .inr ⟨g, cap, cur, e, Nat.le_trans hB hb, r⟩
end

end Go.Proofs.Ytfhikkmgclkcdaa
