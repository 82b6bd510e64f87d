/-
  Base words of this family: lists of structs in memory.
-/
import Derived.WalkKit
import Derived.WalkSpells
import Derived.WalkLawsBesides
import Derived.Lib.Hide
import Derived.Deep.QuietTactic
import Derived.BigQuiet
import Derived.StillTailTactics
import Derived.Deep.Light
namespace Go.Proofs.Ytkaeedffhmlomaa
open Go.RowKit

theorem below_drewN {B : Nat} {a w : World} (h : Below B a w) (n : Nat) : Below B a (w.drewN n) := ⟨h.os, h.tape, h.output, h.size, h.block⟩

/-- A region that draws its order, whose first n operations only read: one walk, in a world that is as the one before. -/
theorem wp_draw_tail {P : Program} {id : Nat} {Q : Exit → Act → World → Prop} {a : Act} {w : World} {l : List Oper} (n : Nat) (hm : P.follows .mixedOrders = true) (hB : Region.lexTailB .any l.toArray n = true)
    (h : ∀ w2 : World, Hid (w2 = w.drew) → (∀ p, w2.cell? p = w.cell? p) → (∀ p, w2.frozen? p = w.frozen? p) → w.heap.size ≤ w2.heap.size → w2.heap.size ≤ w.heap.size →
      wpStill P l.toArray w2 (fun a' => wpList P l.toArray Q (l.drop n) a' w2) (l.take n) a) : (Code.region id l.toArray true).wp P Q a w :=
  wp_region_still_tail n hm hB (h w.drew rfl (fun _ => rfl) (fun _ => rfl) (Nat.le_refl _) (Nat.le_refl _))

/-- The cells of a slice of n elements of 'size' cells each, in blocks below B. -/
def Reads (w : World) (B size : Nat) (A : Option Addr) (n : Nat) (xs : List Value) : Prop :=
  xs.length = n * size ∧ (0 < n → ∃ b o, A = some ⟨b, o, none⟩ ∧ b < B ∧ ∀ j u, xs[j]? = some u → w.cell? ⟨b, o + j, none⟩ = some u)

section
variable {w w' : World} {B B' size n : Nat} {A : Option Addr} {xs : List Value}
theorem Reads.keep (h : Reads w B size A n xs) (hk : ∀ p : Addr, p.block < B → w'.cell? p = w.cell? p) : Reads w' B size A n xs :=
  ⟨h.1, fun hn => by
    obtain ⟨b, o, e, hb, hc⟩ := h.2 hn
    exact ⟨b, o, e, hb, fun j u hu => (hk _ hb).trans (hc j u hu)⟩⟩
theorem Reads.more (h : Reads w B size A n xs) (hB : B ≤ B') : Reads w B' size A n xs :=
  ⟨h.1, fun hn => by
    obtain ⟨b, o, e, hb, hc⟩ := h.2 hn
    exact ⟨b, o, e, by omega, hc⟩⟩
theorem Reads.below (h : Reads w B size A n xs) (hb : Below B w w') : Reads w' B size A n xs := h.keep fun _ hp => hb.cell hp
end

/-- Block g is just the cells cs of element type t, none frozen. -/
def Blk (w : World) (g : Nat) (t : TypeId) (cs : Array Value) : Prop := w.heap[g]? = some (.cells cs t (0, 0))

section
variable {w w' : World} {g : Nat} {t : TypeId} {cs : Array Value}
theorem Blk.lt (h : Blk w g t cs) : g < w.heap.size := by
  rcases Nat.lt_or_ge g w.heap.size with hlt | hge
  · exact hlt
  · unfold Blk at h; rw [Array.getElem?_eq_none hge] at h; cases h
theorem Blk.cell (h : Blk w g t cs) (i : Nat) : w.cell? ⟨g, i, none⟩ = cs[i]? := cell_of_row w g i cs t (0, 0) h
theorem Blk.frozen (h : Blk w g t cs) (i : Nat) : w.frozen? ⟨g, i, none⟩ = false := by
  unfold Blk at h
  simp [World.frozen?, h]
theorem Blk.new (w : World) (t : TypeId) (cs : Array Value) : Blk (w.alloc (.cells cs t)) w.heap.size t cs := heap_alloc_new w _
theorem Blk.drew (h : Blk w g t cs) : Blk w.drew g t cs := h
theorem Blk.drewN (h : Blk w g t cs) (n : Nat) : Blk (w.drewN n) g t cs := h
theorem Blk.alloc (h : Blk w g t cs) (o : Obj) : Blk (w.alloc o) g t cs := (Below.heap_alloc w o g h.lt).trans h
theorem Blk.set_ (h : Blk w g t cs) (i : Nat) (u : Value) : Blk (w.setCell ⟨g, i, none⟩ u) g t (cs.setIfInBounds i u) := by
  unfold Blk at h ⊢
  simp [World.setCell, Array.getElem?_modify, h]
theorem Blk.far (h : Blk w g t cs) {p : Addr} (hp : g ≠ p.block) (u : Value) : Blk (w.setCell p u) g t cs := (Below.heap_setCell w p u g hp).trans h
theorem Blk.below {B : Nat} (h : Blk w g t cs) (hb : Below B w w') (hg : g < B) : Blk w' g t cs := (hb.block g hg).trans h
theorem Blk.grown {row : Option Nat} (h : Blk w g t cs) (hb : w.grownBy w' row) (hg : some g ≠ row) : Blk w' g t cs := (hb.block g h.lt hg).trans h
theorem Blk.cells4 {a b c d : Value} (h : Blk w g t #[a, b, c, d]) : w.cell? ⟨g, 0, none⟩ = some a ∧ w.cell? ⟨g, 1, none⟩ = some b ∧ w.cell? ⟨g, 2, none⟩ = some c ∧ w.cell? ⟨g, 3, none⟩ = some d ∧
    w.frozen? ⟨g, 0, none⟩ = false ∧ w.frozen? ⟨g, 1, none⟩ = false ∧ w.frozen? ⟨g, 2, none⟩ = false ∧ w.frozen? ⟨g, 3, none⟩ = false :=
  ⟨h.cell 0, h.cell 1, h.cell 2, h.cell 3, h.frozen 0, h.frozen 1, h.frozen 2, h.frozen 3⟩
theorem news4 (w : World) (a b c d : Value) (t : TypeId) (g : Nat) (hg : g = w.heap.size) : ∀ j u, [a, b, c, d][j]? = some u → (w.alloc (.cells #[a, b, c, d] t)).cell? ((⟨g, 0, none⟩ : Addr).add j) = some u := by
  intro j u hu
  subst hg
  rw [show (⟨w.heap.size, 0, none⟩ : Addr).add j = ⟨w.heap.size, j, none⟩ by unfold Addr.add; split <;> simp_all]
  rw [(Blk.new w t #[a, b, c, d]).cell j]
  simpa using hu
theorem ones4 (a b c d : Int) : ∀ u ∈ [Value.int .i64 a, Value.int .i64 b, Value.int .i64 c, Value.int .i64 d], u.oneCell' = true := by
  intro u hu
  simp at hu
  rcases hu with rfl | rfl | rfl | rfl <;> rfl
theorem Blk.cells2 {a b : Value} (h : Blk w g t #[a, b]) : w.cell? ⟨g, 0, none⟩ = some a ∧ w.cell? ⟨g, 1, none⟩ = some b ∧ w.frozen? ⟨g, 0, none⟩ = false ∧ w.frozen? ⟨g, 1, none⟩ = false :=
  ⟨h.cell 0, h.cell 1, h.frozen 0, h.frozen 1⟩
theorem Blk.set4 {a b c d a' b' c' d' : Value} (h : Blk w g t #[a, b, c, d]) :
    Blk ((((w.setCell ⟨g, 0, none⟩ a').setCell ⟨g, 1, none⟩ b').setCell ⟨g, 2, none⟩ c').setCell ⟨g, 3, none⟩ d') g t #[a', b', c', d'] := by
  have := (((h.set_ 0 a').set_ 1 b').set_ 2 c').set_ 3 d'
  simpa using this
theorem Blk.to {cs' : Array Value} (h : Blk w g t cs) (e : cs = cs') : Blk w g t cs' := e ▸ h
end

structure Cand where
  id : Int
  prio : Int
  dr : Int
  bdr : Int
deriving DecidableEq

namespace Cand
def cells (c : Cand) : List Value := [.int .i64 c.id, .int .i64 c.prio, .int .i64 c.dr, .int .i64 c.bdr]
def val (c : Cand) : Value := .agg #[.int .i64 c.id, .int .i64 c.prio, .int .i64 c.dr, .int .i64 c.bdr]
def row (c : Cand) : Array Value := #[.int .i64 c.id, .int .i64 c.prio, .int .i64 c.dr, .int .i64 c.bdr]
def zero : Cand := ⟨0, 0, 0, 0⟩
end Cand

def CandsAt (w : World) (B : Nat) (A : Option Addr) (l : List Cand) : Prop := Reads w B 4 A l.length (l.flatMap Cand.cells)

theorem flat4 (l : List Cand) (k : Nat) (h : k < l.length) :
    (l.flatMap Cand.cells)[k * 4]? = some (.int .i64 l[k].id) ∧ (l.flatMap Cand.cells)[k * 4 + 1]? = some (.int .i64 l[k].prio) ∧
    (l.flatMap Cand.cells)[k * 4 + 2]? = some (.int .i64 l[k].dr) ∧ (l.flatMap Cand.cells)[k * 4 + 3]? = some (.int .i64 l[k].bdr) := by
  induction l generalizing k with
  | nil => simp at h
  | cons c l ih =>
    cases k with
    | zero => simp [Cand.cells]
    | succ k =>
      have := ih k (by simpa using h)
      have e : (k + 1) * 4 = k * 4 + 4 := by omega
      simp only [List.flatMap_cons, List.getElem_cons_succ]
      have h4 : c.cells.length = 4 := rfl
      refine ⟨?_, ?_, ?_, ?_⟩
      · rw [List.getElem?_append_right (by omega), h4, show (k + 1) * 4 - 4 = k * 4 by omega]; exact this.1
      · rw [List.getElem?_append_right (by omega), h4, show (k + 1) * 4 + 1 - 4 = k * 4 + 1 by omega]; exact this.2.1
      · rw [List.getElem?_append_right (by omega), h4, show (k + 1) * 4 + 2 - 4 = k * 4 + 2 by omega]; exact this.2.2.1
      · rw [List.getElem?_append_right (by omega), h4, show (k + 1) * 4 + 3 - 4 = k * 4 + 3 by omega]; exact this.2.2.2

theorem CandsAt.at_ {w : World} {B : Nat} {A : Option Addr} {l : List Cand} (h : CandsAt w B A l) (k : Nat) (hk : k < l.length) : ∃ b o, A = some ⟨b, o, none⟩ ∧ b < B ∧
    w.cell? ⟨b, o + k * 4, none⟩ = some (.int .i64 l[k].id) ∧ w.cell? ⟨b, o + k * 4 + 1, none⟩ = some (.int .i64 l[k].prio) ∧
    w.cell? ⟨b, o + k * 4 + 2, none⟩ = some (.int .i64 l[k].dr) ∧ w.cell? ⟨b, o + k * 4 + 3, none⟩ = some (.int .i64 l[k].bdr) := by
  obtain ⟨b, o, e, hb, hc⟩ := h.2 (by omega)
  have hf := flat4 l k hk
  exact ⟨b, o, e, hb, hc _ _ hf.1, hc _ _ hf.2.1, hc _ _ hf.2.2.1, hc _ _ hf.2.2.2⟩

theorem CandsAt.of {w w' : World} {B : Nat} {A : Option Addr} {l : List Cand} (h : CandsAt w B A l) (hb : Below B w w') (hB : B ≤ w'.heap.size) : CandsAt w' w'.heap.size A l :=
  (Reads.below h hb).more hB

theorem CandsAt.more {w : World} {B B' : Nat} {A : Option Addr} {l : List Cand} (h : CandsAt w B A l) (hB : B ≤ B') : CandsAt w B' A l := Reads.more h hB
theorem CandsAt.below {w w' : World} {B : Nat} {A : Option Addr} {l : List Cand} (h : CandsAt w B A l) (hb : Below B w w') : CandsAt w' B A l := Reads.below h hb

/-- A slice of candidates that the call made itself: blocks from B on. -/
def OwnC (w : World) (B : Nat) (v : Value) (l : List Cand) : Prop := w.ownsRow B 33 4 v l.length (l.flatMap Cand.cells)

theorem List.set_getElem?_self' {α : Type} {l : List α} {k : Nat} {x : α} (h : l[k]? = some x) : l.set k x = l := by
  obtain ⟨hk, rfl⟩ := List.getElem?_eq_some_iff.1 h
  exact List.set_getElem_self hk
theorem length_flat (l : List Cand) : (l.flatMap Cand.cells).length = l.length * 4 := by
  induction l with
  | nil => rfl
  | cons c l ih => simp only [List.flatMap_cons, List.length_append, ih, List.length_cons]; simp [Cand.cells]; omega

section
variable {w w' : World} {B : Nat} {v : Value} {l : List Cand}
theorem OwnC.shape (h : OwnC w B v l) : ∃ A cap, v = .slice A l.length cap ∧ CandsAt w w.heap.size A l := by
  have hx := h.1
  rcases h.2 with ⟨rfl, hn⟩ | ⟨g, cap, cur, rfl, hb, hg, hnc, hcm, hcs, ht⟩
  · exact ⟨none, 0, by rw [hn], length_flat l, fun h0 => by omega⟩
  · refine ⟨_, cap, rfl, length_flat l, fun h0 => ⟨g, 0, rfl, (Array.getElem?_eq_some_iff.1 hg).1, fun j u hj => ?_⟩⟩
    have hc := World.ownsRow.cellAt (w := w) (base := B) (e := 33) (size := 4) (g := g) (n := l.length) (cap := cap) (xs := l.flatMap Cand.cells) h j (by
      have := (List.getElem?_eq_some_iff.1 hj).1; rw [length_flat] at this; exact this)
    rw [Nat.zero_add, hc, hj]
theorem OwnC.at_ (h : OwnC w B v l) (k : Nat) (hk : k < l.length) : ∃ g cap, v = .slice (some ⟨g, 0, none⟩) l.length cap ∧ B ≤ g ∧ g < w.heap.size ∧
    w.cell? ⟨g, k * 4, none⟩ = some (.int .i64 l[k].id) ∧ w.cell? ⟨g, k * 4 + 1, none⟩ = some (.int .i64 l[k].prio) ∧
    w.cell? ⟨g, k * 4 + 2, none⟩ = some (.int .i64 l[k].dr) ∧ w.cell? ⟨g, k * 4 + 3, none⟩ = some (.int .i64 l[k].bdr) ∧
    (∀ j, w.frozen? ⟨g, j, none⟩ = false) := by
  have h' := h
  rcases h.2 with ⟨rfl, hn⟩ | ⟨g, cap, cur, rfl, hb, hg, hnc, hcm, hcs, ht⟩
  · omega
  · have hf := flat4 l k hk
    have hc : ∀ j, j < l.length * 4 → w.cell? ⟨g, j, none⟩ = (l.flatMap Cand.cells)[j]? := fun j hj => World.ownsRow.cellAt (w := w) (base := B) (e := 33) (size := 4) h j hj
    refine ⟨g, cap, rfl, hb, (Array.getElem?_eq_some_iff.1 hg).1, ?_, ?_, ?_, ?_, fun j => World.ownsRow.frozenAt (w := w) (base := B) (e := 33) (size := 4) h j⟩
    · rw [hc _ (by omega)]; exact hf.1
    · rw [hc _ (by omega)]; exact hf.2.1
    · rw [hc _ (by omega)]; exact hf.2.2.1
    · rw [hc _ (by omega)]; exact hf.2.2.2
theorem set_flat (l : List Cand) (k : Nat) (c : Cand) (hk : k < l.length) :
    (l.set k c).flatMap Cand.cells = ((((l.flatMap Cand.cells).set (k * 4) (.int .i64 c.id)).set (k * 4 + 1) (.int .i64 c.prio)).set (k * 4 + 2) (.int .i64 c.dr)).set (k * 4 + 3) (.int .i64 c.bdr) := by
  induction l generalizing k with
  | nil => simp at hk
  | cons d l ih =>
    cases k with
    | zero => simp [Cand.cells]
    | succ k =>
      have h := ih k (by simpa using hk)
      simp only [List.set_cons_succ, List.flatMap_cons, h]
      have h4 : d.cells.length = 4 := rfl
      rw [List.set_append_right _ _ (by omega), List.set_append_right _ _ (by omega), List.set_append_right _ _ (by omega), List.set_append_right _ _ (by omega)]
      simp only [h4, show (k + 1) * 4 - 4 = k * 4 by omega, show (k + 1) * 4 + 1 - 4 = k * 4 + 1 by omega, show (k + 1) * 4 + 2 - 4 = k * 4 + 2 by omega, show (k + 1) * 4 + 3 - 4 = k * 4 + 3 by omega]
theorem OwnC.set_ {g cap n : Nat} (h : OwnC w B (.slice (some ⟨g, 0, none⟩) n cap) l) (hn : n = l.length) (k : Nat) (hk : k < l.length) (c : Cand) :
    OwnC ((((w.setCell ⟨g, k * 4, none⟩ (.int .i64 c.id)).setCell ⟨g, k * 4 + 1, none⟩ (.int .i64 c.prio)).setCell ⟨g, k * 4 + 2, none⟩ (.int .i64 c.dr)).setCell ⟨g, k * 4 + 3, none⟩ (.int .i64 c.bdr)) B (.slice (some ⟨g, 0, none⟩) n cap) (l.set k c) := by
  subst hn
  unfold OwnC
  rw [set_flat l k c hk, List.length_set]
  exact ((((World.ownsRow.stored h (k * 4) (.int .i64 c.id)).1.stored (k * 4 + 1) (.int .i64 c.prio)).1.stored (k * 4 + 2) (.int .i64 c.dr)).1.stored (k * 4 + 3) (.int .i64 c.bdr)).1
theorem flat_set2 (l : List Cand) (k : Nat) (x : Int) (hk : k < l.length) : (l.set k { l[k] with dr := x }).flatMap Cand.cells = (l.flatMap Cand.cells).set (k * 4 + 2) (.int .i64 x) := by
  rw [set_flat l k _ hk]
  have hf := flat4 l k hk
  rw [List.set_getElem?_self' hf.1, List.set_getElem?_self' hf.2.1]
  rw [List.set_getElem?_self' (by rw [List.getElem?_set_ne (by omega)]; exact hf.2.2.2)]
theorem flat_set3 (l : List Cand) (k : Nat) (x : Int) (hk : k < l.length) : (l.set k { l[k] with bdr := x }).flatMap Cand.cells = (l.flatMap Cand.cells).set (k * 4 + 3) (.int .i64 x) := by
  rw [set_flat l k _ hk]
  have hf := flat4 l k hk
  rw [List.set_getElem?_self' hf.1, List.set_getElem?_self' hf.2.1, List.set_getElem?_self' hf.2.2.1]
theorem OwnC.set2 {g cap n : Nat} (h : OwnC w B (.slice (some ⟨g, 0, none⟩) n cap) l) (hn : n = l.length) (k : Nat) (hk : k < l.length) (x : Int) :
    OwnC (w.setCell ⟨g, k * 4 + 2, none⟩ (.int .i64 x)) B (.slice (some ⟨g, 0, none⟩) n cap) (l.set k { l[k] with dr := x }) := by
  subst hn
  unfold OwnC
  rw [flat_set2 l k x hk, List.length_set]
  exact (World.ownsRow.stored h (k * 4 + 2) _).1
theorem OwnC.set3 {g cap n : Nat} (h : OwnC w B (.slice (some ⟨g, 0, none⟩) n cap) l) (hn : n = l.length) (k : Nat) (hk : k < l.length) (x : Int) :
    OwnC (w.setCell ⟨g, k * 4 + 3, none⟩ (.int .i64 x)) B (.slice (some ⟨g, 0, none⟩) n cap) (l.set k { l[k] with bdr := x }) := by
  subst hn
  unfold OwnC
  rw [flat_set3 l k x hk, List.length_set]
  exact (World.ownsRow.stored h (k * 4 + 3) _).1
theorem OwnC.c4 {g cap n : Nat} (h : OwnC w B (.slice (some ⟨g, 0, none⟩) n cap) l) (k : Nat) (hk : k < l.length) (c : Cand) (hc : l[k] = c) :
    w.cell? ⟨g, k * 4, none⟩ = some (.int .i64 c.id) ∧ w.cell? ⟨g, k * 4 + 1, none⟩ = some (.int .i64 c.prio) ∧ w.cell? ⟨g, k * 4 + 2, none⟩ = some (.int .i64 c.dr) ∧ w.cell? ⟨g, k * 4 + 3, none⟩ = some (.int .i64 c.bdr) ∧
    w.frozen? ⟨g, k * 4, none⟩ = false ∧ w.frozen? ⟨g, k * 4 + 1, none⟩ = false ∧ w.frozen? ⟨g, k * 4 + 2, none⟩ = false ∧ w.frozen? ⟨g, k * 4 + 3, none⟩ = false ∧ g < w.heap.size ∧ B ≤ g := by
  subst hc
  obtain ⟨g', cap', hv, h1, h2, h3, h4, h5, h6, h7⟩ := h.at_ k hk
  have e : g = g' := by simp only [Value.slice.injEq, Option.some.injEq, Addr.mk.injEq] at hv; exact hv.1.1
  subst e
  exact ⟨h3, h4, h5, h6, h7 _, h7 _, h7 _, h7 _, h2, h1⟩
theorem OwnC.len {g cap n : Nat} (h : OwnC w B (.slice (some ⟨g, 0, none⟩) n cap) l) : n = l.length := by
  obtain ⟨A, cap', e, _⟩ := h.shape
  simp only [Value.slice.injEq] at e
  exact e.2.1
theorem OwnC.kept {row : Option Nat} (h : OwnC w B v l) (hg : w.grownBy w' row) (hne : v.ownBlock = none ∨ v.ownBlock ≠ row) : OwnC w' B v l := World.ownsRow.kept h hg hne
theorem OwnC.alloc (h : OwnC w B v l) (o : Obj) : OwnC (w.alloc o) B v l := World.ownsRow.alloc h o
theorem OwnC.drew (h : OwnC w B v l) : OwnC w.drew B v l := h
theorem OwnC.drewN (h : OwnC w B v l) (n : Nat) : OwnC (w.drewN n) B v l := h
theorem OwnC.below (h : OwnC w B v l) (hb : Below w.heap.size w w') : OwnC w' B v l :=
  h.kept (row := none) ⟨hb.os, hb.tape, hb.output, hb.size, fun k hk _ => hb.block k hk⟩ (by cases hv : v.ownBlock <;> simp)
theorem OwnC.app {wX : World} {B' : Nat} (h : OwnC w B' v l) (hx : Below w.heap.size w wX) (hg : wX.grownBy w' v.ownBlock) (hB : B' ≤ w.heap.size) : Below B' w w' :=
  (hx.mono hB).grown hg (Nat.le_trans hB hx.size) (fun k hk => (World.ownsRow.lt h k hk).1)
theorem OwnC.lower {B' : Nat} (h : OwnC w B v l) (hB : B' ≤ B) : OwnC w B' v l := by
  refine ⟨h.1, ?_⟩
  rcases h.2 with hn | ⟨g, cap, cur, e, hb, r⟩
  · exact .inl hn
  · exact .inr ⟨g, cap, cur, e, Nat.le_trans hB hb, r⟩
end

end Go.Proofs.Ytkaeedffhmlomaa
