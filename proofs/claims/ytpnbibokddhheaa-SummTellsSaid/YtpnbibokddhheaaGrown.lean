/-
  What grew, and what was kept: worlds one behind the other; rows of keys.
-/
import Derived.Test.YtpnbibokddhheaaKyThree
import Derived.Test.YtpnbibokddhheaaOwnR
namespace Go.Proofs.Ytpnbibokddhheaa
open Go.RowKit

/-- what grew behind draws -/
theorem grown_drewN {w w' : World} {n : Nat} {row : Option Nat} (h : (w.drewN n).grownBy w' row) : w.grownBy w' row := ⟨h.os, h.tape, h.output, h.size, h.block⟩
theorem grown_alloc {w w' : World} {o : Obj} {row : Option Nat} (h : (w.alloc o).grownBy w' row) : w.grownBy w' row :=
  ⟨h.os, h.tape, h.output, by have := h.size; simp at this; omega, fun i hi hne => (h.block i (by simp; omega) hne).trans (Below.heap_alloc w o i hi)⟩
theorem grown_below {w w' w'' : World} {row : Option Nat} (h : w.grownBy w' row) (hb : Below w'.heap.size w' w'') : w.grownBy w'' row := only_below h hb h.size
theorem below_grown {w w' w'' : World} {row : Option Nat} (hb : Below w.heap.size w w') (h : w'.grownBy w'' row) : w.grownBy w'' row :=
  ⟨h.os.trans hb.os, h.tape.trans hb.tape, h.output.trans hb.output, Nat.le_trans hb.size h.size, fun i hi hne => (h.block i (Nat.lt_of_lt_of_le hi hb.size) hne).trans (hb.block i hi)⟩
theorem grown_trans {a c d : World} {row : Option Nat} (h : a.grownBy c row) (k : c.grownBy d row) : a.grownBy d row :=
  ⟨k.os.trans h.os, k.tape.trans h.tape, k.output.trans h.output, Nat.le_trans h.size k.size, fun i hi hne => (k.block i (Nat.lt_of_lt_of_le hi h.size) hne).trans (h.block i hi hne)⟩

theorem row_k3 {w : World} {B : Nat} {A : Option Addr} {l : List K3} (h : RowsAt 3 K3.cells w B A l) (k : Nat) (hk : k < l.length) :
    ∃ b o, A = some ⟨b, o, none⟩ ∧ w.cell? ⟨b, o + k * 3, none⟩ = some (.int .i64 l[k].kind) ∧ w.cell? ⟨b, o + k * 3 + 1, none⟩ = some (.int .i64 l[k].id) ∧ w.cell? ⟨b, o + k * 3 + 2, none⟩ = some (.int .i64 l[k].adv) := by
  obtain ⟨b, o, e, _, hc⟩ := h (by omega)
  exact ⟨b, o, e, by simpa using hc k hk 0 _ (by omega) rfl, hc k hk 1 _ (by omega) rfl, hc k hk 2 _ (by omega) rfl⟩

theorem row_k3_at {w : World} {B g o : Nat} {l : List K3} (h : RowsAt 3 K3.cells w B (some ⟨g, o, none⟩) l) (k : Nat) (hk : k < l.length) :
    w.cell? ⟨g, o + k * 3, none⟩ = some (.int .i64 l[k].kind) ∧ w.cell? ⟨g, o + k * 3 + 1, none⟩ = some (.int .i64 l[k].id) ∧ w.cell? ⟨g, o + k * 3 + 2, none⟩ = some (.int .i64 l[k].adv) := by
  obtain ⟨b0, o0, e, h1⟩ := row_k3 h k hk
  injection e with e
  injection e with e1 e2
  subst e1 e2
  exact h1
theorem rows_grown {α : Type} {C : Nat} {cells : α → List Value} {w : World} {B b : Nat} {A : Option Addr} {M : List α} (h : RowsAt C cells w B A M) (hB : B ≤ w.heap.size) (hne : ∀ g o, A = some ⟨g, o, none⟩ → g < B → g ≠ b) : ∀ W, w.grownBy W (some b) → RowsAt C cells W B A M := by
  intro W hg h0
  obtain ⟨b1, o1, e, hb1, hc⟩ := h h0
  refine ⟨b1, o1, e, hb1, fun k hk i u hi hu => ?_⟩
  have := hg.block b1 (by omega) (fun e2 => hne b1 o1 e hb1 (by injection e2))
  rw [← hc k hk i u hi hu]
  simp [World.cell?, this]

/-- nothing old has turned but the pointer's block and a row -/
structure Kept2 (w w' : World) (q : Nat) (row : Option Nat) : Prop where
  os : w'.os = w.os
  tape : w'.tape = w.tape
  output : w'.output = w.output
  size : w.heap.size ≤ w'.heap.size
  block : ∀ i, i < w.heap.size → i ≠ q → some i ≠ row → w'.heap[i]? = w.heap[i]?
section
variable {w w' w'' : World} {q : Nat} {row : Option Nat}
theorem Kept2.refl (w : World) (q : Nat) (row : Option Nat) : Kept2 w w q row := ⟨rfl, rfl, rfl, Nat.le_refl _, fun _ _ _ _ => rfl⟩
theorem Kept2.keep (h : Kept2 w w' q row) (hb : Below w'.heap.size w' w'') : Kept2 w w'' q row :=
  ⟨hb.os.trans h.os, hb.tape.trans h.tape, hb.output.trans h.output, Nat.le_trans h.size hb.size, fun i hi h1 h2 => (hb.block i (Nat.lt_of_lt_of_le hi h.size)).trans (h.block i hi h1 h2)⟩
theorem Kept2.grown {r2 : Option Nat} (h : Kept2 w w' q row) (hg : w'.grownBy w'' r2) (hr : ∀ g, r2 = some g → row = some g ∨ w.heap.size ≤ g) : Kept2 w w'' q row :=
  ⟨hg.os.trans h.os, hg.tape.trans h.tape, hg.output.trans h.output, Nat.le_trans h.size hg.size, fun i hi h1 h2 => (hg.block i (Nat.lt_of_lt_of_le hi h.size) (fun e => by
    rcases hr i e.symm with h3 | h3
    · exact h2 h3.symm
    · omega)).trans (h.block i hi h1 h2)⟩
theorem Kept2.set_ (h : Kept2 w w' q row) {p : Addr} (hp : p.block = q) (u : Value) : Kept2 w (w'.setCell p u) q row :=
  ⟨h.os, h.tape, h.output, by simpa [World.setCell] using h.size, fun i hi h1 h2 => (Below.heap_setCell w' p u i (by rintro rfl; exact h1 hp)).trans (h.block i hi h1 h2)⟩
theorem Kept2.rows {α : Type} {C : Nat} {cells : α → List Value} {B : Nat} {A : Option Addr} {M : List α} (h : RowsAt C cells w B A M) (hB : B ≤ w.heap.size) (hne : ∀ g o, A = some ⟨g, o, none⟩ → g ≠ q ∧ some g ≠ row) (hk : Kept2 w w' q row) : RowsAt C cells w' B A M := by
  intro h0
  obtain ⟨b1, o1, e, hb1, hc⟩ := h h0
  refine ⟨b1, o1, e, hb1, fun k hk' i u hi hu => ?_⟩
  have := hk.block b1 (by omega) (hne b1 o1 e).1 (hne b1 o1 e).2
  rw [← hc k hk' i u hi hu]
  simp [World.cell?, this]
end
theorem row_k3b {w : World} {B : Nat} {A : Option Addr} {l : List K3} (h : RowsAt 3 K3.cells w B A l) (k : Nat) (hk : k < l.length) :
    ∃ b o, A = some ⟨b, o, none⟩ ∧ b < B ∧ w.cell? ⟨b, o + k * 3, none⟩ = some (.int .i64 l[k].kind) ∧ w.cell? ⟨b, o + k * 3 + 1, none⟩ = some (.int .i64 l[k].id) ∧ w.cell? ⟨b, o + k * 3 + 2, none⟩ = some (.int .i64 l[k].adv) := by
  obtain ⟨b, o, e, hb, hc⟩ := h (by omega)
  exact ⟨b, o, e, hb, by simpa using hc k hk 0 _ (by omega) rfl, hc k hk 1 _ (by omega) rfl, hc k hk 2 _ (by omega) rfl⟩
theorem OwnR.shape2 {α : Type} {e : TypeId} {C : Nat} {cells : α → List Value} {w : World} {B : Nat} {v : Value} {L : List α} (h : OwnR e C cells w B v L) : (v = .slice none 0 0 ∧ L = []) ∨ ∃ g cap, v = .slice (some ⟨g, 0, none⟩) L.length cap ∧ L.length ≤ cap := by
  rcases h.2 with ⟨rfl, hn⟩ | ⟨g, cap, cur, rfl, _, _, hnc, _⟩
  · exact .inl ⟨rfl, List.eq_nil_of_length_eq_zero hn⟩
  · exact .inr ⟨g, cap, rfl, hnc⟩

end Go.Proofs.Ytpnbibokddhheaa
