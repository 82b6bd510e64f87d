/-
  append of one number onto a row of numbers of the call's own.
-/
import Derived.Test.YtpnbibokddhheaaProg
import Derived.Test.YtpnbibokddhheaaAppAny
import Derived.Test.YtpnbibokddhheaaMem
namespace Go.Proofs.Ytpnbibokddhheaa
open Go.RowKit

theorem Blk.size {w : World} {g : Nat} {t : TypeId} {cs : Array Value} (o : w.heap.size = g) : Blk (w.alloc (.cells cs t)) g t cs := by rw [← o]; exact Blk.new w t cs
theorem infoInt : (Try.prog.info? 3).map (fun i => (i.zero, i.size, i.bytes)) = some (some (.int .i64 0), 1, 8) := by kernel_rfl
def intsOf (l : List Int) : List Value := l.map (Value.int .i64)
/-- A slice of numbers that the call made itself: blocks from B on. -/
def OwnI (w : World) (B : Nat) (v : Value) (l : List Int) : Prop := w.ownsRow B 3 1 v l.length (intsOf l)
theorem OwnI.nil (w : World) (B : Nat) : OwnI w B (.slice none 0 0) [] := ⟨rfl, .inl ⟨rfl, rfl⟩⟩
section
variable {w w' : World} {B : Nat} {v : Value} {l : List Int}
theorem OwnI.kept {row : Option Nat} (h : OwnI w B v l) (hg : w.grownBy w' row) (hne : v.ownBlock = none ∨ v.ownBlock ≠ row) : OwnI w' B v l := World.ownsRow.kept h hg hne
theorem OwnI.alloc (h : OwnI w B v l) (o : Obj) : OwnI (w.alloc o) B v l := World.ownsRow.alloc h o
theorem OwnI.below (h : OwnI w B v l) (hb : Below w.heap.size w w') : OwnI w' B v l :=
  h.kept (row := none) ⟨hb.os, hb.tape, hb.output, hb.size, fun k hk _ => hb.block k hk⟩ (by cases hv : v.ownBlock <;> simp)
theorem OwnI.shape (h : OwnI w B v l) : ∃ A cap, v = .slice A l.length cap := by
  rcases h.2 with ⟨rfl, hn⟩ | ⟨g, cap, cur, rfl, _⟩
  · exact ⟨none, 0, by rw [hn]⟩
  · exact ⟨_, cap, rfl⟩
theorem OwnI.at_ (h : OwnI w B v l) (k : Nat) (hk : k < l.length) : ∃ g cap, v = .slice (some ⟨g, 0, none⟩) l.length cap ∧ B ≤ g ∧ g < w.heap.size ∧ w.cell? ⟨g, k, none⟩ = some (.int .i64 l[k]) := by
  rcases h.2 with ⟨rfl, hn⟩ | ⟨g, cap, cur, rfl, hb, hg, hnc, hcm, hcs, ht⟩
  · omega
  · refine ⟨g, cap, rfl, hb, (Array.getElem?_eq_some_iff.1 hg).1, ?_⟩
    have := World.ownsRow.cellAt (w := w) (base := B) (e := 3) (size := 1) (g := g) (n := l.length) (cap := cap) (xs := intsOf l) h k (by omega)
    rw [this]
    simp [intsOf, List.getElem?_eq_getElem hk]
theorem OwnI.block (h : OwnI w B v l) : ∀ k, v.ownBlock = some k → B ≤ k ∧ k < w.heap.size := fun k hk => World.ownsRow.lt h k hk
theorem OwnI.lower {B' : Nat} (h : OwnI w B v l) (hB : B' ≤ B) : OwnI w B' v l := by
  refine ⟨h.1, ?_⟩
  rcases h.2 with hn | ⟨g, cap, cur, e, hb, r⟩
  · exact .inl hn
  · exact .inr ⟨g, cap, cur, e, Nat.le_trans hB hb, r⟩
end
theorem app_int {w : World} {ops : Array Oper} {rest : List Oper} {o : Oper} {a : Act} {Q : Exit → Act → World → Prop} (hgd : o.guard = none) (s x : Operand)
    (ho : o.op = .call { callee := .builtin .append, args := #[s, x], argTypes := #[36, 36] })
    (base : Nat) (v : Value) (l : List Int) (hs : a.eval s = v) (hown : OwnI w base v l) (g : Nat) (u : Int) (hx : a.eval x = .slice (some ⟨g, 0, none⟩) 1 1) (hr : w.cell? ⟨g, 0, none⟩ = some (.int .i64 u))
    (hlen : l.length + 1 ≤ 2 ^ 40) (hbase : base ≤ w.heap.size)
    (h : ∀ v' w', OwnI w' base v' (l ++ [u]) → w.grownBy w' v.ownBlock → wpList Try.prog ops Q rest (a.put o.dst v') w') : wpList Try.prog ops Q (o :: rest) a w := by
  obtain ⟨i0, hi, hz0, hz1, hz2⟩ := info_parts infoInt
  refine wpList_append_any _ hgd s x _ ho base 3 i0 _ 1 8 Try.underlying36 hi hz0 hz1 hz2 rfl (by decide) v l.length (intsOf l) hs hown (g + 1) (some ⟨g, 0, none⟩) 1 1 [.int .i64 u] hx ?_ (by simp [Value.oneCell']) (by unfold maxLen; omega) (by omega) hbase ?_
  · refine ⟨rfl, fun _ => ⟨g, 0, rfl, Nat.lt_succ_self _, fun j y hj => ?_⟩⟩
    match j with
    | 0 => simp at hj; subst hj; exact hr
    | j + 1 => simp at hj
  · intro v' w' h2 h3 _
    refine h v' w' ?_ h3
    unfold OwnI
    rw [show (l ++ [u]).length = l.length + 1 by simp, show intsOf (l ++ [u]) = intsOf l ++ [.int .i64 u] by simp [intsOf]]
    exact h2

end Go.Proofs.Ytpnbibokddhheaa
