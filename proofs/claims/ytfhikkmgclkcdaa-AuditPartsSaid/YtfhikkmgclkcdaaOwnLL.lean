/-
  Rows of rows of numbers that a call made itself.
-/
import Derived.Test.YtfhikkmgclkcdaaOwnR
namespace Go.Proofs.Ytfhikkmgclkcdaa
open Go.RowKit

abbrev VL := Value × List Int
/-- rows of numbers, each made by the call, in a row of its own -/
structure OwnLL (w : World) (B : Nat) (v : Value) (L : List VL) : Prop where
  row : w.ownsRow B 26 1 v L.length (L.map Prod.fst)
  each : ∀ x ∈ L, OwnI w B x.1 x.2 ∧ (x.1.ownBlock = none ∨ x.1.ownBlock ≠ v.ownBlock)
theorem OwnLL.nil (w : World) (B : Nat) : OwnLL w B (.slice none 0 0) [] := ⟨⟨rfl, .inl ⟨rfl, rfl⟩⟩, by simp⟩
section
variable {w w' : World} {B : Nat} {v : Value} {L : List VL}
theorem OwnLL.kept {row : Option Nat} (h : OwnLL w B v L) (hg : w.grownBy w' row) (hr : ∀ k, row = some k → w.heap.size ≤ k ∨ k < B) : OwnLL w' B v L := by
  have no : ∀ (u : Value), (∀ k, u.ownBlock = some k → B ≤ k ∧ k < w.heap.size) → u.ownBlock = none ∨ u.ownBlock ≠ row := by
    intro u hu
    rcases hv : u.ownBlock with _ | k
    · exact .inl rfl
    · right
      intro e
      have h1 := hu k hv
      rcases hr k e.symm with h | h <;> omega
  exact ⟨World.ownsRow.kept h.row hg (no v (fun k hk => World.ownsRow.lt h.row k hk)), fun x hx => ⟨(h.each x hx).1.kept hg (no x.1 (h.each x hx).1.block), (h.each x hx).2⟩⟩
/-- what grew in another row that lies apart -/
theorem OwnLL.apart {row : Option Nat} (h : OwnLL w B v L) (hg : w.grownBy w' row) (hv : v.ownBlock = none ∨ v.ownBlock ≠ row) (hx : ∀ x ∈ L, x.1.ownBlock = none ∨ x.1.ownBlock ≠ row) : OwnLL w' B v L :=
  ⟨World.ownsRow.kept h.row hg hv, fun x hm => ⟨(h.each x hm).1.kept hg (hx x hm), (h.each x hm).2⟩⟩
theorem OwnLL.below (h : OwnLL w B v L) (hb : Below w.heap.size w w') : OwnLL w' B v L :=
  h.kept (row := none) ⟨hb.os, hb.tape, hb.output, hb.size, fun k hk _ => hb.block k hk⟩ (by simp)
theorem OwnLL.alloc (h : OwnLL w B v L) (o : Obj) : OwnLL (w.alloc o) B v L := h.below ((Below.refl _ _).alloc (Nat.le_refl _) o)
theorem OwnLL.lower {B' : Nat} (h : OwnLL w B v L) (hB : B' ≤ B) : OwnLL w B' v L := by
  refine ⟨⟨h.row.1, ?_⟩, fun x hx => ⟨(h.each x hx).1.lower hB, (h.each x hx).2⟩⟩
  rcases h.row.2 with hn | ⟨g, cap, cur, e, hb, r⟩
  · exact .inl hn
  · exact .inr ⟨g, cap, cur, e, Nat.le_trans hB hb, r⟩
theorem OwnLL.shape (h : OwnLL w B v L) : ∃ A cap, v = .slice A L.length cap := by
  rcases h.row.2 with ⟨rfl, hn⟩ | ⟨g, cap, cur, rfl, _⟩
  · exact ⟨none, 0, by rw [hn]⟩
  · exact ⟨_, cap, rfl⟩
theorem OwnLL.block (h : OwnLL w B v L) : ∀ k, v.ownBlock = some k → B ≤ k ∧ k < w.heap.size := fun k hk => World.ownsRow.lt h.row k hk
theorem OwnLL.at_ (h : OwnLL w B v L) (k : Nat) (hk : k < L.length) : ∃ g cap, v = .slice (some ⟨g, 0, none⟩) L.length cap ∧ w.cell? ⟨g, k, none⟩ = some L[k].1 := by
  rcases h.row.2 with ⟨rfl, hn⟩ | ⟨g, cap, cur, rfl, hb, hg, hnc, hcm, hcs, ht⟩
  · omega
  · refine ⟨g, cap, rfl, ?_⟩
    have := World.ownsRow.cellAt (w := w) (base := B) (e := 26) (size := 1) (g := g) (n := L.length) (cap := cap) (xs := L.map Prod.fst) h.row k (by omega)
    rw [this]
    simp [List.getElem?_eq_getElem hk]
end
theorem infoInts : (Try.prog.info? 26).map (fun i => (i.zero, i.size, i.bytes)) = some (some (.slice none 0 0), 1, 24) := by kernel_rfl
/-- one more row -/
theorem app_ll {w : World} {ops : Array Oper} {rest : List Oper} {o : Oper} {a : Act} {Q : Exit → Act → World → Prop} (hgd : o.guard = none) (s x : Operand)
    (ho : o.op = .call { callee := .builtin .append, args := #[s, x], argTypes := #[49, 49] })
    (base : Nat) (v : Value) (L : List VL) (hs : a.eval s = v) (hown : OwnLL w base v L) (g : Nat) (n : VL) (hx : a.eval x = .slice (some ⟨g, 0, none⟩) 1 1) (hr : Blk w g 26 #[n.1])
    (hn : OwnI w base n.1 n.2) (hne : n.1.ownBlock = none ∨ n.1.ownBlock ≠ v.ownBlock) (hlen : L.length + 1 ≤ 2 ^ 30) (hbase : base ≤ w.heap.size)
    (h : ∀ v' w', OwnLL w' base v' (L ++ [n]) → w.grownBy w' v.ownBlock → (v'.ownBlock = v.ownBlock ∨ v'.ownBlock = some w.heap.size) → wpList Try.prog ops Q rest (a.put o.dst v') w') : wpList Try.prog ops Q (o :: rest) a w := by
  obtain ⟨i0, hi, hz0, hz1, hz2⟩ := info_parts infoInts
  obtain ⟨A0, c0, hv0⟩ := OwnI.shape hn
  refine wpList_append_any _ hgd s x _ ho base 26 i0 _ 1 24 Try.underlying49 hi hz0 hz1 hz2 rfl (by decide) v L.length (L.map Prod.fst) hs hown.row (g + 1) (some ⟨g, 0, none⟩) 1 1 [n.1] hx ?_ ?_ (by unfold maxLen; omega) (by omega) hbase ?_
  · refine ⟨rfl, fun _ => ⟨g, 0, rfl, Nat.lt_succ_self _, fun j y hj => ?_⟩⟩
    rw [Nat.zero_add, hr.cell j, ← hj]
    simp
  · intro u hu
    rw [List.mem_singleton] at hu
    subst hu
    rw [hv0]; rfl
  · intro v' w' h2 h3 h4
    refine h v' w' ⟨by simpa using h2, ?_⟩ h3 h4
    have all : ∀ y : VL, OwnI w base y.1 y.2 → (y.1.ownBlock = none ∨ y.1.ownBlock ≠ v.ownBlock) → OwnI w' base y.1 y.2 ∧ (y.1.ownBlock = none ∨ y.1.ownBlock ≠ v'.ownBlock) := by
      intro y hy hyn
      refine ⟨hy.kept h3 hyn, ?_⟩
      rcases h4 with e | e
      · rw [e]; exact hyn
      · rcases hyb : y.1.ownBlock with _ | k
        · exact .inl rfl
        · right
          rw [e]
          intro e2
          injection e2 with e2
          have := (hy.block k hyb).2
          omega
    intro y hy
    rcases List.mem_append.1 hy with hy | hy
    · exact all y (hown.each y hy).1 (hown.each y hy).2
    · rw [List.mem_singleton] at hy
      subst hy
      exact all y hn hne
/-- a row of numbers behind another one -/
theorem app_ints {w : World} {ops : Array Oper} {rest : List Oper} {o : Oper} {a : Act} {Q : Exit → Act → World → Prop} (hgd : o.guard = none) (s x : Operand)
    (ho : o.op = .call { callee := .builtin .append, args := #[s, x], argTypes := #[26, 26] })
    (base : Nat) (v : Value) (l : List Int) (hs : a.eval s = v) (hown : OwnI w base v l) (A : Option Addr) (c : Nat) (m : List Int) (hx : a.eval x = .slice A m.length c) (hm : RowsAt 1 icell w w.heap.size A m)
    (hlen : l.length + m.length ≤ 2 ^ 40) (hbase : base ≤ w.heap.size)
    (h : ∀ v' w', OwnI w' base v' (l ++ m) → w.grownBy w' v.ownBlock → (v'.ownBlock = v.ownBlock ∨ v'.ownBlock = some w.heap.size) → wpList Try.prog ops Q rest (a.put o.dst v') w') : wpList Try.prog ops Q (o :: rest) a w := by
  obtain ⟨i0, hi, hz0, hz1, hz2⟩ := info_parts infoInt
  refine wpList_append_any _ hgd s x _ ho base 3 i0 _ 1 8 Try.underlying26 hi hz0 hz1 hz2 rfl (by decide) v l.length (intsOf l) hs hown w.heap.size A m.length c (intsOf m) hx ?_ (fun u hu => by simp [intsOf] at hu; obtain ⟨y, _, rfl⟩ := hu; rfl) (by unfold maxLen; omega) (by omega) hbase ?_
  · refine ⟨by simp [intsOf], fun hp => ?_⟩
    obtain ⟨b, o, e, hb, hc⟩ := hm hp
    refine ⟨b, o, e, hb, fun k u hu => ?_⟩
    have hk : k < m.length := by have := (List.getElem?_eq_some_iff.1 hu).1; simpa [intsOf] using this
    have := hc k hk 0 (.int .i64 m[k]) (by omega) rfl
    have hu' : u = .int .i64 m[k] := by simpa [intsOf, hk] using hu.symm
    rw [hu']
    simpa using this
  · intro v' w' h2 h3 h4
    refine h v' w' ?_ h3 h4
    unfold OwnI
    rw [show (l ++ m).length = l.length + m.length by simp, show intsOf (l ++ m) = intsOf l ++ intsOf m by simp [intsOf]]
    exact h2

end Go.Proofs.Ytfhikkmgclkcdaa
