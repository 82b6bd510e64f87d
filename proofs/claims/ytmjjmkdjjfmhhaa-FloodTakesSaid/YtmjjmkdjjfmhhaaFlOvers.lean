/-
  flood.Over: how a description goes on each network.
-/
import Derived.Test.YtmjjmkdjjfmhhaaFlOver
namespace Go.Proofs.Ytmjjmkdjjfmhhaa
open Go.RowKit

theorem flatN {α : Type} (cells : α → List Value) (C : Nat) (hC : ∀ x, (cells x).length = C) (l : List α) (k i : Nat) (hk : k < l.length) (hi : i < C) : (l.flatMap cells)[k * C + i]? = (cells l[k])[i]? := by
  induction l generalizing k with
  | nil => simp at hk
  | cons c l ih =>
    cases k with
    | zero => simp only [List.flatMap_cons, Nat.zero_mul, Nat.zero_add, List.getElem_cons_zero]; rw [List.getElem?_append_left (by rw [hC]; exact hi)]
    | succ k =>
      have := ih k (by simpa using hk)
      simp only [List.flatMap_cons, List.getElem_cons_succ]
      rw [List.getElem?_append_right (by rw [hC, Nat.add_mul]; omega), hC, show (k + 1) * C + i - C = k * C + i by rw [Nat.add_mul]; omega]
      exact this
theorem flatLen {α : Type} (cells : α → List Value) (C : Nat) (hC : ∀ x, (cells x).length = C) (l : List α) : (l.flatMap cells).length = l.length * C := by
  induction l with
  | nil => simp
  | cons c l ih => simp only [List.flatMap_cons, List.length_append, ih, hC, List.length_cons, Nat.add_mul]; omega

abbrev SV := Spr × Value
def svCells (x : SV) : List Value := [.int .i64 x.1.lan, x.2, .bool x.1.sent, .int .i64 x.1.to]
/-- spreads that the call made itself -/
structure OwnS (w : World) (B : Nat) (v : Value) (L : List SV) : Prop where
  row : w.ownsRow B 106 4 v L.length (L.flatMap svCells)
  each : ∀ x ∈ L, OwnI w B x.2 x.1.listed ∧ (x.2.ownBlock = none ∨ x.2.ownBlock ≠ v.ownBlock)
theorem OwnS.nil (w : World) (B : Nat) : OwnS w B (.slice none 0 0) [] := ⟨⟨rfl, .inl ⟨rfl, rfl⟩⟩, by simp⟩
section
variable {w w' : World} {B : Nat} {v : Value} {L : List SV}
theorem OwnS.kept {row : Option Nat} (h : OwnS w B v L) (hg : w.grownBy w' row) (hr : ∀ k, row = some k → w.heap.size ≤ k ∨ k < B) : OwnS w' B v L := by
  have no : ∀ (u : Value), (∀ k, u.ownBlock = some k → B ≤ k ∧ k < w.heap.size) → u.ownBlock = none ∨ u.ownBlock ≠ row := by
    intro u hu
    rcases hv : u.ownBlock with _ | k
    · exact .inl rfl
    · right
      intro e
      have h1 := hu k hv
      rcases hr k e.symm with h | h <;> omega
  exact ⟨World.ownsRow.kept h.row hg (no v (fun k hk => World.ownsRow.lt h.row k hk)), fun x hx => ⟨(h.each x hx).1.kept hg (no x.2 (h.each x hx).1.block), (h.each x hx).2⟩⟩
theorem OwnS.below (h : OwnS w B v L) (hb : Below w.heap.size w w') : OwnS w' B v L :=
  h.kept (row := none) ⟨hb.os, hb.tape, hb.output, hb.size, fun k hk _ => hb.block k hk⟩ (by simp)
theorem OwnS.alloc (h : OwnS w B v L) (o : Obj) : OwnS (w.alloc o) B v L := h.below ((Below.refl _ _).alloc (Nat.le_refl _) o)
theorem OwnS.lower {B' : Nat} (h : OwnS w B v L) (hB : B' ≤ B) : OwnS w B' v L := by
  refine ⟨⟨h.row.1, ?_⟩, fun x hx => ⟨(h.each x hx).1.lower hB, (h.each x hx).2⟩⟩
  rcases h.row.2 with hn | ⟨g, cap, cur, e, hb, r⟩
  · exact .inl hn
  · exact .inr ⟨g, cap, cur, e, Nat.le_trans hB hb, r⟩
theorem OwnS.shape (h : OwnS w B v L) : ∃ A cap, v = .slice A L.length cap := by
  rcases h.row.2 with ⟨rfl, hn⟩ | ⟨g, cap, cur, rfl, _⟩
  · exact ⟨none, 0, by rw [hn]⟩
  · exact ⟨_, cap, rfl⟩
theorem OwnS.at_ (h : OwnS w B v L) (k : Nat) (hk : k < L.length) : ∃ g cap, v = .slice (some ⟨g, 0, none⟩) L.length cap ∧ B ≤ g ∧ g < w.heap.size ∧
    w.cell? ⟨g, k * 4, none⟩ = some (.int .i64 L[k].1.lan) ∧ w.cell? ⟨g, k * 4 + 1, none⟩ = some L[k].2 ∧ w.cell? ⟨g, k * 4 + 2, none⟩ = some (.bool L[k].1.sent) ∧ w.cell? ⟨g, k * 4 + 3, none⟩ = some (.int .i64 L[k].1.to) := by
  rcases h.row.2 with ⟨rfl, hn⟩ | ⟨g, cap, cur, rfl, hb, hg, hnc, hcm, hcs, ht⟩
  · omega
  · have hc : ∀ i, i < 4 → w.cell? ⟨g, k * 4 + i, none⟩ = (svCells L[k])[i]? := fun i hi => by
      rw [← flatN svCells 4 (fun _ => rfl) L k i hk hi]
      exact World.ownsRow.cellAt (w := w) (base := B) (e := 106) (size := 4) (g := g) (n := L.length) (cap := cap) (xs := L.flatMap svCells) h.row (k * 4 + i) (by omega)
    exact ⟨g, cap, rfl, hb, (Array.getElem?_eq_some_iff.1 hg).1, hc 0 (by omega), hc 1 (by omega), hc 2 (by omega), hc 3 (by omega)⟩
end
theorem infoSpread : (Try.prog.info? 106).map (fun i => (i.zero, i.size, i.bytes)) = some (some (.agg #[.int .i64 0, .slice none 0 0, .bool false, .int .i64 0]), 4, 48) := by kernel_rfl

/-- one more spread -/
theorem app_spr {w : World} {ops : Array Oper} {rest : List Oper} {o : Oper} {a : Act} {Q : Exit → Act → World → Prop} (hgd : o.guard = none) (s x : Operand)
    (ho : o.op = .call { callee := .builtin .append, args := #[s, x], argTypes := #[95, 95] })
    (base : Nat) (v : Value) (L : List SV) (hs : a.eval s = v) (hown : OwnS w base v L) (g : Nat) (n : SV) (hx : a.eval x = .slice (some ⟨g, 0, none⟩) 1 1) (hr : Blk w g 106 #[.int .i64 n.1.lan, n.2, .bool n.1.sent, .int .i64 n.1.to])
    (hn : OwnI w base n.2 n.1.listed) (hne : n.2.ownBlock = none ∨ n.2.ownBlock ≠ v.ownBlock) (hlen : L.length + 1 ≤ 2 ^ 40) (hbase : base ≤ w.heap.size)
    (h : ∀ v' w', OwnS w' base v' (L ++ [n]) → w.grownBy w' v.ownBlock → wpList Try.prog ops Q rest (a.put o.dst v') w') : wpList Try.prog ops Q (o :: rest) a w := by
  obtain ⟨i0, hi, hz0, hz1, hz2⟩ := info_parts infoSpread
  obtain ⟨A0, c0, hv0⟩ := OwnI.shape hn
  refine wpList_append_any _ hgd s x _ ho base 106 i0 _ 4 48 Try.underlying95 hi hz0 hz1 hz2 rfl (by decide) v L.length (L.flatMap svCells) hs hown.row (g + 1) (some ⟨g, 0, none⟩) 1 1 (svCells n) hx ?_ ?_ (by unfold maxLen; omega) (by omega) hbase ?_
  · refine ⟨rfl, fun _ => ⟨g, 0, rfl, Nat.lt_succ_self _, fun j y hj => ?_⟩⟩
    rw [Nat.zero_add, hr.cell j, ← hj]
    simp [svCells]
  · intro u hu
    simp [svCells] at hu
    rcases hu with rfl | rfl | rfl | rfl
    · rfl
    · rw [hv0]; rfl
    · rfl
    · rfl
  · intro v' w' h2 h3 h4
    refine h v' w' ⟨by simpa [List.flatMap_append] using h2, ?_⟩ h3
    have all : ∀ y : SV, OwnI w base y.2 y.1.listed → (y.2.ownBlock = none ∨ y.2.ownBlock ≠ v.ownBlock) → OwnI w' base y.2 y.1.listed ∧ (y.2.ownBlock = none ∨ y.2.ownBlock ≠ v'.ownBlock) := by
      intro y hy hyn
      refine ⟨hy.kept h3 hyn, ?_⟩
      rcases h4 with e | e
      · rw [e]; exact hyn
      · rcases hyb : y.2.ownBlock with _ | k
        · exact .inl rfl
        · right
          rw [e]
          intro e2
          injection e2 with e2
          have := (hy.block k hyb).2
          omega
    intro y hy
    rcases List.mem_append.1 hy with hy | hy
    · exact all y (hown.each y hy).1 (hown.each y hy).2
    · rw [List.mem_singleton] at hy
      subst hy
      exact all y hn hne

end Go.Proofs.Ytmjjmkdjjfmhhaa
