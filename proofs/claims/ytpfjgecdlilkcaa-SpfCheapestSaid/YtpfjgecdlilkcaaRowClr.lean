/-
  clear of the end of a row of structs that the call made itself, whatever the struct; the row is cut there.
-/
import Derived.Test.YtpfjgecdlilkcaaOwnR
import Derived.Laws.CopyRow
namespace Go.Proofs.Ytpfjgecdlilkcaa
open Go.RowKit

theorem setRow_grown (w : World) (g : Nat) (cs : Array Value) : w.grownBy (w.setRow g cs) (some g) := by
  refine ⟨rfl, rfl, rfl, by simp, fun k hk hne => ?_⟩
  unfold World.setRow
  simp only
  have : g ≠ k := fun e => hne (by rw [e])
  simp [Array.getElem?_modify, this]
theorem zeroCells_one {z : Value} (h : ∀ u ∈ z.cells, u.oneCell' = true) (n : Nat) : ∀ u ∈ (Builtin.zeroCells z.cells n).toList, u.oneCell' = true := by
  intro u hu
  unfold Builtin.zeroCells at hu
  rw [Array.toList_map, List.mem_map] at hu
  obtain ⟨i, hi, rfl⟩ := hu
  by_cases h0 : z.cells.size = 0
  · simp [h0] at hi
  · have hlt : i % z.cells.size < z.cells.size := Nat.mod_lt _ (by omega)
    rw [getElem!_pos z.cells _ hlt]
    exact h _ (Array.getElem_mem hlt)
section
variable {α : Type} {e : TypeId} {C : Nat} {cells : α → List Value} {w : World} {B g cap n : Nat} {L : List α}
theorem flat_take (hC : ∀ x, (cells x).length = C) : ∀ (L : List α) (k : Nat), (L.take k).flatMap cells = (L.flatMap cells).take (k * C)
  | [], k => by simp
  | c :: L, 0 => by simp
  | c :: L, k + 1 => by
    rw [List.take_succ_cons, List.flatMap_cons, List.flatMap_cons, flat_take hC L k, List.take_append, hC]
    rw [show (k + 1) * C - C = k * C by rw [Nat.add_mul]; omega, List.take_of_length_le (l := cells c) (by rw [hC, Nat.add_mul]; omega)]
theorem OwnR.cut (hC : ∀ x, (cells x).length = C) (h : OwnR e C cells w B (.slice (some ⟨g, 0, none⟩) n cap) L) (hn : n = L.length) (k : Nat) (hk : k ≤ n) : OwnR e C cells w B (.slice (some ⟨g, 0, none⟩) k cap) (L.take k) := by
  subst hn
  have hl : (L.take k).length = k := by rw [List.length_take]; omega
  unfold OwnR
  rw [hl]
  rcases h.2 with ⟨hv, -⟩ | ⟨g', cap', cur, hv, hb, hg, hnc, hcm, hcs, ht⟩
  · cases hv
  · simp only [Value.slice.injEq, Option.some.injEq, Addr.mk.injEq, and_true, true_and] at hv
    obtain ⟨rfl, rfl⟩ := hv
    refine ⟨by rw [flatLenR cells C hC, hl], .inr ⟨g, cap, cur, rfl, hb, hg, by omega, hcm, hcs, ?_⟩⟩
    rw [flat_take hC, ← ht, List.take_take, Nat.min_eq_left (Nat.mul_le_mul_right C hk)]
theorem OwnR.clear_run (hC : ∀ x, (cells x).length = C) {sl : TypeId} (hsl : Try.prog.underlying sl = some (.slice e)) {z : Value} (hz : ∀ w, (zeroValue e).run Try.prog w = .ok z w) (hzc : z.cells.size = C) (hz1 : ∀ u ∈ z.cells, u.oneCell' = true)
    (h : OwnR e C cells w B (.slice (some ⟨g, 0, none⟩) n cap) L) (hn : n = L.length) (k : Nat) (hk : k ≤ n) (m c : Nat) (hm : k + m ≤ n) (ty : TypeId) :
    ∃ w', (Builtin.clear_ #[sl] ty #[.slice (some ⟨g, k * C, none⟩) m c]).run Try.prog w = .ok (.tuple #[]) w' ∧ OwnR e C cells w' B (.slice (some ⟨g, 0, none⟩) k cap) (L.take k) ∧ w.grownBy w' (some g) := by
  rcases Nat.eq_zero_or_pos m with rfl | hm0
  · refine ⟨w, ?_, h.cut hC hn k hk, rfl, rfl, rfl, Nat.le_refl _, fun _ _ _ => rfl⟩
    simp [Builtin.clear_, run_underlying hsl]
  · subst hn
    have hl : (L.take k).length = k := by rw [List.length_take]; omega
    rcases h.2 with ⟨hv, -⟩ | ⟨g', cap', cur, hv, hb, hg, hnc, hcm, hcs, ht⟩
    · cases hv
    · simp only [Value.slice.injEq, Option.some.injEq, Addr.mk.injEq, and_true, true_and] at hv
      obtain ⟨rfl, rfl⟩ := hv
      have hzl : (Builtin.zeroCells z.cells m).toList.length = m * C := by
        rw [Array.length_toList]
        unfold Builtin.zeroCells
        simp [hzc]
      have hle : k * C + m * C ≤ cur.size := by
        rw [hcs, ← Nat.add_mul]
        exact Nat.mul_le_mul_right C (by omega)
      have hst := run_storeCells_at (P := Try.prog) g (k * C) e (Builtin.zeroCells z.cells m).toList 0 cur w hg (by rw [hzl]; omega) (zeroCells_one hz1 m)
      simp only [Nat.add_zero] at hst
      refine ⟨w.setRow g (cur.toList.take (k * C) ++ (Builtin.zeroCells z.cells m).toList ++ cur.toList.drop (k * C + (Builtin.zeroCells z.cells m).toList.length)).toArray, ?_, ?_, setRow_grown w g _⟩
      · obtain ⟨m, rfl⟩ : ∃ j, m = j + 1 := ⟨m - 1, by omega⟩
        simp [Builtin.clear_, run_underlying hsl, hz, hst]
      · unfold OwnR
        rw [hl]
        refine ⟨by rw [flatLenR cells C hC, hl], .inr ⟨g, cap, _, rfl, hb, setRow_heap w g cur _ e (0, 0) hg, by omega, hcm, ?_, ?_⟩⟩
        · simp only [List.size_toArray, List.length_append, List.length_take, List.length_drop, Array.length_toList]
          rw [Array.length_toList] at hzl
          omega
        · rw [flat_take hC, ← ht]
          simp only
          have hkn := Nat.mul_le_mul_right C hk
          have e1 : ∀ X : List Value, (cur.toList.take (k * C) ++ X).take (k * C) = (cur.toList.take (L.length * C)).take (k * C) := by
            intro X
            rw [List.take_append_of_le_length (by rw [List.length_take, Array.length_toList]; omega), List.take_take, List.take_take, Nat.min_self, Nat.min_eq_left hkn]
          rw [List.append_assoc]
          exact e1 _
variable {ops : Array Oper} {Q : Exit → Act → World → Prop} {o : Oper} {rest : List Oper} {a : Act}
theorem wpList_clear_row (hC : ∀ x, (cells x).length = C) {sl : TypeId} (hsl : Try.prog.underlying sl = some (.slice e)) {z : Value} (hz : ∀ w, (zeroValue e).run Try.prog w = .ok z w) (hzc : z.cells.size = C) (hz1 : ∀ u ∈ z.cells, u.oneCell' = true)
    (hgd : o.guard = none) (s : Operand) (ho : o.op = .call { callee := .builtin .clear, args := #[s], argTypes := #[sl] })
    (h : OwnR e C cells w B (.slice (some ⟨g, 0, none⟩) n cap) L) (hn : n = L.length) (k : Nat) (hk : k ≤ n) (m c off : Nat) (hoff : off = k * C) (hm : k + m ≤ n) (hs : a.eval s = .slice (some ⟨g, off, none⟩) m c)
    (hK : ∀ w', OwnR e C cells w' B (.slice (some ⟨g, 0, none⟩) k cap) (L.take k) → w.grownBy w' (some g) → wpList Try.prog ops Q rest (a.put o.dst (.tuple #[])) w') : wpList Try.prog ops Q (o :: rest) a w := by
  subst hoff
  refine wpList_plain hgd fun K' hK' => ?_
  obtain ⟨w', hrun, h1, h2⟩ := h.clear_run hC hsl hz hzc hz1 hn k hk m c hm o.type
  unfold Oper.wp
  simp [execOp, ho, resolve, invoke, builtin, hs, hrun, Result.andThen]
  exact hK' _ _ (hK w' h1 h2)
end

theorem OwnR.froz {α : Type} {e : TypeId} {C : Nat} {cells : α → List Value} {w : World} {B g n cap : Nat} {l : List α} (h : OwnR e C cells w B (.slice (some ⟨g, 0, none⟩) n cap) l) (i : Nat) : w.frozen? ⟨g, i, none⟩ = false := by
  rcases h.2 with ⟨hv, -⟩ | ⟨g', cap', cur, hv, -, hb, -⟩
  · cases hv
  · simp only [Value.slice.injEq, Option.some.injEq, Addr.mk.injEq, and_true] at hv
    obtain ⟨rfl, -, -⟩ := hv
    simp [World.frozen?, hb]
theorem OwnR.first {α : Type} {e : TypeId} {C : Nat} {cells : α → List Value} {w : World} {B n cap : Nat} {A : Option Addr} {l : List α} (h : OwnR e C cells w B (.slice A n cap) l) (hl : 0 < l.length) : ∃ g, A = some ⟨g, 0, none⟩ := by
  rcases h.2 with ⟨hv, h0⟩ | ⟨g, cap', cur, hv, -⟩
  · omega
  · injection hv with hA
    exact ⟨g, hA⟩
theorem OwnR.far {α : Type} {e : TypeId} {C : Nat} {cells : α → List Value} {w : World} {B : Nat} {v : Value} {L : List α} (h : OwnR e C cells w B v L) {p : Addr} (hp : v.ownBlock ≠ some p.block) (u : Value) : OwnR e C cells (w.setCell p u) B v L :=
  h.kept (row := some p.block) ⟨rfl, rfl, rfl, by simp, fun k _ hne => Below.heap_setCell w p u k (fun e => hne (by rw [e]))⟩ (.inr hp)

/-- a row that was laid just now -/
theorem OwnR.lit {α : Type} {e : TypeId} {C : Nat} {cells : α → List Value} (hC : ∀ x, (cells x).length = C) {w : World} {g B n : Nat} {L : List α} (h : Blk w g e (L.flatMap cells).toArray) (hB : B ≤ g) (hn : n = L.length) (h0 : 0 < n) (hm : n ≤ maxLen) : OwnR e C cells w B (.slice (some ⟨g, 0, none⟩) n n) L := by
  subst hn
  refine ⟨flatLenR cells C hC L, .inr ⟨g, _, _, rfl, hB, h, Nat.le_refl _, hm, ?_, ?_⟩⟩
  · rw [List.size_toArray, flatLenR cells C hC L]
  · exact List.take_of_length_le (by rw [flatLenR cells C hC L]; exact Nat.le_refl _)

end Go.Proofs.Ytpfjgecdlilkcaa
