/-
  clear of a map, whatever its keys.
-/
import Derived.Test.YtannngcdphafdaaStMap
namespace Go.Proofs.Ytannngcdphafdaa
open Go.RowKit Go.MapKept

section
variable {κ : Type} {P : Program} {kt et mt : TypeId} {enc : κ → Value} {w w' : World} {b : Nat} {L : List (κ × Value)}
theorem MapAt.clear_run (h : MapAt enc w b L) (ht : P.underlying mt = some (.map kt et)) (ty : TypeId) :
    ∃ w', (Builtin.clear_ #[mt] ty #[.map (some b)]).run P w = .ok (.tuple #[]) w' ∧ MapAt enc w' b ([] : List (κ × Value)) ∧ w.grownBy w' (some b) ∧ w'.heap.size = w.heap.size := by
  have hlt := h.lt
  obtain ⟨es, clock, hb, hm, h1, h2, h3⟩ := h
  refine ⟨_, ?_, ⟨#[], clock, (heap_set hb).1, rfl, by simp, by simp, by simp⟩, setBlock_grown hlt _, setBlock_size _⟩
  simp [Builtin.clear_, run_underlying ht, MapKept.run_getObj_map hb, MapKept.run_setObj_map _ hb, Result.andThen]
  rfl
variable {ops : Array Oper} {Q : Exit → Act → World → Prop} {o : Oper} {rest : List Oper} {a : Act}
theorem wpList_clear_st (hg : o.guard = none) (m : Operand) (t kt : TypeId) (hop : o.op = Op.call { callee := Callee.builtin Builtin.clear, args := #[m], argTypes := #[t] }) (et : TypeId) (ht : P.underlying t = some (.map kt et))
    (hm : a.eval m = .map (some b)) (h : MapAt enc w b L)
    (hK : ∀ w', MapAt enc w' b ([] : List (κ × Value)) → w.grownBy w' (some b) → w'.heap.size = w.heap.size → wpList P ops Q rest (a.put o.dst (.tuple #[])) w') : wpList P ops Q (o :: rest) a w := by
  refine wpList_plain hg fun K' hK' => ?_
  obtain ⟨w', hrun, h1, h2, h3⟩ := h.clear_run ht o.type
  unfold Oper.wp
  simp [execOp, hop, resolve, invoke, builtin, hm, hrun, Result.andThen]
  exact hK' _ _ (hK w' h1 h2 h3)
end

end Go.Proofs.Ytannngcdphafdaa
