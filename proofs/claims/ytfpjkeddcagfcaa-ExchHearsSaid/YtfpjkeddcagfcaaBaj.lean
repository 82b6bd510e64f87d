/-
  A region that draws its order: all its operations keep what the others read; taken one by one.
-/
import Derived.Test.YtfpjkeddcagfcaaBab
namespace Go.Proofs.Ytfpjkeddcagfcaa
open Go Go.RowKit

section
variable {P : Program} {ops : Array Oper} {md : Region.Mode} {F : World → Prop} {n : Nat} {Q : Exit → Act → World → Prop}
theorem wpAnyG_first (hl : ops.size ≤ n) {i : Nat} {oi : Oper} {v : Value} (hi : ops[i]? = some oi) (hsel : ∀ (j : Nat) (o : Oper) cs b, ops[j]? = some o → o.op ≠ .select cs b)
    (hQ : ∀ c a w, Q (.panic c) (a.put oi.dst v) w → Q (.panic c) a w) :
    ∀ (f : Nat) (s : Array Bool) (a : Act) (w : World), (∀ j oj, ops[j]? = some oj → j ≠ i → s.getD j true = false → (∀ e ∈ oj.after, Region.binds md e = true → e.on ≠ i) → oi.apart ops oj = true) →
      i ∈ Region.ready md ops s → YieldsIf P ops F oi v a → F w → wpAnyF P md ops Q F n f (s.setIfInBounds i true) (a.put oi.dst v) w → wpAnyF P md ops Q F n (f + 1) s a w := by
  intro f
  induction f with
  | zero =>
    intro s a w _ hr hy hF H
    refine ⟨fun h => (by rw [h] at hr; cases hr), fun j hj => ?_⟩
    by_cases hji : j = i
    · subst hji; exact hy.wpOp hi hF ⟨fun _ => hF, H⟩
    · have := ready_mono hj hji
      rw [H.1] at this
      cases this
  | succ f ih =>
    intro s a w hfree hr hy hF H
    refine ⟨fun h => (by rw [h] at hr; cases hr), fun j hj => ?_⟩
    by_cases hji : j = i
    · subst hji; exact hy.wpOp hi hF ⟨fun _ => hF, H⟩
    · have hun := (mem_ready.1 hr).1
      have h1 := H.2 j (ready_mono hj hji)
      obtain ⟨hjun, oj, hoj, hall⟩ := mem_ready.1 hj
      have hjn : j < n := Nat.lt_of_lt_of_le (Array.getElem?_eq_some_iff.1 hoj).1 hl
      have hnot : ∀ e ∈ oj.after, Region.binds md e = true → e.on ≠ i := fun e he hb heq => by
        have h1 := hall e he hb
        rw [heq, getD_both hun] at h1
        exact Bool.noConfusion h1
      have h2 := wpOp_putIf hoj (hfree j oj hoj hji hjun hnot) (fun cs b => hsel i oi cs b hi) (fun cs b => hsel j oj cs b hoj) hQ hy h1
      have hfree' : ∀ k ok, ops[k]? = some ok → k ≠ i → (s.setIfInBounds j true).getD k true = false → (∀ e ∈ ok.after, Region.binds md e = true → e.on ≠ i) → oi.apart ops ok = true := fun k ok hk hki hun hno => by
        refine hfree k ok hk hki ?_ hno
        by_cases hjk : j = k
        · subst hjk; exact hjun
        · rw [getD_set_ne true hjk] at hun; exact hun
      refine wpOp_mono (fun a' w' h3 => ⟨fun _ => h3.2.1 hjn, ih (s.setIfInBounds j true) a' w' hfree' (ready_mono hr (Ne.symm hji)) h3.1 (h3.2.1 hjn) ?_⟩) h2
      rw [Array.setIfInBounds_comm _ _ hji]
      exact h3.2.2
theorem G_take {i : Nat} {oi : Oper} {v : Value} {d : Option Nat} {f : Nat} {s s' : Array Bool} {a : Act} {w : World} (hl : ops.size ≤ n) (hs' : s.setIfInBounds i true = s') (hi : ops[i]? = some oi) (hd : oi.dst = d) (hs : Region.noSelect ops = true)
    (hf : Region.free md ops s i = true) (hr : (Region.ready md ops s).contains i = true) (hQ : ∀ c a w, Q (.panic c) (a.put oi.dst v) w → Q (.panic c) a w) (hy : YieldsIf P ops F oi v a) (hF : F w)
    (h : wpAnyF P md ops Q F n f s' (a.put d v) w) : wpAnyF P md ops Q F n (f + 1) s a w :=
  wpAnyG_first hl hi (Region.noSelect_spec hs) hQ f s a w (Region.free_spec hi hf) (by simpa using hr) hy hF (by rw [hd, hs']; exact h)
end

end Go.Proofs.Ytfpjkeddcagfcaa
