/-
  Two numbers compared, one behind the other; a row that is sorted strictly.
-/
import Derived.Test.YtpfjgecdlilkcaaCmpTail
namespace Go.Proofs.Ytpfjgecdlilkcaa
open Go.RowKit Go.Sort Go.Proofs

def cmp2 (a1 a2 b1 b2 : Int) : Int := orL [cmpI a1 b1, cmpI a2 b2]
theorem lit2 (w : World) (x0 x1 : Int) (t : TypeId) : ∀ k, (hk : k < [x0, x1].length) → (w.alloc (.cells #[.int .i64 x0, .int .i64 x1] t)).cell? ⟨w.heap.size, k, none⟩ = some (.int .i64 [x0, x1][k]) := by
  intro k hk
  rw [(Blk.new w t _).cell k]
  match k, hk with
  | 0, _ => rfl
  | 1, _ => rfl
theorem or2_s (a b : Int) (W : World) : Calls Try.prog 39 #[.slice (some ⟨W.heap.size, 0, none⟩) 2 2] (W.alloc (.cells #[.int .i64 a, .int .i64 b] 3)) fun r w' => r = .returned (.int .i64 (orL [a, b])) ∧ W.alloc (.cells #[.int .i64 a, .int .i64 b] 3) = w' :=
  or_s [a, b] (by simp) W.heap.size 2 _ (lit2 _ _ _ _) 2 (by simp) rfl
theorem cmp2_lt (a1 a2 b1 b2 : Int) : (cmp2 a1 a2 b1 b2 < 0 ↔ a1 < b1 ∨ (a1 = b1 ∧ a2 < b2)) ∧ (cmp2 a1 a2 b1 b2 = 0 ↔ a1 = b1 ∧ a2 = b2) := by
  unfold cmp2
  rcases cmpI_cases a1 b1 with ⟨h, e⟩ | ⟨h, h', e⟩ | ⟨h, h', e⟩ <;> rw [e] <;> rcases cmpI_cases a2 b2 with ⟨g, e2⟩ | ⟨g, g', e2⟩ | ⟨g, g', e2⟩ <;> rw [e2] <;> simp [orL] <;> omega
theorem or2_lt (x y : Int) : orL [x, y] < 0 ↔ x < 0 ∨ (x = 0 ∧ y < 0) := by
  by_cases h : x = 0 <;> simp [orL, h] <;> omega
/-- pairs apart by where they lead: sorted, they are so strictly -/
theorem sort_strict {α : Type} {R : α → α → Prop} {N M : List α} (hp : N.Perm M) (hs : N.Pairwise fun x y => ¬ R y x) (ha : M.Pairwise fun x y => R x y ∨ R y x) : N.Pairwise R := by
  have h1 : N.Pairwise fun x y => R x y ∨ R y x := hp.symm.pairwise ha (fun {x y} h => h.symm)
  exact (hs.and h1).imp fun {x y} h => h.2.resolve_right h.1

end Go.Proofs.Ytpfjgecdlilkcaa
