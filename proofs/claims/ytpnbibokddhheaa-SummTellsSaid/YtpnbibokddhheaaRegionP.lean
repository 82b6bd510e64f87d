/-
  A region that draws its order, of which several operations may come up that make memory: each way.
-/
import Derived.Test.YtpnbibokddhheaaRegionF
import Derived.Test.YtpnbibokddhheaaRowsOf
namespace Go.Proofs.Ytpnbibokddhheaa
open Go Go.RowKit

section
variable {P : Program} {ops : Array Oper} {md : Region.Mode} {F : World → Prop} {n : Nat} {Q : Exit → Act → World → Prop}
theorem F_two {i j : Nat} {f : Nat} {s si sj : Array Bool} {a : Act} {w : World} (hr : Region.ready md ops s = [i, j]) (hsi : s.setIfInBounds i true = si) (hsj : s.setIfInBounds j true = sj)
    (hi : wpOp P ops Q i (fun a' w' => (i < n → F w') ∧ wpAnyF P md ops Q F n f si a' w') a w) (hj : wpOp P ops Q j (fun a' w' => (j < n → F w') ∧ wpAnyF P md ops Q F n f sj a' w') a w) : wpAnyF P md ops Q F n (f + 1) s a w :=
  ⟨fun h0 => (by rw [hr] at h0; cases h0), fun k hk => by
    rw [hr, List.mem_cons, List.mem_singleton] at hk
    rcases hk with rfl | rfl
    · rw [hsi]; exact hi
    · rw [hsj]; exact hj⟩
theorem F_three {i j l : Nat} {f : Nat} {s si sj sl : Array Bool} {a : Act} {w : World} (hr : Region.ready md ops s = [i, j, l]) (hsi : s.setIfInBounds i true = si) (hsj : s.setIfInBounds j true = sj) (hsl : s.setIfInBounds l true = sl)
    (hi : wpOp P ops Q i (fun a' w' => (i < n → F w') ∧ wpAnyF P md ops Q F n f si a' w') a w) (hj : wpOp P ops Q j (fun a' w' => (j < n → F w') ∧ wpAnyF P md ops Q F n f sj a' w') a w)
    (hl : wpOp P ops Q l (fun a' w' => (l < n → F w') ∧ wpAnyF P md ops Q F n f sl a' w') a w) : wpAnyF P md ops Q F n (f + 1) s a w :=
  ⟨fun h0 => (by rw [hr] at h0; cases h0), fun k hk => by
    rw [hr, List.mem_cons, List.mem_cons, List.mem_singleton] at hk
    rcases hk with rfl | rfl | rfl
    · rw [hsi]; exact hi
    · rw [hsj]; exact hj
    · rw [hsl]; exact hl⟩
theorem wpOp_enterL {i : Nat} {o : Oper} {d : Option Nat} {f : FuncId} {args : Array Value} {a : Act} {w : World} {K : Act → World → Prop} (hi : ops[i]? = some o) (hd : o.dst = d) (hg : Region.wanted o (yielded ops a.tmps) = true)
    (hx : (execOp a.eval o).run P w = .ok (.enter f args) w) (hc : Calls P f args w fun e w'' => ∃ v, e = .returned v ∧ K (a.put d v) w'') : wpOp P ops Q i K a w := by
  subst hd
  exact wpOp_enter hi hg hx hc
end
theorem rows_keep {α : Type} {C : Nat} {cells : α → List Value} {W W' : World} {A : Option Addr} {R : List α} (h : RowsAt C cells W W.heap.size A R) (hb : Below W.heap.size W W') : RowsAt C cells W' W'.heap.size A R := (h.below hb).more hb.size
theorem rows_new {α : Type} {C : Nat} {cells : α → List Value} (hC : ∀ x, (cells x).length = C) (W : World) (t : TypeId) (R : List α) (cs : Array Value) (hcs : cs.toList = R.flatMap cells) (hflat : ∀ k (hk : k < R.length) i u, i < C → (cells R[k])[i]? = some u → cs[k * C + i]? = some u) : RowsAt C cells (W.alloc (.cells cs t)) (W.alloc (.cells cs t)).heap.size (some ⟨W.heap.size, 0, none⟩) R := by
  intro _
  have := hC
  have := hcs
  refine ⟨W.heap.size, 0, rfl, by simp, fun k hk i u hi hu => ?_⟩
  rw [show 0 + k * C + i = k * C + i by omega]
  rw [(Blk.new W t cs).cell]
  exact hflat k hk i u hi hu
theorem below_new (W : World) (o : Obj) : Below W.heap.size W (W.alloc o) := (Below.refl _ _).alloc (Nat.le_refl _) o

theorem below_trans {B : Nat} {w W W' : World} (h : Below B w W) (hB : B ≤ W.heap.size) (hb : Below W.heap.size W W') : Below B w W' := h.trans (hb.mono hB)
theorem ints_new (W : World) (t : TypeId) (xs : List Int) : RowsAt 1 icell (W.alloc (.cells (xs.map (Value.int .i64)).toArray t)) (W.alloc (.cells (xs.map (Value.int .i64)).toArray t)).heap.size (some ⟨W.heap.size, 0, none⟩) xs := by
  intro _
  refine ⟨W.heap.size, 0, rfl, by simp, fun k hk i u hi hu => ?_⟩
  obtain rfl : i = 0 := by omega
  rw [show 0 + k * 1 + 0 = k by omega, (Blk.new W t _).cell]
  simp only [icell, List.getElem?_cons_zero, Option.some.injEq] at hu
  subst hu
  simp [hk]

end Go.Proofs.Ytpnbibokddhheaa
