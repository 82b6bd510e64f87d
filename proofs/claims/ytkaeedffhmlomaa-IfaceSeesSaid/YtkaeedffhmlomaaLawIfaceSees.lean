/-
  The law IfaceSees: its walk.
-/
import Derived.BigRegion
import Derived.Lib.QuietBelow
import Derived.Test.YtkaeedffhmlomaaIfC
namespace Go.Proofs.Ytkaeedffhmlomaa
open Go.RowKit Go.Sort

theorem seesB_cases (a b c d e x y z u : Int) (hx : ¬x = 0) :
    ((c == 1) = false ∧ seesB ⟨a, b, c, d, e⟩ ⟨x, y, z, u⟩ = false) ∨
    ((c == 1) = true ∧ (u == x) = true ∧ seesB ⟨a, b, c, d, e⟩ ⟨x, y, z, u⟩ = true) ∨
    ((c == 1) = true ∧ (u == x) = false ∧ (z == x) = false ∧ seesB ⟨a, b, c, d, e⟩ ⟨x, y, z, u⟩ = false) ∨
    ((c == 1) = true ∧ (u == x) = false ∧ (z == x) = true ∧ (u == 0) = false ∧ seesB ⟨a, b, c, d, e⟩ ⟨x, y, z, u⟩ = false) ∨
    ((c == 1) = true ∧ (u == x) = false ∧ (z == x) = true ∧ (u == 0) = true ∧ seesB ⟨a, b, c, d, e⟩ ⟨x, y, z, u⟩ = true) := by
  have hx' : (x != 0) = true := by simp [hx]
  unfold seesB
  cases (c == 1) <;> cases (u == x) <;> cases (z == x) <;> cases (u == 0) <;> simp [hx']
theorem below_two {w w1 w3 : World} (h1 : Below w.heap.size w w1) (h3 : Below w1.drew.heap.size w1.drew w3) : Below w.heap.size w w3 := h1.drew.trans (h3.mono h1.size)

set_option maxHeartbeats 8000000 in
set_option maxRecDepth 100000 in
theorem ifaceSees_any (a b c d e x y z u : Int) (w : World) :
    Calls Try.prog 11 #[.agg #[.int .i64 a, .int .i64 b, .int .i64 c, .int .i64 d, .int .i64 e], .agg #[.int .i64 x, .int .i64 y, .int .i64 z, .int .i64 u]] w fun r w' => r = .returned (.bool true) ∧ Below w.heap.size w w' := by
  have hb0 : ∀ o p, Below w.heap.size w ((w.alloc o).alloc p) := fun o p => (((Below.refl _ _).alloc (Nat.le_refl _) _).alloc (by simp) _)
  have Hb0 := Lib.hid hb0
  clear hb0
  by_cases h0 : x < 1
  · go_enter Try.func11, Try.ntmps11
    go_wp2_with (go_at_call 22; (with_reducible refine Calls.mono (wakes10 _) ?_); rintro r w1 ⟨rfl, hb1⟩; have Hb := Lib.hid ((Hb0.out _ _).trans (hb1.mono (Hb0.out _ _).size)); have e0 := (hb1.cell (p := ⟨w.heap.size + 1, 0, none⟩) (by simp)).trans ((Blk.size (w := w.alloc _) (g := w.heap.size + 1) (by simp)).cell 0); clear hb1)
    go_ret
    exact ⟨rfl, Hb.out⟩
  · have hx0 : ¬x = 0 := by omega
    have T : ∀ w1, Below (w.alloc (.cells #[.int .i64 a, .int .i64 b, .int .i64 c, .int .i64 d, .int .i64 e] 41)).heap.size ((w.alloc (.cells #[.int .i64 a, .int .i64 b, .int .i64 c, .int .i64 d, .int .i64 e] 41)).alloc (.cells #[.int .i64 x, .int .i64 y, .int .i64 z, .int .i64 u] 33)) w1 → True := fun _ _ => trivial
    clear T
    go_enter Try.func11, Try.ntmps11
    go_wp2_with (go_at_call 22; (with_reducible refine Calls.mono (wakes10 _) ?_); rintro r w1 ⟨rfl, hb1⟩; have Hb := Lib.hid ((Hb0.out _ _).trans (hb1.mono (Hb0.out _ _).size)); obtain ⟨c0, c1, c2, c3, c4, _⟩ := Blk.cells5 (((Blk.new w _ _).alloc _).below hb1 (by simp; omega)); obtain ⟨x0, x1, x2, x3, _⟩ := Blk.cells4 ((Blk.size (w := w.alloc _) (g := w.heap.size + 1) (by simp)).below hb1 (by simp)); have hsz := hb1.size; simp at hsz; clear hb1)
    have k0 := cell_regrown c0
    have k1 := cell_regrown c1
    have k2 := cell_regrown c2
    have k3 := cell_regrown c3
    have k4 := cell_regrown c4
    have y0 := cell_regrown x0
    have y1 := cell_regrown x1
    have y2 := cell_regrown x2
    have y3 := cell_regrown x3
    have hd := seesB_cases a b c d e x y z u hx0
    rcases hd with ⟨t1, hr⟩ | ⟨t1, t2, hr⟩ | ⟨t1, t2, t3, hr⟩ | ⟨t1, t2, t3, t4, hr⟩ | ⟨t1, t2, t3, t4, hr⟩
    all_goals
      have cS : ∀ dd os, Calls Try.prog 27 #[.agg #[.int .i64 a, .int .i64 b, .int .i64 c, .int .i64 d, .int .i64 e], .agg #[.int .i64 x, .int .i64 y, .int .i64 z, .int .i64 u]] (grow (redrawn w1 dd) os) fun r w'' => r = .returned (.bool _) ∧ ∃ p : Regrown, w'' = grow (redrawn w1 p.d) p.os := fun dd os => Calls.regrown_of (hr ▸ sees_any a b c d e x y z u _)
      have CS := Lib.hid cS
      clear cS hr
      refine wp_region_quiet_below (by kernel_rfl) (by kernel_rfl) ?_
      repeat (go_big_quiet_step (exact CS.out _ _))
      refine wpQuiet_nil ?_
      rintro w3 ⟨⟨dq, osq⟩, rfl⟩
      go_wp2
      go_ret
      exact ⟨rfl, Hb.out.trans ((below_regrown w1 dq osq).mono Hb.out.size)⟩

end Go.Proofs.Ytkaeedffhmlomaa
