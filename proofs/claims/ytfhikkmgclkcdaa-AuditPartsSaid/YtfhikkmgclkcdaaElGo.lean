/-
  The walks of elect.Go and of the functions that it hands down.
-/
import Derived.Test.YtfhikkmgclkcdaaProg
import Derived.Test.YtfhikkmgclkcdaaBest
namespace Go.Proofs.Ytfhikkmgclkcdaa
open Go.RowKit

theorem call_of {P : Program} {f : FuncId} {fn : Func} (h : P.funcs[f]? = some fn) (hb : fn.body.isNone = false) (hn : (fn.name == "runtime.NumGoroutine") = false) (xs : Array Value) (w : World) :
    (callFunc f xs).run P w = .ok (.enter f xs) w := by
  have hn' : fn.name ≠ "runtime.NumGoroutine" := by simpa using hn
  have hb' : fn.body ≠ none := by intro e; rw [e] at hb; cases hb
  simp [callFunc, go_sem, h, hb', hn']

theorem call39 (xs : Array Value) (w : World) : (callFunc 176 xs).run Try.prog w = .ok (.enter 176 xs) w := call_of Try.func176 rfl (by kernel_rfl) xs w
theorem call40 (xs : Array Value) (w : World) : (callFunc 177 xs).run Try.prog w = .ok (.enter 177 xs) w := call_of Try.func177 rfl (by kernel_rfl) xs w
theorem call41 (xs : Array Value) (w : World) : (callFunc 178 xs).run Try.prog w = .ok (.enter 178 xs) w := call_of Try.func178 rfl (by kernel_rfl) xs w

set_option maxHeartbeats 400000 in
theorem go1_any (a b c d : Int) (w : World) : Calls Try.prog 176 #[.agg #[.int .i64 a, .int .i64 b, .int .i64 c, .int .i64 d]] w fun e w' => e = .returned (.bool (q1 ⟨a, b, c, d⟩)) ∧ Below w.heap.size w w' := by
  unfold q1
  by_cases h : (c != a) = true
  · go_enter Try.func176, Try.ntmps176
    go_wp2
    go_ret
    exact ⟨by simp [h], (Below.refl _ _).alloc (Nat.le_refl _) _⟩
  · have h := Bool.eq_false_iff.2 h
    go_enter Try.func176, Try.ntmps176
    go_wp2
    go_ret
    exact ⟨by simp [h], (Below.refl _ _).alloc (Nat.le_refl _) _⟩
set_option maxHeartbeats 400000 in
theorem go2_any (a b c d : Int) (w : World) : Calls Try.prog 177 #[.agg #[.int .i64 a, .int .i64 b, .int .i64 c, .int .i64 d]] w fun e w' => e = .returned (.bool (q2 ⟨a, b, c, d⟩)) ∧ Below w.heap.size w w' := by
  unfold q2
  go_enter Try.func177, Try.ntmps177
  go_wp2
  go_ret
  exact ⟨rfl, (Below.refl _ _).alloc (Nat.le_refl _) _⟩
set_option maxHeartbeats 400000 in
theorem go3_any (a b c d : Int) (w : World) : Calls Try.prog 178 #[.agg #[.int .i64 a, .int .i64 b, .int .i64 c, .int .i64 d]] w fun e w' => e = .returned (.bool (q3 ⟨a, b, c, d⟩)) ∧ Below w.heap.size w w' := by
  unfold q3
  go_enter Try.func178, Try.ntmps178
  go_wp2
  go_ret
  exact ⟨rfl, (Below.refl _ _).alloc (Nat.le_refl _) _⟩

set_option maxHeartbeats 1000000 in
theorem go_any (A : Option Addr) (cap : Nat) (l : List Cand) (w : World) (B : Nat) (hl : CandsAt w B A l) (hB : B ≤ w.heap.size) (hn : l.length ≤ maxLen) :
    Calls Try.prog 154 #[.slice A l.length cap] w fun e w' => e = .returned (.tuple #[.int .i64 (goDr l), .int .i64 (goBdr l)]) ∧ Below w.heap.size w w' := by
  have hl := hl.more hB
  have hb := Below.refl w.heap.size w
  have Hl := Lib.hid hl
  have Hn := Lib.hid hn
  clear hl hn hB
  unfold goDr goBdr
  generalize hx1 : (bestC q1 l).id = x1
  generalize hx2 : (bestC q2 l).id = x2
  generalize hx3 : (bestC q3 l).id = x3
  have H1 := Lib.hid hx1
  have H2 := Lib.hid hx2
  have H3 := Lib.hid hx3
  clear hx1 hx2 hx3
  by_cases t1 : (x1 == 0) = true <;> by_cases t2 : (x3 == 0) = true
  all_goals
    try simp only [Bool.not_eq_true] at t1
    try simp only [Bool.not_eq_true] at t2
    go_enter Try.func154, Try.ntmps154
    go_wp2_with (first
      | ((with_reducible refine Calls.mono (best_any 176 call39 q1 go1_any A cap l _ (CandsAt.of Hl.out hb hb.size) Hn.out) ?_); rw [H1.out]; rintro e w1 ⟨rfl, hbn⟩; have hb := hb.trans (hbn.mono hb.size); clear hbn)
      | ((with_reducible refine Calls.mono (best_any 177 call40 q2 go2_any A cap l _ (CandsAt.of Hl.out hb hb.size) Hn.out) ?_); rw [H2.out]; rintro e w1 ⟨rfl, hbn⟩; have hb := hb.trans (hbn.mono hb.size); clear hbn)
      | ((with_reducible refine Calls.mono (best_any 178 call41 q3 go3_any A cap l _ (CandsAt.of Hl.out hb hb.size) Hn.out) ?_); rw [H3.out]; rintro e w1 ⟨rfl, hbn⟩; have hb := hb.trans (hbn.mono hb.size); clear hbn))
    go_ret2
    exact ⟨by simp, hb⟩

theorem go_n (n : Nat) (A : Option Addr) (cap : Nat) (l : List Cand) (w : World) (B : Nat) (hl : CandsAt w B A l) (hB : B ≤ w.heap.size) (hn : l.length ≤ maxLen) (hnl : n = l.length) :
    Calls Try.prog 154 #[.slice A n cap] w fun e w' => e = .returned (.tuple #[.int .i64 (goDr l), .int .i64 (goBdr l)]) ∧ Below w.heap.size w w' := by
  subst hnl; exact go_any A cap l w B hl hB hn

end Go.Proofs.Ytfhikkmgclkcdaa
