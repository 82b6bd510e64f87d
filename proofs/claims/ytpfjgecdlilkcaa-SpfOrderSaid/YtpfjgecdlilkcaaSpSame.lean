/-
  Layer 21: hops, and nodes, that are alike: the document's words.
-/
import Derived.Test.YtpfjgecdlilkcaaSpUse
namespace Go.Proofs.Ytpfjgecdlilkcaa
open Go.RowKit

set_option maxHeartbeats 4000000 in
set_option maxRecDepth 100000 in
theorem refHops_eq (A1 A2 : Option Addr) (c1 c2 n : Nat) (L : List Hp) (w : World) (h1 : RowsH w w.heap.size A1 L) (h2 : RowsH w w.heap.size A2 L) (hl : L.length ≤ 2 ^ 20) (hn : n = L.length) :
    Calls Try.prog 56 #[.slice A1 n c1, .slice A2 n c2] w fun r w' => r = .returned (.bool true) ∧ Below w.heap.size w w' := by
  subst hn
  have H1 := Lib.hid h1
  have H2 := Lib.hid h2
  have hli : (L.length : Int) ≤ 1048576 := by omega
  have hne : ((L.length : Int) != (L.length : Int)) = false := by simp
  clear h1 h2 hl
  go_enter Try.func56, Try.ntmps56
  go_wp2
  go_loopw [5] (fun i wr => ∃ k : Nat, i = .int .i64 k ∧ k ≤ L.length ∧ Below w.heap.size w wr) (fun i _ => L.length - (intOf i).toNat)
  case atStart => exact ⟨0, rfl, Nat.zero_le _, Below.refl _ _⟩
  case round =>
    obtain ⟨k, rfl, hk, hb⟩ := hrel
    by_cases hlt : k < L.length
    · have hki : (k : Int) < (L.length : Int) := by omega
      obtain ⟨g, o, hA, -, x0, x1⟩ := row_hp ((H1.out.below hb).more hb.size) k hlt
      obtain ⟨g', o', hA', -, y0, y1⟩ := row_hp ((H2.out.below hb).more hb.size) k hlt
      have HA := Lib.hid hA
      have HA' := Lib.hid hA'
      rw [hA, hA']
      have Hlt := Lib.hid hlt
      have Hb := Lib.hid hb
      generalize L[k] = e at *
      obtain ⟨e1, e2⟩ := e
      simp only at x0 x1 y0 y1
      have heq := fun w => neqHpN e1 e2 e1 e2 w
      simp only [decide_true, Bool.not_true] at heq
      clear hA hA' hlt hb hk
      go_wp2
      go_quiet (fail)
      go_wp2
      go_roundw
      case measure => have := Hlt.out; simp [intOf]; omega
      case rel => exact ⟨k + 1, by go_num, Hlt.out, below_drewN Hb.out _⟩
    · have hke : k = L.length := by omega
      subst hke
      have hkk : ¬ (L.length : Int) < (L.length : Int) := by omega
      have Hb := Lib.hid hb
      clear hb hlt hk
      go_wp2
      go_ret
      exact ⟨rfl, Hb.out⟩
theorem neqVxN (a b a' b' : Int) (w : World) : (binOp .neq 40 (.agg #[.int .i64 a, .int .i64 b]) (.agg #[.int .i64 a', .int .i64 b'])).run Try.prog w = .ok (.bool (!decide ((⟨a, b⟩ : Vx) = ⟨a', b'⟩))) w := by
  have h := eqVxN a b a' b' w
  simp only [binOp]
  simp [Op.equal, Op.maxDepth, h]
set_option maxHeartbeats 8000000 in
set_option maxRecDepth 100000 in
theorem refSame21 (A1 A2 : Option Addr) (c1 c2 n1 n2 : Nat) (N M : List NodeM) (w : World) (h1 : NodesIn w w.heap.size A1 N) (h2 : NodesIn w w.heap.size A2 M) (hNM : N.map NodeM.nk = M.map NodeM.nk) (hl : N.length ≤ 2 ^ 20) (hn1 : n1 = N.length) (hn2 : n2 = M.length) :
    Calls Try.prog 28 #[.slice A1 n1 c1, .slice A2 n2 c2] w fun r w' => r = .returned (.bool true) ∧ Below w.heap.size w w' := by
  have hlen : N.length = M.length := by
    have := congrArg List.length hNM
    rwa [List.length_map, List.length_map] at this
  have hn12 : n2 = n1 := by omega
  subst hn12
  have H1 := Lib.hid h1
  have H2 := Lib.hid h2
  have HNM := Lib.hid hNM
  have Hn1 := Lib.hid hn1
  have Hn2 := Lib.hid hn2
  have hli : (n2 : Int) ≤ 1048576 := by omega
  have hne : ((n2 : Int) != (n2 : Int)) = false := by simp
  clear h1 h2 hl hNM hn1 hn2 hlen
  go_enter Try.func28, Try.ntmps28
  go_wp2
  go_loopw [5] (fun i wr => ∃ k : Nat, i = .int .i64 k ∧ k ≤ n2 ∧ Below w.heap.size w wr) (fun i _ => n2 - (intOf i).toNat)
  case atStart => exact ⟨0, rfl, Nat.zero_le _, Below.refl _ _⟩
  case round =>
    obtain ⟨k, rfl, hk, hb⟩ := hrel
    by_cases hlt : k < n2
    · have hki : (k : Int) < (n2 : Int) := by omega
      have hk1 : k < N.length := by have := Hn1.out; omega
      have hk2 : k < M.length := by have := Hn2.out; omega
      have r1 := (H1.out.below hb).more hb.size
      have r2 := (H2.out.below hb).more hb.size
      obtain ⟨g, o, hA, -, x0, x1, x2, x3, x4⟩ := row_nd r1.rows k hk1
      obtain ⟨g', o', hA', -, y0, y1, y2, y3, y4⟩ := row_nd r2.rows k hk2
      have hsame : N[k].nk = M[k].nk := by
        have := congrArg (fun l => l[k]?) HNM.out
        simp only [List.getElem?_map, List.getElem?_eq_getElem hk1, List.getElem?_eq_getElem hk2, Option.map_some, Option.some.injEq] at this
        exact this
      have e1 := r1.each _ (List.getElem_mem hk1)
      have e2 := r2.each _ (List.getElem_mem hk2)
      have el := r1.low _ (List.getElem_mem hk1)
      have HA := Lib.hid hA
      have HA' := Lib.hid hA'
      rw [hA, hA']
      generalize N[k] = x at *
      generalize M[k] = y at *
      obtain ⟨⟨xk, xi⟩, ⟨xa, xh⟩, xA, xc, xn⟩ := x
      obtain ⟨⟨yk, yi⟩, ⟨ya, yh⟩, yA, yc, yn⟩ := y
      unfold NodeM.nk at hsame
      simp only [Nk.mk.injEq, Vx.mk.injEq, Val2.mk.injEq] at hsame
      obtain ⟨⟨rfl, rfl⟩, ⟨rfl, rfl⟩, rfl⟩ := hsame
      simp only at x0 x1 x2 x3 x4 y0 y1 y2 y3 y4 e1 e2 el
      obtain ⟨nl, hnl⟩ : ∃ n, xn.length = n := ⟨_, rfl⟩
      rw [hnl] at x4 y4 el
      have HH := Lib.hid (fun q => refHops_eq xA yA xc yc nl xn (wr.drewN q) (e1.below (below_drewN (Below.refl _ _) q)) (e2.below (below_drewN (Below.refl _ _) q)) (by omega) hnl.symm)
      have Hlt := Lib.hid hlt
      have Hb := Lib.hid hb
      have heq := fun w => neqVxN xk xi xk xi w
      simp only [decide_true, Bool.not_true] at heq
      have hq1 : ((xa : Int) != (xa : Int)) = false := by simp
      have hq2 : ((xh : Int) != (xh : Int)) = false := by simp
      clear hA hA' hlt hb hk hk1 hk2 r1 r2 e1 e2 el hnl
      go_wp2
      refine wp_drew_tail 48 (by kernel_rfl) (by kernel_rfl) ?_
      simp only [List.take_succ_cons, List.take_zero, List.drop_succ_cons, List.drop_zero]
      repeat (go_big_quiet_step (fail))
      refine wpQuiet_nil ?_
      rintro w7 ⟨dq, rfl⟩
      go_wp2_with (go_at_call 56; (with_reducible refine Calls.mono (HH.out _) ?_); rintro r w8 ⟨rfl, hb8⟩; have Hb8 := Lib.hid (below_trans (below_drewN Hb.out _) (below_drewN Hb.out _).size hb8); clear hb8)
      go_roundw
      case measure => have := Hlt.out; simp [intOf]; omega
      case rel => exact ⟨k + 1, by go_num, Hlt.out, Hb8.out⟩
    · have hke : k = n2 := by omega
      subst hke
      have hkk : ¬ (k : Int) < (k : Int) := by omega
      have Hb := Lib.hid hb
      clear hb hlt hk
      go_wp2
      go_ret
      exact ⟨rfl, Hb.out⟩

end Go.Proofs.Ytpfjgecdlilkcaa
