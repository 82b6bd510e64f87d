/-
  The walk of the reference's step (layer 10).
-/
import Derived.Test.YtkaeedffhmlomaaIfRef
import Derived.Test.YtkaeedffhmlomaaIfOrder
namespace Go.Proofs.Ytkaeedffhmlomaa
open Go.RowKit

theorem stepR0 (w : World) {B : Nat} {A : Option Addr} {l : List Cand} (hl : CandsAt w B A l) (hB : B ≤ w.heap.size) (xs ys : Array Value) :
    ∃ w0, (w.alloc (.cells xs 41)).alloc (.cells ys 41) = w0 ∧ Blk w0 w.heap.size 41 xs ∧ Blk w0 (w.heap.size + 1) 41 ys ∧ Below w.heap.size w w0 ∧ CandsAt w0 B A l ∧ B ≤ w0.heap.size := by
  have hb : Below w.heap.size w ((w.alloc (.cells xs 41)).alloc (.cells ys 41)) := ((Below.refl _ _).alloc (Nat.le_refl _) _).alloc (by simp) _
  refine ⟨_, rfl, (Blk.new w _ xs).alloc _, Blk.size (by simp), hb, CandsAt.below hl (hb.mono hB), Nat.le_trans hB hb.size⟩
theorem stepR1 {w w0 : World} {a b c d e x y z : Value} {ys : Array Value} {t : TypeId} {n : Nat} (h0 : Blk w0 n t #[a, b, c, d, e]) (h1 : Blk w0 (n + 1) t ys) (hb : Below n w w0) :
    ∃ w1, ((w0.setCell ⟨n, 2, none⟩ x).setCell ⟨n, 3, none⟩ y).setCell ⟨n, 4, none⟩ z = w1 ∧ Blk w1 n t #[a, b, x, y, z] ∧ Blk w1 (n + 1) t ys ∧ Below n w w1 := by
  refine ⟨_, rfl, by simpa using ((h0.set_ 2 x).set_ 3 y).set_ 4 z, ((h1.far (by simp) _).far (by simp) _).far (by simp) _, ((hb.setCell (by simp) _).setCell (by simp) _).setCell (by simp) _⟩
theorem stepR2 {w w0 : World} {a b c d e v x y z : Value} {ys : Array Value} {t : TypeId} {n : Nat} (h0 : Blk w0 n t #[a, b, c, d, e]) (h1 : Blk w0 (n + 1) t ys) (hb : Below n w w0) :
    ∃ w1, (((w0.setCell ⟨n, 2, none⟩ v).setCell ⟨n, 2, none⟩ x).setCell ⟨n, 3, none⟩ y).setCell ⟨n, 4, none⟩ z = w1 ∧ Blk w1 n t #[a, b, x, y, z] ∧ Blk w1 (n + 1) t ys ∧ Below n w w1 := by
  refine ⟨_, rfl, by simpa using (((h0.set_ 2 v).set_ 2 x).set_ 3 y).set_ 4 z, (((h1.far (by simp) _).far (by simp) _).far (by simp) _).far (by simp) _, (((hb.setCell (by simp) _).setCell (by simp) _).setCell (by simp) _).setCell (by simp) _⟩

set_option maxHeartbeats 8000000 in
set_option maxRecDepth 100000 in
theorem refStep_any (a b c d e ev : Int) (A : Option Addr) (cap : Nat) (l : List Cand) (w : World) (B : Nat) (hl : CandsAt w B A l) (hB : B ≤ w.heap.size) (hn : l.length ≤ 2 ^ 30)
    {a' b' c' d' e' : Int} (hx : refStepI ⟨a, b, c, d, e⟩ ev l = ⟨a', b', c', d', e'⟩) :
    Calls Try.prog 25 #[.agg #[.int .i64 a, .int .i64 b, .int .i64 c, .int .i64 d, .int .i64 e], .int .i64 ev, .slice A l.length cap] w
      fun r w' => r = .returned (.agg #[.int .i64 a', .int .i64 b', .int .i64 c', .int .i64 d', .int .i64 e']) ∧ Below w.heap.size w w' := by
  obtain ⟨w0, hW0, hk0, hk1, hb, hL, hB0⟩ := stepR0 w hl hB #[.int .i64 a, .int .i64 b, .int .i64 c, .int .i64 d, .int .i64 e] #[.int .i64 0, .int .i64 0, .int .i64 0, .int .i64 0, .int .i64 0]
  have HL := Lib.hid hL
  have HB0 := Lib.hid hB0
  have Hn := Lib.hid hn
  have Hb := Lib.hid hb
  have H0 := Lib.hid hk0
  have H1 := Lib.hid hk1
  obtain ⟨c0, c1, c2, c3, c4, f0, f1, f2, f3, f4⟩ := Blk.cells5 hk0
  obtain ⟨o0, o1, o2, o3, o4, r0, r1, r2, r3, r4⟩ := Blk.cells5 hk1
  clear hl hB hn hL hB0 hb hk0 hk1
  rcases refStep_cases a b c d e ev l with ⟨rfl, hr⟩ | ⟨rfl, rfl, hp, hr⟩ | ⟨rfl, rfl, hp, hr⟩ | ⟨rfl, rfl, hr⟩ | ⟨rfl, rfl, hr⟩ | ⟨rfl, rfl, hr⟩ | ⟨rfl, rfl, hr⟩ | ⟨rfl, rfl, hr⟩ | ⟨rfl, t1, t2, hr⟩ | ⟨rfl, t1, t2, t3, hr⟩ | ⟨rfl, t1, t2, hr⟩ | ⟨rfl, t1, t2, hr⟩ | ⟨rfl, t1, t2, hr⟩ | ⟨t1, t2, t3, t4, hr⟩ | ⟨t1, t2, t3, t4, t5, hr⟩
  all_goals
    rw [hx] at hr
    clear hx
  · have hr := hr.symm
    simp only [Ifc.mk.injEq] at hr
    obtain ⟨q0, q1, q2, q3, q4⟩ := hr
    subst q0; subst q1; subst q2; subst q3; subst q4
    obtain ⟨w1, hW1, hk0, hk1, hb1⟩ := stepR1 (x := .int .i64 0) (y := .int .i64 0) (z := .int .i64 0) H0.out H1.out Hb.out
    have Hb1 := Lib.hid hb1
    obtain ⟨d0, d1, d2, d3, d4, g0, g1, g2, g3, g4⟩ := Blk.cells5 hk0
    obtain ⟨p0, p1, p2, p3, p4, s0, s1, s2, s3, s4⟩ := Blk.cells5 hk1
    clear hk0 hk1 hb1
    go_enter Try.func25, Try.ntmps25
    go_wp2
    refine bodyPost_ret (v := .agg #[.int .i64 a, .int .i64 b, .int .i64 0, .int .i64 0, .int .i64 0]) (by simp [results, Try.results25, go_sem, p0, p1, p2, p3, p4]) rfl ⟨rfl, ?_⟩
    repeat (refine Below.setCell ?_ (by simp) _)
    exact Hb1.out
  · have hr := hr.symm
    simp only [Ifc.mk.injEq] at hr
    obtain ⟨q0, q1, q2, q3, q4⟩ := hr
    subst q0; subst q1; subst q2; subst q3; subst q4
    obtain ⟨w1, hW1, hk0, hk1, hb1⟩ := stepR2 (v := .int .i64 1) (x := .int .i64 2) (y := .int .i64 0) (z := .int .i64 0) H0.out H1.out Hb.out
    have Hb1 := Lib.hid hb1
    obtain ⟨d0, d1, d2, d3, d4, g0, g1, g2, g3, g4⟩ := Blk.cells5 hk0
    obtain ⟨p0, p1, p2, p3, p4, s0, s1, s2, s3, s4⟩ := Blk.cells5 hk1
    clear hk0 hk1 hb1
    go_enter Try.func25, Try.ntmps25
    go_wp2
    refine bodyPost_ret (v := .agg #[.int .i64 a, .int .i64 b, .int .i64 2, .int .i64 0, .int .i64 0]) (by simp [results, Try.results25, go_sem, p0, p1, p2, p3, p4]) rfl ⟨rfl, ?_⟩
    repeat (refine Below.setCell ?_ (by simp) _)
    exact Hb1.out
  · have hr := hr.symm
    simp only [Ifc.mk.injEq] at hr
    obtain ⟨q0, q1, q2, q3, q4⟩ := hr
    subst q0; subst q1; subst q2; subst q3; subst q4
    obtain ⟨w1, hW1, hk0, hk1, hb1⟩ := stepR1 (x := .int .i64 1) (y := .int .i64 0) (z := .int .i64 0) H0.out H1.out Hb.out
    have Hb1 := Lib.hid hb1
    obtain ⟨d0, d1, d2, d3, d4, g0, g1, g2, g3, g4⟩ := Blk.cells5 hk0
    obtain ⟨p0, p1, p2, p3, p4, s0, s1, s2, s3, s4⟩ := Blk.cells5 hk1
    clear hk0 hk1 hb1
    go_enter Try.func25, Try.ntmps25
    go_wp2
    refine bodyPost_ret (v := .agg #[.int .i64 a, .int .i64 b, .int .i64 1, .int .i64 0, .int .i64 0]) (by simp [results, Try.results25, go_sem, p0, p1, p2, p3, p4]) rfl ⟨rfl, ?_⟩
    repeat (refine Below.setCell ?_ (by simp) _)
    exact Hb1.out
  · have HX := Lib.hid hr.symm
    clear hr
    go_enter Try.func25, Try.ntmps25
    go_wp2_with (go_at_call 48; (with_reducible refine Calls.mono (refVote_any _ _ _ _ _ _ _ _ _ _ HL.out HB0.out Hn.out HX.out) ?_); rintro r w1 ⟨rfl, hb1⟩; have hk1 := H1.out.below hb1 H1.out.lt; have Hb1 := Lib.hid (Hb.out.trans (hb1.mono Hb.out.size)); obtain ⟨p0, p1, p2, p3, p4, s0, s1, s2, s3, s4⟩ := Blk.cells5 hk1; clear hk1 hb1)
    refine bodyPost_ret (v := .agg #[.int .i64 a', .int .i64 b', .int .i64 c', .int .i64 d', .int .i64 e']) (by simp [results, Try.results25, go_sem, p0, p1, p2, p3, p4]) rfl ⟨rfl, ?_⟩
    repeat (refine Below.setCell ?_ (by simp) _)
    exact Hb1.out
  · have HX := Lib.hid hr.symm
    clear hr
    go_enter Try.func25, Try.ntmps25
    go_wp2_with (go_at_call 48; (with_reducible refine Calls.mono (refVote_any _ _ _ _ _ _ _ _ _ _ HL.out HB0.out Hn.out HX.out) ?_); rintro r w1 ⟨rfl, hb1⟩; have hk1 := H1.out.below hb1 H1.out.lt; have Hb1 := Lib.hid (Hb.out.trans (hb1.mono Hb.out.size)); obtain ⟨p0, p1, p2, p3, p4, s0, s1, s2, s3, s4⟩ := Blk.cells5 hk1; clear hk1 hb1)
    refine bodyPost_ret (v := .agg #[.int .i64 a', .int .i64 b', .int .i64 c', .int .i64 d', .int .i64 e']) (by simp [results, Try.results25, go_sem, p0, p1, p2, p3, p4]) rfl ⟨rfl, ?_⟩
    repeat (refine Below.setCell ?_ (by simp) _)
    exact Hb1.out
  · have HX := Lib.hid hr.symm
    clear hr
    go_enter Try.func25, Try.ntmps25
    go_wp2_with (go_at_call 48; (with_reducible refine Calls.mono (refVote_any _ _ _ _ _ _ _ _ _ _ HL.out HB0.out Hn.out HX.out) ?_); rintro r w1 ⟨rfl, hb1⟩; have hk1 := H1.out.below hb1 H1.out.lt; have Hb1 := Lib.hid (Hb.out.trans (hb1.mono Hb.out.size)); obtain ⟨p0, p1, p2, p3, p4, s0, s1, s2, s3, s4⟩ := Blk.cells5 hk1; clear hk1 hb1)
    refine bodyPost_ret (v := .agg #[.int .i64 a', .int .i64 b', .int .i64 c', .int .i64 d', .int .i64 e']) (by simp [results, Try.results25, go_sem, p0, p1, p2, p3, p4]) rfl ⟨rfl, ?_⟩
    repeat (refine Below.setCell ?_ (by simp) _)
    exact Hb1.out
  · have HX := Lib.hid hr.symm
    clear hr
    go_enter Try.func25, Try.ntmps25
    go_wp2_with (go_at_call 48; (with_reducible refine Calls.mono (refVote_any _ _ _ _ _ _ _ _ _ _ HL.out HB0.out Hn.out HX.out) ?_); rintro r w1 ⟨rfl, hb1⟩; have hk1 := H1.out.below hb1 H1.out.lt; have Hb1 := Lib.hid (Hb.out.trans (hb1.mono Hb.out.size)); obtain ⟨p0, p1, p2, p3, p4, s0, s1, s2, s3, s4⟩ := Blk.cells5 hk1; clear hk1 hb1)
    refine bodyPost_ret (v := .agg #[.int .i64 a', .int .i64 b', .int .i64 c', .int .i64 d', .int .i64 e']) (by simp [results, Try.results25, go_sem, p0, p1, p2, p3, p4]) rfl ⟨rfl, ?_⟩
    repeat (refine Below.setCell ?_ (by simp) _)
    exact Hb1.out
  · have HX := Lib.hid hr.symm
    clear hr
    go_enter Try.func25, Try.ntmps25
    go_wp2_with (go_at_call 48; (with_reducible refine Calls.mono (refVote_any _ _ _ _ _ _ _ _ _ _ HL.out HB0.out Hn.out HX.out) ?_); rintro r w1 ⟨rfl, hb1⟩; have hk1 := H1.out.below hb1 H1.out.lt; have Hb1 := Lib.hid (Hb.out.trans (hb1.mono Hb.out.size)); obtain ⟨p0, p1, p2, p3, p4, s0, s1, s2, s3, s4⟩ := Blk.cells5 hk1; clear hk1 hb1)
    refine bodyPost_ret (v := .agg #[.int .i64 a', .int .i64 b', .int .i64 c', .int .i64 d', .int .i64 e']) (by simp [results, Try.results25, go_sem, p0, p1, p2, p3, p4]) rfl ⟨rfl, ?_⟩
    repeat (refine Below.setCell ?_ (by simp) _)
    exact Hb1.out
  · have hr := hr.symm
    simp only [Ifc.mk.injEq] at hr
    obtain ⟨q0, q1, q2, q3, q4⟩ := hr
    subst q0; subst q1; subst q2; subst q3; subst q4
    go_enter Try.func25, Try.ntmps25
    go_wp2
    refine bodyPost_ret (v := .agg #[.int .i64 a, .int .i64 b, .int .i64 _, .int .i64 d, .int .i64 e]) (by simp [results, Try.results25, go_sem, o0, o1, o2, o3, o4]) rfl ⟨rfl, ?_⟩
    repeat (refine Below.setCell ?_ (by simp) _)
    exact Hb.out
  · have hr := hr.symm
    simp only [Ifc.mk.injEq] at hr
    obtain ⟨q0, q1, q2, q3, q4⟩ := hr
    subst q0; subst q1; subst q2; subst q3; subst q4
    go_enter Try.func25, Try.ntmps25
    go_wp2
    refine bodyPost_ret (v := .agg #[.int .i64 a, .int .i64 b, .int .i64 _, .int .i64 d, .int .i64 e]) (by simp [results, Try.results25, go_sem, o0, o1, o2, o3, o4]) rfl ⟨rfl, ?_⟩
    repeat (refine Below.setCell ?_ (by simp) _)
    exact Hb.out
  · have hr := hr.symm
    simp only [Ifc.mk.injEq] at hr
    obtain ⟨q0, q1, q2, q3, q4⟩ := hr
    subst q0; subst q1; subst q2; subst q3; subst q4
    go_enter Try.func25, Try.ntmps25
    go_wp2
    refine bodyPost_ret (v := .agg #[.int .i64 a, .int .i64 b, .int .i64 _, .int .i64 d, .int .i64 e]) (by simp [results, Try.results25, go_sem, o0, o1, o2, o3, o4]) rfl ⟨rfl, ?_⟩
    repeat (refine Below.setCell ?_ (by simp) _)
    exact Hb.out
  · have hr := hr.symm
    simp only [Ifc.mk.injEq] at hr
    obtain ⟨q0, q1, q2, q3, q4⟩ := hr
    subst q0; subst q1; subst q2; subst q3; subst q4
    go_enter Try.func25, Try.ntmps25
    go_wp2
    refine bodyPost_ret (v := .agg #[.int .i64 a, .int .i64 b, .int .i64 _, .int .i64 d, .int .i64 e]) (by simp [results, Try.results25, go_sem, o0, o1, o2, o3, o4]) rfl ⟨rfl, ?_⟩
    repeat (refine Below.setCell ?_ (by simp) _)
    exact Hb.out
  · have hr := hr.symm
    simp only [Ifc.mk.injEq] at hr
    obtain ⟨q0, q1, q2, q3, q4⟩ := hr
    subst q0; subst q1; subst q2; subst q3; subst q4
    go_enter Try.func25, Try.ntmps25
    go_wp2
    refine bodyPost_ret (v := .agg #[.int .i64 a, .int .i64 b, .int .i64 _, .int .i64 d, .int .i64 e]) (by simp [results, Try.results25, go_sem, o0, o1, o2, o3, o4]) rfl ⟨rfl, ?_⟩
    repeat (refine Below.setCell ?_ (by simp) _)
    exact Hb.out
  · have hr := hr.symm
    simp only [Ifc.mk.injEq] at hr
    obtain ⟨q0, q1, q2, q3, q4⟩ := hr
    subst q0; subst q1; subst q2; subst q3; subst q4
    go_enter Try.func25, Try.ntmps25
    go_wp2
    refine bodyPost_ret (v := .agg #[.int .i64 a, .int .i64 b, .int .i64 _, .int .i64 d, .int .i64 e]) (by simp [results, Try.results25, go_sem, o0, o1, o2, o3, o4]) rfl ⟨rfl, ?_⟩
    repeat (refine Below.setCell ?_ (by simp) _)
    exact Hb.out
  · have hr := hr.symm
    simp only [Ifc.mk.injEq] at hr
    obtain ⟨q0, q1, q2, q3, q4⟩ := hr
    subst q0; subst q1; subst q2; subst q3; subst q4
    go_enter Try.func25, Try.ntmps25
    go_wp2
    refine bodyPost_ret (v := .agg #[.int .i64 a, .int .i64 b, .int .i64 _, .int .i64 d, .int .i64 e]) (by simp [results, Try.results25, go_sem, o0, o1, o2, o3, o4]) rfl ⟨rfl, ?_⟩
    repeat (refine Below.setCell ?_ (by simp) _)
    exact Hb.out

end Go.Proofs.Ytkaeedffhmlomaa
