/-
  Sums by Fletcher: the program's way.
-/
import Derived.Laws.ComplexArith
import Derived.StillTail
import Derived.Deep.QuietTactic
import Derived.Lib.QuietBelow
import Derived.OrdersHeld
import Derived.Deep.Quiet
import Derived.StillTailTactics
import Derived.Deep.CutRange
import Derived.Deep.DeepCutAuto
import Derived.Test.YtpnbibokddhheaaBaa
import Derived.Test.YtpnbibokddhheaaBab
namespace Go.Proofs.Ytpnbibokddhheaa
open Go.RowKit

theorem held_em (n : Int) : (n.tmod 255 + 255) % 255 = n % 255 := by
  rcases Int.le_total 0 n with hp | hp
  · rw [Int.tmod_eq_emod_of_nonneg hp]
    omega
  · have e : n.tmod 255 = -((-n) % 255) := by
      rw [← Int.tmod_eq_emod_of_nonneg (show 0 ≤ -n by omega), Int.neg_tmod, Int.neg_neg]
    rw [e]
    omega
theorem tmod_small (n : Int) : -255 < n.tmod 255 ∧ n.tmod 255 < 255 := by
  rcases Int.le_total 0 n with hp | hp
  · rw [Int.tmod_eq_emod_of_nonneg hp]; omega
  · have e : n.tmod 255 = -((-n) % 255) := by
      rw [← Int.tmod_eq_emod_of_nonneg (show 0 ≤ -n by omega), Int.neg_tmod, Int.neg_neg]
    rw [e]; omega
set_option maxHeartbeats 1000000 in
theorem held_v (n : Int) {m : Int} (hm : n % 255 = m) (w : World) : Calls Try.prog 122 #[.int .i64 n] w fun r w' => r = .returned (.int .i64 m) ∧ w = w' := by
  obtain ⟨t1, t2⟩ := tmod_small n
  have hm : (n.tmod 255 + 255) % 255 = m := (held_em n).trans hm
  have Hm := Lib.hid hm
  clear hm
  go_enter Try.func122, Try.ntmps122
  go_wp2
  go_ret
  refine ⟨?_, rfl⟩
  show Ending.returned (.int .i64 ((n.tmod 255 + 255) % 255)) = _
  rw [Hm.out]
theorem f64Int (b : Nat) (n : Int) (h : floatToIntVal .f64 b .i64 = some n) (w : World) : (convert 160 3 (.float .f64 b)).run Try.prog w = .ok (.int .i64 n) w :=
  run_convert_float_int w 160 3 .f64 .i64 b n (by rw [Try.underlying160]; rfl) Try.underlying3 h
theorem cAdd (T : TypeId) (a b c d : Nat) (h1 : a + c < 2 ^ 53) (h2 : b + d < 2 ^ 53) (w : World) : (binOp .add T (.complex .f64 (flt a) (flt b)) (.complex .f64 (flt c) (flt d))).run Try.prog w = .ok (.complex .f64 (flt (a + c)) (flt (b + d))) w := by
  refine run_complex_sum w .add (.inl rfl) T .f64 _ _ _ _ _ _ ?_
  unfold cSumBits
  rw [flt_add _ _ h1, flt_add _ _ h2]
  rfl
theorem flt_zero : flt 0 = 0 := by rw [flt_eq 0 (by omega)]; rfl
def byteOk (x : Int) : Prop := 0 ≤ x ∧ x < 256
theorem row_byte {w : World} {B : Nat} {A : Option Addr} {l : List Int} (h : RowsAt 1 bcell w B A l) (k : Nat) (hk : k < l.length) :
    ∃ b o, A = some ⟨b, o, none⟩ ∧ b < B ∧ w.cell? ⟨b, o + k, none⟩ = some (.int .u8 l[k]) := by
  obtain ⟨b, o, e, hb, hc⟩ := h (by omega)
  exact ⟨b, o, e, hb, by simpa using hc k hk 0 _ (by omega) rfl⟩

set_option maxHeartbeats 4000000 in
set_option maxRecDepth 100000 in
theorem Sums_any (A : Option Addr) (c : Nat) (L : List Int) (w : World) (B : Nat) (hL : RowsAt 1 bcell w B A L) (hB : B ≤ w.heap.size) (hbs : ∀ x ∈ L, byteOk x) (hm : L.length ≤ 2 ^ 30) (n : Nat) (hn : n = L.length) :
    Calls Try.prog 121 #[.slice A n c] w fun r w' => r = .returned (.tuple #[.int .i64 (sumsF L).1, .int .i64 (sumsF L).2]) ∧ w = w' := by
  subst hn
  have HL := Lib.hid (hL.more hB)
  have Hbs := Lib.hid hbs
  have f0 := flt_zero
  clear hL hB hbs
  go_enter Try.func121, Try.ntmps121
  go_wp2
  go_loopw [4, 9] (fun cv i wr => ∃ (k a b : Nat), i = .int .i64 k ∧ cv = .complex .f64 (flt a) (flt b) ∧ k ≤ L.length ∧ a < 255 ∧ b < 255 ∧ (L.take k).foldl stepF (0, 0) = ((a : Int), (b : Int)) ∧ wr = w) (fun _ i _ => L.length - (intOf i).toNat)
  case atStart => exact ⟨0, 0, 0, rfl, by rw [f0], Nat.zero_le _, by omega, by omega, rfl, rfl⟩
  case round =>
    obtain ⟨k, a, b, rfl, rfl, hk, ha, hb, hf, rfl⟩ := hrel
    clear f0
    by_cases hlt : k < L.length
    · obtain ⟨g, o, rfl, -, z0⟩ := row_byte HL.out k hlt
      have hkl : (k : Int) < (L.length : Int) := by omega
      obtain ⟨x, hx, hx2⟩ : ∃ x : Nat, L[k] = (x : Int) ∧ x < 256 := by
        have := Hbs.out L[k] (List.getElem_mem hlt)
        exact ⟨L[k].toNat, by have := this.1; omega, by have := this.2; have := this; omega⟩
      have hs : (L.take (k + 1)).foldl stepF (0, 0) = ((((a + x) % 255 : Nat) : Int), (((b + (a + x)) % 255 : Nat) : Int)) := by
        rw [List.take_succ_eq_append_getElem hlt, List.foldl_append, hf, hx]
        simp [stepF]
      rw [hx] at z0
      have Hs := Lib.hid hs
      clear hs hx hf
      have fx := flt_int x
      have c1 := fun T w => cAdd T a b x 0 (by omega) (by omega) w
      have c2 := fun T w => cAdd T (a + x) b 0 (a + x) (by omega) (by omega) w
      rw [flt_zero] at c1 c2
      obtain ⟨m1, hm1⟩ : ∃ m1 : Int, ((a + x : Nat) : Int) = m1 := ⟨_, rfl⟩
      obtain ⟨m2, hm2⟩ : ∃ m2 : Int, ((b + (a + x) : Nat) : Int) = m2 := ⟨_, rfl⟩
      have i1 := f64Int _ m1 (by rw [← hm1]; exact flt_toInt (a + x) (by omega))
      have i2 := f64Int _ m2 (by rw [← hm2]; exact flt_toInt (b + (a + x)) (by omega))
      obtain ⟨r1, hr1⟩ : ∃ r1 : Nat, (a + x) % 255 = r1 := ⟨_, rfl⟩
      obtain ⟨r2, hr2⟩ : ∃ r2 : Nat, (b + (a + x)) % 255 = r2 := ⟨_, rfl⟩
      have G1 := Lib.hid (show m1 % 255 = (r1 : Int) by rw [← hm1, ← hr1]; omega)
      have G2 := Lib.hid (show m2 % 255 = (r2 : Int) by rw [← hm2, ← hr2]; omega)
      have fr1 := flt_int r1
      have fr2 := flt_int r2
      rw [hr1, hr2] at Hs
      have L1 := Lib.hid (show r1 < 255 ∧ r2 < 255 by omega)
      clear hm1 hm2 hr1 hr2
      go_wp2_with (first
        | (go_at_call 122; (with_reducible refine Calls.mono (held_v m1 G1.out _) ?_); rintro r w2 ⟨rfl, rfl⟩)
        | (go_at_call 122; (with_reducible refine Calls.mono (held_v m2 G2.out _) ?_); rintro r w2 ⟨rfl, rfl⟩))
      go_roundw
      case measure => simp [intOf]; omega
      case rel => exact ⟨k + 1, r1, r2, by go_num, rfl, hlt, L1.out.1, L1.out.2, Hs.out, trivial⟩
    · have hkk : k = L.length := by omega
      subst hkk
      rw [List.take_length] at hf
      have hres : sumsF L = ((a : Int), (b : Int)) := hf
      have Hres := Lib.hid hres
      have i1 := f64Int _ (a : Int) (flt_toInt a (by omega))
      have i2 := f64Int _ (b : Int) (flt_toInt b (by omega))
      clear hf hres
      go_wp2
      go_ret2
      exact ⟨by rw [Hres.out]; rfl, rfl⟩

end Go.Proofs.Ytpnbibokddhheaa

/-
  Two bytes that make sums nothing: the program's way.
-/
namespace Go.Proofs.Ytpnbibokddhheaa
open Go.RowKit

theorem set_flatB (l : List Int) (k : Nat) (x : Int) : (l.set k x).flatMap bcell = (l.flatMap bcell).set k (.int .u8 x) := by
  induction l generalizing k with
  | nil => simp
  | cons d l ih =>
    cases k with
    | zero => simp [bcell]
    | succ k => simp only [List.set_cons_succ, List.flatMap_cons, ih k, bcell, List.cons_append, List.nil_append]
section
variable {w : World} {B g cap n : Nat} {l : List Int}
theorem OwnB.set1 (h : OwnB w B (.slice (some ⟨g, 0, none⟩) n cap) l) (hn : n = l.length) (k : Nat) (x : Int) : OwnB (w.setCell ⟨g, k, none⟩ (.int .u8 x)) B (.slice (some ⟨g, 0, none⟩) n cap) (l.set k x) := by
  subst hn
  unfold OwnB OwnR
  rw [set_flatB, List.length_set]
  exact (World.ownsRow.stored h k (.int .u8 x)).1
theorem OwnB.at_ (h : OwnB w B (.slice (some ⟨g, 0, none⟩) n cap) l) (k : Nat) (hk : k < l.length) : w.cell? ⟨g, k, none⟩ = some (.int .u8 l[k]) ∧ w.frozen? ⟨g, k, none⟩ = false := by
  obtain ⟨b, o, e, -, z⟩ := row_byte (OwnR.rows (C := 1) (cells := bcell) (fun _ => rfl) h).2 k hk
  injection e with e
  injection e with e1 e2
  subst e1 e2
  refine ⟨by simpa using z, ?_⟩
  rcases h.2 with ⟨hv, -⟩ | ⟨g', cap', cur, hv, -, hb, -⟩
  · cases hv
  · simp only [Value.slice.injEq, Option.some.injEq, Addr.mk.injEq, and_true] at hv
    obtain ⟨rfl, -, -⟩ := hv
    simp [World.frozen?, hb]
theorem OwnB.lt (h : OwnB w B (.slice (some ⟨g, 0, none⟩) n cap) l) : B ≤ g ∧ g < w.heap.size := h.block g rfl
end
theorem own_pair {w : World} {B n : Nat} {v : Value} {L : List Int} (h : OwnR 5 1 bcell w B v ([] ++ L)) (hn : n = L.length) (h16 : 16 ≤ n) :
    ∃ g c a b, v = .slice (some ⟨g, 0, none⟩) n c ∧ OwnB w B (.slice (some ⟨g, 0, none⟩) n c) L ∧ w.cell? ⟨g, 14, none⟩ = some (.int .u8 a) ∧ w.frozen? ⟨g, 14, none⟩ = false ∧ w.cell? ⟨g, 15, none⟩ = some (.int .u8 b) ∧ w.frozen? ⟨g, 15, none⟩ = false := by
  rw [List.nil_append] at h
  subst hn
  rcases h.shape2 with ⟨-, h0⟩ | ⟨g, c5, rfl, hc5⟩
  · rw [h0] at h16; simp at h16
  · exact ⟨g, c5, _, _, rfl, h, (OwnB.at_ h 14 (by omega)).1, (OwnB.at_ h 14 (by omega)).2, (OwnB.at_ h 15 (by omega)).1, (OwnB.at_ h 15 (by omega)).2⟩
def zero2 (bs : List Int) : List Int := (bs.set 14 0).set 15 0
def bytA (bs : List Int) : Int := fillA ((bs.length : Int) - 14) (sumsF (zero2 bs)).1 (sumsF (zero2 bs)).2
def bytB (bs : List Int) : Int := fillB ((bs.length : Int) - 14) (sumsF (zero2 bs)).1 (sumsF (zero2 bs)).2
def fillL (bs : List Int) : List Int := ((zero2 bs).set 14 (bytA bs)).set 15 (bytB bs)
theorem sumsF_lt (bs : List Int) : 0 ≤ (sumsF bs).1 ∧ (sumsF bs).1 < 255 ∧ 0 ≤ (sumsF bs).2 ∧ (sumsF bs).2 < 255 := by
  rw [sums_eq]
  simp only
  omega
theorem zero2_ok {bs : List Int} (h : ∀ x ∈ bs, byteOk x) : ∀ x ∈ zero2 bs, byteOk x := by
  intro x hx
  unfold zero2 at hx
  rcases List.mem_or_eq_of_mem_set hx with hx | rfl
  · rcases List.mem_or_eq_of_mem_set hx with hx | rfl
    · exact h x hx
    · exact ⟨by omega, by omega⟩
  · exact ⟨by omega, by omega⟩

set_option maxHeartbeats 4000000 in
set_option maxRecDepth 100000 in
theorem Fill_any (A : Option Addr) (c : Nat) (L : List Int) (w : World) (B : Nat) (hL : RowsAt 1 bcell w B A L) (hB : B ≤ w.heap.size) (hbs : ∀ x ∈ L, byteOk x) (h16 : 16 ≤ L.length) (hm : L.length ≤ 2 ^ 20) (n : Nat) (hn : n = L.length) :
    Calls Try.prog 98 #[.slice A n c, .int .i64 14] w fun r w' => ∃ v, r = .returned (.tuple #[v, .bool true]) ∧ OwnB w' w.heap.size v (fillL L) ∧ Below w.heap.size w w' := by
  have HL := Lib.hid (hL.more hB)
  have Hbs := Lib.hid hbs
  have HE := Lib.hid (OwnR.nil (e := 5) (C := 1) (cells := bcell) w w.heap.size)
  have hnl : ¬(n : Int) - 2 < 14 := by omega
  have Hn := Lib.hid hn
  have hn2 : 16 ≤ n := by omega
  have hm2 : n ≤ 2 ^ 20 := by omega
  clear hL hB hbs hn h16 hm
  go_enter Try.func98, Try.ntmps98
  go_wp2_with (at_builtin; (refine app_rows (e := 5) bcell (fun _ => rfl) (by decide) (bytes := 1) (by decide) infoB rfl Try.underlying131 onesB (by rfl) _ _ (by rfl) w.heap.size _ [] (by rfl) HE.out A c n L Hn.out (by rfl) HL.out (by have := Hn.out; simp; omega) (Nat.le_refl _) ?_); intro v5 w5 hown5 hg5 hor5; have Hb5 := Lib.hid ((Below.refl w.heap.size w).grown hg5 (Nat.le_refl _) (fun j hj => (HE.out.block j hj).1)); obtain ⟨g, c5, a0, b0, rfl, hown6, z1, q1, z2, q2⟩ := own_pair hown5 Hn.out hn2; have Hown5 := Lib.hid hown6; clear hown5 hg5 hor5 hown6)
  have hown7 := (Hown5.out.set1 Hn.out 14 0).set1 (by rw [List.length_set]; exact Hn.out) 15 0
  have hgl := Hown5.out.lt
  have hb7 := (Hb5.out.setCell (p := ⟨g, 14, none⟩) hgl.1 (.int .u8 0)).setCell (p := ⟨g, 15, none⟩) hgl.1 (.int .u8 0)
  obtain ⟨w7, hW7⟩ : ∃ w7, (w5.setCell ⟨g, 14, none⟩ (.int .u8 0)).setCell ⟨g, 15, none⟩ (.int .u8 0) = w7 := ⟨_, rfl⟩
  rw [hW7] at hown7 hb7 ⊢
  have hzl : n = (zero2 L).length := by unfold zero2; rw [List.length_set, List.length_set]; exact Hn.out
  have hown7 : OwnB w7 w.heap.size (.slice (some ⟨g, 0, none⟩) n c5) (zero2 L) := hown7
  obtain ⟨a2, z3, q3⟩ : ∃ a2, w7.cell? ⟨g, 14, none⟩ = some (.int .u8 a2) ∧ w7.frozen? ⟨g, 14, none⟩ = false := ⟨_, hown7.at_ 14 (by omega)⟩
  obtain ⟨b2, z4, q4⟩ : ∃ b2, w7.cell? ⟨g, 15, none⟩ = some (.int .u8 b2) ∧ w7.frozen? ⟨g, 15, none⟩ = false := ⟨_, hown7.at_ 15 (by omega)⟩
  have hS := Sums_any (some ⟨g, 0, none⟩) c5 (zero2 L) w7 w7.heap.size (OwnR.rows (C := 1) (cells := bcell) (fun _ => rfl) hown7).2 (Nat.le_refl _) (zero2_ok Hbs.out) (by omega) n hzl
  obtain ⟨l1, l2, l3, l4⟩ := sumsF_lt (zero2 L)
  obtain ⟨x, hx⟩ : ∃ x, (sumsF (zero2 L)).1 = x := ⟨_, rfl⟩
  obtain ⟨y, hy⟩ : ∃ y, (sumsF (zero2 L)).2 = y := ⟨_, rfl⟩
  rw [hx, hy] at hS
  rw [hx] at l1 l2
  rw [hy] at l3 l4
  have hA : bytA L = ((((n : Int) - 14) - 1) * x - y) % 255 := by unfold bytA fillA; rw [hx, hy, Hn.out]
  have hBB : bytB L = (y - ((n : Int) - 14) * x) % 255 := by unfold bytB fillB; rw [hx, hy, Hn.out]
  have k1 : (0 : Int) ≤ ((n : Int) - 14 - 1) * x := Int.mul_nonneg (by omega) l1
  have k2 : ((n : Int) - 14 - 1) * x ≤ 2 ^ 20 * 255 := Int.mul_le_mul (by omega) (by omega) l1 (by omega)
  have k3 : (0 : Int) ≤ ((n : Int) - 14) * x := Int.mul_nonneg (by omega) l1
  have k4 : ((n : Int) - 14) * x ≤ 2 ^ 20 * 255 := Int.mul_le_mul (by omega) (by omega) l1 (by omega)
  have HS := Lib.hid hS
  have Hown7 := Lib.hid hown7
  have Hb7 := Lib.hid hb7
  have HA := Lib.hid hA
  have HBB := Lib.hid hBB
  clear hS hown7 hb7 hA hBB hx hy hW7 z1 q1 z2 q2 hzl hgl
  obtain ⟨a1, ha1⟩ : ∃ a1, bytA L = a1 := ⟨_, rfl⟩
  obtain ⟨b1, hb1⟩ : ∃ b1, bytB L = b1 := ⟨_, rfl⟩
  have Ha1 := Lib.hid ha1
  have Hb1 := Lib.hid hb1
  have e1 : a1 % 256 = a1 := by rw [← ha1, HA.out]; omega
  have e2 : b1 % 256 = b1 := by rw [← hb1, HBB.out]; omega
  clear ha1 hb1
  go_wp2_with fail
  with_reducible refine Calls.mono HS.out ?_
  rintro r w8 ⟨rfl, rfl⟩
  have HH1 := Lib.hid (fun w => held_v (((n : Int) - 14 - 1) * x - y) (m := a1) (by rw [← Ha1.out, HA.out]) w)
  have HH2 := Lib.hid (fun w => held_v (y - ((n : Int) - 14) * x) (m := b1) (by rw [← Hb1.out, HBB.out]) w)
  go_wp2_with (first
    | (go_at_call 122; (with_reducible refine Calls.mono (HH1.out _) ?_); rintro r w2 ⟨rfl, rfl⟩)
    | (go_at_call 122; (with_reducible refine Calls.mono (HH2.out _) ?_); rintro r w2 ⟨rfl, rfl⟩))
  go_ret2
  refine ⟨_, rfl, ?_, ?_⟩
  · have h1 := (Hown7.out.set1 (by unfold zero2; rw [List.length_set, List.length_set]; exact Hn.out) 14 a1).set1 (by unfold zero2; rw [List.length_set, List.length_set, List.length_set]; exact Hn.out) 15 b1
    unfold fillL
    rw [Ha1.out, Hb1.out]
    exact h1
  · exact (Hb7.out.setCell (p := ⟨g, 14, none⟩) (Hown7.out.lt).1 _).setCell (p := ⟨g, 15, none⟩) (Hown7.out.lt).1 _

end Go.Proofs.Ytpnbibokddhheaa

/-
  A region that draws its order: operations that are quiet in a class of worlds, in whatever order, and behind them a forced tail: one walk.
-/
namespace Go.Proofs.Ytpnbibokddhheaa
open Go Go.Sort

section
variable {P : Program} {ops : Array Oper} {C : World → Prop}

/-- The head's operations, whichever comes up, and then L. -/
def headQ (P : Program) (ops : Array Oper) (C : World → Prop) (n : Nat) (L : Array Bool → Act → Prop) : Nat → Array Bool → Act → Prop
  | 0, s, a => L s a
  | f + 1, s, a => Region.ready .any ops s ≠ [] ∧ ∀ i, i ∈ Region.ready .any ops s → i < n ∧ qOp P ops C i (headQ P ops C n L f (s.setIfInBounds i true)) a

theorem headQ_any {n g : Nat} {L : Array Bool → Act → Prop} {Q : Exit → Act → World → Prop} (hL : ∀ s a w, C w → L s a → wpAny P .any ops Q g s a w) (f : Nat) :
    ∀ s a w, C w → headQ P ops C n L f s a → wpAny P .any ops Q (f + g) s a w := by
  induction f with
  | zero => intro s a w hw h; rw [Nat.zero_add]; exact hL s a w hw h
  | succ f ih =>
    intro s a w hw h
    rw [Nat.succ_add]
    exact ⟨fun h0 => absurd h0 h.1, fun i hi => wpOp_of_qOp hw (fun a' w' hw' h' => ih _ a' w' hw' h') (h.2 i hi).2⟩

theorem headQ_take {n i : Nat} {oi : Oper} {v : Value} {L : Array Bool → Act → Prop} (hi : ops[i]? = some oi) (hsel : ∀ (j : Nat) (o : Oper) cs b, ops[j]? = some o → o.op ≠ .select cs b)
    (hs : Region.sinkB .any ops n = true) (hc : Region.chainB .any ops n = true) (hn : n < ops.size) (hin : i < n) (hdone : ∀ s a, L s a → ∀ j, j ∈ Region.ready .any ops s → n ≤ j) (f : Nat) :
    ∀ s a, HeadInv .any ops n s → (∀ j oj, ops[j]? = some oj → j ≠ i → s.getD j true = false → (∀ e, e ∈ oj.after → Region.binds .any e = true → e.on ≠ i) → oi.apart ops oj = true) →
      i ∈ Region.ready .any ops s → YieldsIn P ops C oi v a → headQ P ops C n L f (s.setIfInBounds i true) (a.put oi.dst v) → headQ P ops C n L (f + 1) s a := by
  induction f with
  | zero =>
    intro s a inv _ hr hy H
    have hun := (mem_ready.1 hr).1
    refine ⟨fun h0 => by rw [h0] at hr; exact absurd hr List.not_mem_nil, fun j hj => ?_⟩
    have hjn : j < n := Nat.lt_of_not_le fun h => tail_waits hs hc hn inv _ i rfl hin hun j h hj
    refine ⟨hjn, ?_⟩
    by_cases hji : j = i
    · subst hji; exact hy.qOp hi H
    · exact absurd (hdone _ _ H j (ready_mono hj hji)) (by omega)
  | succ f ih =>
    intro s a inv hfree hr hy H
    have hun := (mem_ready.1 hr).1
    refine ⟨fun h0 => by rw [h0] at hr; exact absurd hr List.not_mem_nil, fun j hj => ?_⟩
    have hjn : j < n := Nat.lt_of_not_le fun h => tail_waits hs hc hn inv _ i rfl hin hun j h hj
    refine ⟨hjn, ?_⟩
    by_cases hji : j = i
    · subst hji; exact hy.qOp hi H
    · obtain ⟨hjun, oj, hoj, hall⟩ := mem_ready.1 hj
      have hno : ∀ e, e ∈ oj.after → Region.binds .any e = true → e.on ≠ i := by
        intro e he hb heq
        have h1 := hall e he hb
        rw [heq, getD_both hun] at h1
        exact Bool.noConfusion h1
      refine qOp_mono (fun a' h3 => ih (s.setIfInBounds j true) a' (inv.set hj hjn) ?_ (ready_mono hr (Ne.symm hji)) h3.1 ?_)
        (qOp_put hoj (hfree j oj hoj hji hjun hno) (fun cs b => hsel i oi cs b hi) (fun cs b => hsel j oj cs b hoj) hy (H.2 j (ready_mono hj hji)).2)
      · intro k ok hk hki hku hkn
        refine hfree k ok hk hki ?_ hkn
        by_cases hjk : j = k
        · subst hjk; exact hjun
        · rwa [getD_set_ne true hjk] at hku
      · rw [Array.setIfInBounds_comm _ _ hji]; exact h3.2

theorem headQ_text {n g : Nat} {R : Act → Prop} (hsel : Region.noSelect ops = true) (hs : Region.sinkB .any ops n = true) (hc : Region.chainB .any ops n = true) (hn : n < ops.size) (l : List Oper) :
    ∀ (k : Nat) (s : Array Bool) (a : Act), (∀ j, j < l.length → l[j]? = ops[k + j]?) → k + l.length = n → HeadInv .any ops n s → Region.lexHead .any ops g l.length k s = true → wpQuiet P ops C R l a →
      headQ P ops C n (fun s' a' => Region.seqB .any ops g n s' = true ∧ R a') l.length s a := by
  induction l with
  | nil =>
    intro k s a _ hk _ hB h
    obtain rfl : k = n := by simpa using hk
    exact ⟨by simpa [Region.lexHead] using hB, h⟩
  | cons o l ih =>
    intro k s a hl hk inv hB h
    have h0 : ops[k]? = some o := by have := hl 0 (by simp); simpa using this.symm
    simp only [List.length_cons, Region.lexHead, Bool.and_eq_true] at hB
    have hkn : k < n := by simp only [List.length_cons] at hk; omega
    have hr : k ∈ Region.ready .any ops s := by simpa using hB.1.1
    have hq : qOp P ops C k (wpQuiet P ops C R l) a := by unfold qOp; simp only [h0]; exact h
    obtain ⟨v, hy, hK⟩ := yieldsIn_of_qOp h0 hq
    refine headQ_take h0 (Region.noSelect_spec hsel) hs hc hn hkn (fun s' a' hL => seqB_ready hL.1) l.length s a inv (Region.free_spec h0 hB.1.2) hr hy ?_
    refine ih (k + 1) _ _ (fun j hj => ?_) (by simp only [List.length_cons] at hk; omega) (inv.set hr hkn) hB.2 hK
    have := hl (j + 1) (by simp; omega)
    simpa [Nat.add_assoc, Nat.add_comm 1 j] using this

theorem wp_quiet_tail {id : Nat} {Q : Exit → Act → World → Prop} {a : Act} {w : World} {l : List Oper} (n : Nat) (hm : P.follows .mixedOrders = true) (hB : Region.lexTailB .any l.toArray n = true) (hC : C { w with drawn := w.drawn + 1 })
    (h : wpQuiet P l.toArray C (fun a' => ∀ w', C w' → wpList P l.toArray Q (l.drop n) a' w') (l.take n) a) : (Code.region id l.toArray true).wp P Q a w := by
  simp only [Region.lexTailB, Bool.and_eq_true, decide_eq_true_eq] at hB
  obtain ⟨⟨⟨⟨hsel, hn⟩, hs⟩, hc⟩, hlex⟩ := hB
  have hn' : n < l.length := by simpa using hn
  have htl : (l.take n).length = n := by simp; omega
  have inv : HeadInv .any l.toArray n (Array.replicate l.toArray.size false) :=
    ⟨by simp, fun j oj _ hl => (by rw [getD_replicate_false] at hl; exact Bool.noConfusion hl), fun t _ ht => getD_in (by simpa using ht) (getD_replicate_false _ _)⟩
  have H := headQ_text (g := l.toArray.size - n) hsel hs hc hn (l.take n) 0 _ a (fun j hj => by
    rw [htl] at hj
    simp [hj]) (by simpa using htl) inv (by rw [htl]; exact hlex) h
  refine wp_region_any hm ?_
  have := headQ_any (Q := Q) (g := l.toArray.size - n) (fun s a' w' hw' hL => by
    have := wpAny_of_seq (md := .any) (Q' := Q) (l.drop n) n s a' w' (fun j => by simp [List.getElem?_drop]) (by simpa using hL.1) (hL.2 w' hw')
    simpa using this) _ _ _ _ hC H
  rw [htl, show n + (l.toArray.size - n) = l.toArray.size by omega] at this
  exact this
end

/-- At the class of the worlds in which nothing old has turned. -/
theorem wp_below_tail {P : Program} {id : Nat} {Q : Exit → Act → World → Prop} {a : Act} {w : World} {l : List Oper} (n : Nat) (hm : P.follows .mixedOrders = true) (hB : Region.lexTailB .any l.toArray n = true)
    (h : wpQuiet P l.toArray (fun w' => ∃ p : Regrown, w' = grow (redrawn w p.d) p.os) (fun a' => ∀ w', (∃ p : Regrown, w' = grow (redrawn w p.d) p.os) → wpList P l.toArray Q (l.drop n) a' w') (l.take n) a) : (Code.region id l.toArray true).wp P Q a w :=
  wp_quiet_tail (C := fun w' => ∃ p : Regrown, w' = grow (redrawn w p.d) p.os) n hm hB ⟨⟨w.drawn + 1, #[]⟩, by rw [grow_empty]; rfl⟩ h

end Go.Proofs.Ytpnbibokddhheaa

/-
  A region that draws its order, in a class of worlds: operations whose value hangs on the class alone are taken first, calls too; of another one whatever it yields.
-/
namespace Go.Proofs.Ytpnbibokddhheaa
open Go

section
variable {P : Program} {ops : Array Oper} {md : Region.Mode} {C : World → Prop} {Q : Exit → Act → World → Prop}

def kOp (P : Program) (ops : Array Oper) (C : World → Prop) (Q : Exit → Act → World → Prop) (i : Nat) (K : Act → Prop) (a : Act) : Prop := ∀ w, C w → wpOp P ops Q i (fun a' w' => C w' ∧ K a') a w
def wpAnyK (P : Program) (md : Region.Mode) (ops : Array Oper) (C : World → Prop) (Q : Exit → Act → World → Prop) : Nat → Array Bool → Act → Prop
  | 0, s, a => Region.ready md ops s = [] ∧ ∀ w, C w → Q .normal a w
  | f + 1, s, a => (Region.ready md ops s = [] → ∀ w, C w → Q .normal a w) ∧ ∀ i ∈ Region.ready md ops s, kOp P ops C Q i (wpAnyK P md ops C Q f (s.setIfInBounds i true)) a

theorem kOp_mono {i : Nat} {K K' : Act → Prop} {a : Act} (h : ∀ a, K a → K' a) (hk : kOp P ops C Q i K a) : kOp P ops C Q i K' a := fun w hw => wpOp_mono (fun _ _ ⟨h1, h2⟩ => ⟨h1, h _ h2⟩) (hk w hw)
theorem wpAny_of_K : ∀ (f : Nat) (s : Array Bool) (a : Act) (w : World), C w → wpAnyK P md ops C Q f s a → wpAny P md ops Q f s a w
  | 0, _, _, w, hw, h => ⟨h.1, h.2 w hw⟩
  | f + 1, _, _, w, hw, h => ⟨fun h0 => h.1 h0 w hw, fun i hi => wpOp_mono (fun a' w' ⟨h1, h2⟩ => wpAny_of_K f _ a' w' h1 h2) (h.2 i hi w hw)⟩

/-- what an operation that lies apart leaves as it was -/
theorem wpOp_put_inv {j : Nat} {oi oj : Oper} {v : Value} {I : Act → Prop} (hj : ops[j]? = some oj) (hap : oi.apart ops oj = true) (hsj : ∀ cs b, oj.op ≠ .select cs b)
    (hQ : ∀ c a w, Q (.panic c) (a.put oi.dst v) w → Q (.panic c) a w) (keep : ∀ a, I a → ∀ u, I (a.put oj.dst u)) (keepD : ∀ a, I a → ∀ d, I { a with defers := d :: a.defers })
    {K : Act → World → Prop} {a : Act} {w : World} (hI : I a) (h : wpOp P ops Q j K (a.put oi.dst v) w) : wpOp P ops Q j (fun a' w' => I a' ∧ K (a'.put oi.dst v) w') a w := by
  obtain ⟨h1, h2, h3⟩ := Oper.apart_spec hap
  unfold wpOp at *
  simp only [hj] at *
  rw [wanted_put oj a oi.dst v h1] at h
  by_cases hw : Region.wanted oj (yielded ops a.tmps) = true
  · simp only [hw, if_true] at h ⊢
    rcases h with h | ⟨hasks, hlets⟩
    · left
      unfold Oper.wp at *
      rw [execOp_put oj hsj a oi.dst v h1] at h
      rcases hr : (execOp a.eval oj).run P w with ⟨n, w'⟩ | ⟨x, w'⟩
      · rw [hr] at h
        cases n <;> simp only [Oper.upon] at h ⊢
        case value u => exact ⟨keep a hI u, by rw [← Act.put_comm a v u h2]; exact h⟩
        case skip => exact ⟨keep a hI _, by rw [← Act.put_comm a v undef h2]; exact h⟩
        case defer d => exact ⟨keep _ (keepD a hI d) _, by rw [← Act.put_comm _ v undef h2, ← Act.put_defers]; exact h⟩
        case enter f args =>
          refine Calls.mono h fun e w'' he => ?_
          cases e with
          | returned u => exact ⟨keep a hI u, by rw [← Act.put_comm a v u h2]; exact he⟩
          | panicked c => exact hQ _ _ _ he
          | outgrown => exact he
        case row row args => exact Rows.mono h fun u w'' he => ⟨keep a hI u, by rw [← Act.put_comm a v u h2]; exact he⟩
      · rw [hr] at h
        cases x <;> simp only [Oper.upon] at h ⊢
        exact hQ _ _ _ h
    · right
      refine ⟨?_, hlets⟩
      unfold Oper.asks at *
      rw [execOp_put oj hsj a oi.dst v h1] at hasks
      exact hasks
  · simp only [hw, Bool.false_eq_true, if_false] at h ⊢
    exact ⟨keep a hI _, by rw [← Act.put_comm a v undef h2]; exact h⟩
theorem kOp_put {j : Nat} {oi oj : Oper} {v : Value} (hj : ops[j]? = some oj) (hap : oi.apart ops oj = true) (hsi : ∀ cs b, oi.op ≠ .select cs b) (hsj : ∀ cs b, oj.op ≠ .select cs b)
    (hQ : ∀ c a w, Q (.panic c) (a.put oi.dst v) w → Q (.panic c) a w) {K : Act → Prop} {a : Act} (hy : YieldsIn P ops C oi v a) (h : kOp P ops C Q j K (a.put oi.dst v)) :
    kOp P ops C Q j (fun a' => YieldsIn P ops C oi v a' ∧ K (a'.put oi.dst v)) a := fun w hw => by
  obtain ⟨h1, h2, h3⟩ := Oper.apart_spec hap
  have := wpOp_put_inv (I := fun a => YieldsIn P ops C oi v a) hj hap hsj hQ (fun a hy u => hy.of_same (execOp_put oi hsi a oj.dst u h3) (wanted_put oi a oj.dst u h3)) (fun a hy d => hy.of_same rfl rfl) hy (h w hw)
  exact wpOp_mono (fun a' w' ⟨x1, x2, x3⟩ => ⟨x2, x1, x3⟩) this
theorem kOp_of_yields {i : Nat} {oi : Oper} {v : Value} {a : Act} {K : Act → Prop} (hi : ops[i]? = some oi) (hy : YieldsIn P ops C oi v a) (h : K (a.put oi.dst v)) : kOp P ops C Q i K a := fun w hw => by
  have hq : qOp P ops C i K a := hy.qOp hi h
  exact wpOp_of_qOp hw (fun a' w' hw' hk => ⟨hw', hk⟩) hq

theorem wpAnyK_first {i : Nat} {oi : Oper} {v : Value} (hi : ops[i]? = some oi) (hsel : ∀ (j : Nat) (o : Oper) cs b, ops[j]? = some o → o.op ≠ .select cs b)
    (hQ : ∀ c a w, Q (.panic c) (a.put oi.dst v) w → Q (.panic c) a w) :
    ∀ (f : Nat) (s : Array Bool) (a : Act), (∀ j oj, ops[j]? = some oj → j ≠ i → s.getD j true = false → (∀ e ∈ oj.after, Region.binds md e = true → e.on ≠ i) → oi.apart ops oj = true) →
      i ∈ Region.ready md ops s → YieldsIn P ops C oi v a → wpAnyK P md ops C Q f (s.setIfInBounds i true) (a.put oi.dst v) → wpAnyK P md ops C Q (f + 1) s a := by
  intro f
  induction f with
  | zero =>
    intro s a _ hr hy H
    refine ⟨fun h => (by rw [h] at hr; cases hr), fun j hj => ?_⟩
    by_cases hji : j = i
    · subst hji; exact kOp_of_yields hi hy H
    · have := ready_mono hj hji
      rw [H.1] at this
      cases this
  | succ f ih =>
    intro s a hfree hr hy H
    refine ⟨fun h => (by rw [h] at hr; cases hr), fun j hj => ?_⟩
    by_cases hji : j = i
    · subst hji; exact kOp_of_yields hi hy H
    · have h1 := H.2 j (ready_mono hj hji)
      obtain ⟨hjun, oj, hoj, hall⟩ := mem_ready.1 hj
      have hun := (mem_ready.1 hr).1
      have hnot : ∀ e ∈ oj.after, Region.binds md e = true → e.on ≠ i := fun e he hb heq => by
        have h1 := hall e he hb
        rw [heq, getD_both hun] at h1
        exact Bool.noConfusion h1
      have h2 := kOp_put hoj (hfree j oj hoj hji hjun hnot) (fun cs b => hsel i oi cs b hi) (fun cs b => hsel j oj cs b hoj) hQ hy h1
      have hfree' : ∀ k ok, ops[k]? = some ok → k ≠ i → (s.setIfInBounds j true).getD k true = false → (∀ e ∈ ok.after, Region.binds md e = true → e.on ≠ i) → oi.apart ops ok = true := fun k ok hk hki hun hno => by
        refine hfree k ok hk hki ?_ hno
        by_cases hjk : j = k
        · subst hjk; exact hjun
        · rw [getD_set_ne true hjk] at hun; exact hun
      refine kOp_mono (fun a' h3 => ih (s.setIfInBounds j true) a' hfree' (ready_mono hr (Ne.symm hji)) h3.1 ?_) h2
      rw [Array.setIfInBounds_comm _ _ hji]
      exact h3.2

/-- Take number i first. -/
theorem K_take {i : Nat} {oi : Oper} {v : Value} {f : Nat} {s : Array Bool} {a : Act} (hi : ops[i]? = some oi) (hs : Region.noSelect ops = true) (hf : Region.free md ops s i = true) (hr : (Region.ready md ops s).contains i = true)
    (hQ : ∀ c a w, Q (.panic c) (a.put oi.dst v) w → Q (.panic c) a w) (hy : YieldsIn P ops C oi v a) (h : wpAnyK P md ops C Q f (s.setIfInBounds i true) (a.put oi.dst v)) : wpAnyK P md ops C Q (f + 1) s a :=
  wpAnyK_first hi (Region.noSelect_spec hs) hQ f s a (Region.free_spec hi hf) (by simpa using hr) hy h
/-- Only number i may come up: whatever it yields. -/
theorem K_one {i : Nat} {f : Nat} {s : Array Bool} {a : Act} (hr : Region.ready md ops s = [i]) (h : kOp P ops C Q i (wpAnyK P md ops C Q f (s.setIfInBounds i true)) a) : wpAnyK P md ops C Q (f + 1) s a :=
  ⟨fun h0 => (by rw [hr] at h0; cases h0), fun j hj => by rw [hr, List.mem_singleton] at hj; subst hj; exact h⟩
/-- .. what has come up written out -/
theorem K_takeL {i : Nat} {oi : Oper} {v : Value} {d : Option Nat} {f : Nat} {s s' : Array Bool} {a : Act} (hs' : s.setIfInBounds i true = s') (hi : ops[i]? = some oi) (hd : oi.dst = d) (hs : Region.noSelect ops = true) (hf : Region.free md ops s i = true) (hr : (Region.ready md ops s).contains i = true)
    (hQ : ∀ c a w, Q (.panic c) (a.put oi.dst v) w → Q (.panic c) a w) (hy : YieldsIn P ops C oi v a) (h : wpAnyK P md ops C Q f s' (a.put d v)) : wpAnyK P md ops C Q (f + 1) s a :=
  K_take hi hs hf hr hQ hy (by rw [hd, hs']; exact h)
theorem K_oneL {i : Nat} {f : Nat} {s s' : Array Bool} {a : Act} (hs' : s.setIfInBounds i true = s') (hr : Region.ready md ops s = [i]) (h : kOp P ops C Q i (wpAnyK P md ops C Q f s') a) : wpAnyK P md ops C Q (f + 1) s a :=
  K_one hr (hs' ▸ h)
theorem wpOp_valueL {i : Nat} {o : Oper} {v : Value} {d : Option Nat} {a : Act} {w w' : World} {K : Act → World → Prop} (hi : ops[i]? = some o) (hd : o.dst = d) (hg : Region.wanted o (yielded ops a.tmps) = true)
    (hx : (execOp a.eval o).run P w = .ok (.value v) w') (hK : K (a.put d v) w') : wpOp P ops Q i K a w := by
  subst hd
  unfold wpOp
  simp only [hi, hg, if_true, Oper.wp, hx, Oper.upon]
  exact .inl hK
theorem K_done {s : Array Bool} {a : Act} (hr : Region.ready md ops s = []) (h : ∀ w, C w → Q .normal a w) : ∀ f, wpAnyK P md ops C Q f s a
  | 0 => ⟨hr, h⟩
  | _ + 1 => ⟨fun _ => h, by rw [hr]; simp⟩
theorem wp_region_K {id : Nat} {a : Act} {w : World} (hm : P.follows .mixedOrders = true) (hC : C { w with drawn := w.drawn + 1 })
    (h : wpAnyK P .any ops C Q ops.size (Array.replicate ops.size false) a) : (Code.region id ops true).wp P Q a w :=
  wp_region_any hm (wpAny_of_K _ _ _ _ hC h)
theorem wp_region_KL {id : Nat} {a : Act} {w : World} {s : Array Bool} {n : Nat} (hm : P.follows .mixedOrders = true) (hC : C { w with drawn := w.drawn + 1 }) (hn : ops.size = n) (hs : Array.replicate n false = s)
    (h : wpAnyK P .any ops C Q n s a) : (Code.region id ops true).wp P Q a w := by
  subst hn hs
  exact wp_region_K hm hC h
end

end Go.Proofs.Ytpnbibokddhheaa

/-
  Operations of a region that draws its order, one by one: calls, values, cells that stay.
-/
namespace Go.Proofs.Ytpnbibokddhheaa
open Go.RowKit

theorem cellIn {w W : World} {p : Addr} {v : Value} (h : w.cell? p = some v) (hW : Below w.heap.size w W) : W.cell? p = some v := (hW.cell (World.block_lt_of_cell? w _ h)).trans h
theorem wpOp_enter {P : Program} {ops : Array Oper} {Q : Exit → Act → World → Prop} {i : Nat} {o : Oper} {f : FuncId} {args : Array Value} {a : Act} {w : World} {K : Act → World → Prop} (hi : ops[i]? = some o) (hg : Region.wanted o (yielded ops a.tmps) = true)
    (hx : (execOp a.eval o).run P w = .ok (.enter f args) w) (hc : Calls P f args w fun e w'' => ∃ v, e = .returned v ∧ K (a.put o.dst v) w'') : wpOp P ops Q i K a w := by
  unfold wpOp
  simp only [hi, hg, if_true, Oper.wp, hx, Oper.upon]
  exact .inl (hc.mono fun e w'' ⟨v, he, hk⟩ => by subst he; exact hk)

theorem wpOp_value {P : Program} {ops : Array Oper} {Q : Exit → Act → World → Prop} {i : Nat} {o : Oper} {v : Value} {a : Act} {w w' : World} {K : Act → World → Prop} (hi : ops[i]? = some o) (hg : Region.wanted o (yielded ops a.tmps) = true)
    (hx : (execOp a.eval o).run P w = .ok (.value v) w') (hK : K (a.put o.dst v) w') : wpOp P ops Q i K a w := by
  unfold wpOp
  simp only [hi, hg, if_true, Oper.wp, hx, Oper.upon]
  exact .inl hK

theorem wpOp_wp {P : Program} {ops : Array Oper} {Q : Exit → Act → World → Prop} {i : Nat} {o : Oper} {a : Act} {w : World} {K : Act → World → Prop} (hi : ops[i]? = some o) (hg : Region.wanted o (yielded ops a.tmps) = true) (h : o.wp P a w K Q) : wpOp P ops Q i K a w := by
  unfold wpOp
  simp only [hi, hg, if_true]
  exact .inl h
theorem wpOp_skip {P : Program} {ops : Array Oper} {Q : Exit → Act → World → Prop} {i : Nat} {o : Oper} {a : Act} {w w' : World} {K : Act → World → Prop} (hi : ops[i]? = some o) (hg : Region.wanted o (yielded ops a.tmps) = true)
    (hx : (execOp a.eval o).run P w = .ok .skip w') (hK : K (a.put o.dst undef) w') : wpOp P ops Q i K a w := by
  unfold wpOp
  simp only [hi, hg, if_true, Oper.wp, hx, Oper.upon]
  exact .inl hK
theorem wp_append_run {P : Program} {o : Oper} {a : Act} {K : Act → World → Prop} {Q : Exit → Act → World → Prop} {w w' : World} {s x : Operand} {t : TypeId} {v : Value}
    (ho : o.op = .call { callee := .builtin .append, args := #[s, x], argTypes := #[t, t] }) (hr : (Builtin.append_ #[t, t] o.type #[a.eval s, a.eval x]).run P w = .ok v w') (h : K (a.put o.dst v) w') : o.wp P a w K Q := by
  unfold Oper.wp execOp
  simp only [ho, resolve, invoke, builtin, Sem.run_bind, Sem.run_pure, Result.andThen_ok, List.map_toArray, List.map_cons, List.map_nil, hr]
  exact h
theorem cell_new {w : World} {g i : Nat} {u : Value} (h : w.cell? ⟨g, i, none⟩ = some u) (o : Obj) : (w.alloc o).cell? ⟨g, i, none⟩ = some u := cellIn h ((Below.refl _ _).alloc (Nat.le_refl _) o)
theorem cell_only {w w6 : World} {o : Obj} {fv : Value} {g i : Nat} {u : Value} (h : w.cell? ⟨g, i, none⟩ = some u) (hg : (w.alloc o).grownBy w6 fv.ownBlock) (hne : some g ≠ fv.ownBlock) : w6.cell? ⟨g, i, none⟩ = some u := by
  have hlt : g < w.heap.size := World.block_lt_of_cell? w _ h
  have e : w6.heap[g]? = w.heap[g]? := (hg.block g (by simp; omega) hne).trans (Below.heap_alloc w o g hlt)
  rw [← h]
  simp [World.cell?, e]
end Go.Proofs.Ytpnbibokddhheaa

/-
  A region that draws its order, and whose last operation turns what the others read: they are taken first under what holds till then.
-/
namespace Go.Proofs.Ytpnbibokddhheaa
open Go Go.RowKit

section
variable {P : Program} {ops : Array Oper} {md : Region.Mode} {F : World → Prop} {n : Nat} {Q : Exit → Act → World → Prop}

/-- F holds behind every operation ahead of number n. -/
def wpAnyF (P : Program) (md : Region.Mode) (ops : Array Oper) (Q : Exit → Act → World → Prop) (F : World → Prop) (n : Nat) : Nat → Array Bool → Act → World → Prop
  | 0, s, a, w => Region.ready md ops s = [] ∧ Q .normal a w
  | f + 1, s, a, w => (Region.ready md ops s = [] → Q .normal a w) ∧ ∀ i ∈ Region.ready md ops s, wpOp P ops Q i (fun a' w' => (i < n → F w') ∧ wpAnyF P md ops Q F n f (s.setIfInBounds i true) a' w') a w
theorem wpAny_of_F : ∀ (f : Nat) (s : Array Bool) (a : Act) (w : World), wpAnyF P md ops Q F n f s a w → wpAny P md ops Q f s a w
  | 0, _, _, _, h => h
  | f + 1, _, _, _, h => ⟨h.1, fun i hi => wpOp_mono (fun a' w' h' => wpAny_of_F f _ a' w' h'.2) (h.2 i hi)⟩
/-- what has come up came up behind what it waits for -/
def Closed (md : Region.Mode) (ops : Array Oper) (s : Array Bool) : Prop := ∀ j oj, ops[j]? = some oj → s.getD j false = true → ∀ e ∈ oj.after, Region.binds md e = true → s.getD e.on false = true
def closedB (md : Region.Mode) (ops : Array Oper) (s : Array Bool) : Bool := (List.range ops.size).all fun j => match ops[j]? with
  | some o => !s.getD j false || o.after.toList.all fun e => !Region.binds md e || s.getD e.on false
  | none => true
theorem closed_of {s : Array Bool} (h : closedB md ops s = true) : Closed md ops s := by
  intro j oj hj hl e he hb
  have hjs : j < ops.size := (Array.getElem?_eq_some_iff.1 hj).1
  have h1 := List.all_eq_true.1 h j (List.mem_range.2 hjs)
  rw [hj] at h1
  simp only [hl, Bool.not_true, Bool.false_or] at h1
  have h2 := List.all_eq_true.1 h1 e (by simpa using he)
  rw [hb] at h2
  simpa using h2
theorem Closed.set {s : Array Bool} {i : Nat} (h : Closed md ops s) (hi : i ∈ Region.ready md ops s) : Closed md ops (s.setIfInBounds i true) := by
  obtain ⟨_, oi, hoi, hall⟩ := mem_ready.1 hi
  intro j oj hj hl e he hb
  by_cases hij : i = j
  · subst hij
    rw [hoi] at hj
    injection hj with hj
    subst hj
    exact getD_set_true (hall e he hb)
  · rw [getD_set_ne false hij] at hl
    exact getD_set_true (h j oj hj hl e he hb)
/-- j waits for i, over others too -/
def waitsB (md : Region.Mode) (ops : Array Oper) : Nat → Nat → Nat → Bool
  | 0, _, _ => false
  | f + 1, i, j => match ops[j]? with
    | some o => o.after.toList.any fun e => Region.binds md e && (e.on == i || waitsB md ops f i e.on)
    | none => false
theorem waits_listed {s : Array Bool} (hc : Closed md ops s) {i : Nat} : ∀ (f j : Nat), waitsB md ops f i j = true → (∀ oj, ops[j]? = some oj → ∀ e ∈ oj.after, Region.binds md e = true → s.getD e.on false = true) → s.getD i false = true
  | 0, _, h, _ => by simp [waitsB] at h
  | f + 1, j, h, hd => by
    unfold waitsB at h
    cases hj : ops[j]? with
    | none => rw [hj] at h; cases h
    | some oj =>
      rw [hj] at h
      obtain ⟨e, he, h1⟩ := List.any_eq_true.1 h
      rw [Bool.and_eq_true, Bool.or_eq_true, beq_iff_eq] at h1
      have he' : e ∈ oj.after := by simpa using he
      have hl := hd oj hj e he' h1.1
      rcases h1.2 with h2 | h2
      · rw [← h2]; exact hl
      · exact waits_listed hc f e.on h2 (fun ok hk e2 he2 hb2 => hc e.on ok hk hl e2 he2 hb2)
/-- number n is the last one, and waits for all others -/
def lastB (md : Region.Mode) (ops : Array Oper) (n : Nat) : Bool := ops.size == n + 1 && (List.range n).all fun i => waitsB md ops (n + 1) i n
theorem last_waits (hl : lastB md ops n = true) {s : Array Bool} (hc : Closed md ops s) {i j : Nat} (hi : i < n) (hun : s.getD i true = false) (hj : j ∈ Region.ready md ops s) : j < n := by
  unfold lastB at hl
  rw [Bool.and_eq_true, beq_iff_eq] at hl
  obtain ⟨-, oj, hoj, hall⟩ := mem_ready.1 hj
  have hjs : j < ops.size := (Array.getElem?_eq_some_iff.1 hoj).1
  by_cases hjn : j = n
  · subst hjn
    have h1 := List.all_eq_true.1 hl.2 i (List.mem_range.2 hi)
    have h3 := waits_listed hc _ _ h1 (fun ok hk e he hb => by rw [hoj] at hk; injection hk with hk; subst hk; exact hall e he hb)
    rw [getD_both hun] at h3
    exact Bool.noConfusion h3
  · omega
theorem wpAnyF_first (hl : lastB md ops n = true) {i : Nat} {oi : Oper} {v : Value} (hin : i < n) (hi : ops[i]? = some oi) (hsel : ∀ (j : Nat) (o : Oper) cs b, ops[j]? = some o → o.op ≠ .select cs b)
    (hQ : ∀ c a w, Q (.panic c) (a.put oi.dst v) w → Q (.panic c) a w) :
    ∀ (f : Nat) (s : Array Bool) (a : Act) (w : World), Closed md ops s → (∀ j oj, ops[j]? = some oj → j ≠ i → s.getD j true = false → (∀ e ∈ oj.after, Region.binds md e = true → e.on ≠ i) → oi.apart ops oj = true) →
      i ∈ Region.ready md ops s → YieldsIf P ops F oi v a → F w → wpAnyF P md ops Q F n f (s.setIfInBounds i true) (a.put oi.dst v) w → wpAnyF P md ops Q F n (f + 1) s a w := by
  intro f
  induction f with
  | zero =>
    intro s a w _ _ hr hy hF H
    refine ⟨fun h => (by rw [h] at hr; cases hr), fun j hj => ?_⟩
    by_cases hji : j = i
    · subst hji; exact hy.wpOp hi hF ⟨fun _ => hF, H⟩
    · have := ready_mono hj hji
      rw [H.1] at this
      cases this
  | succ f ih =>
    intro s a w hcl hfree hr hy hF H
    refine ⟨fun h => (by rw [h] at hr; cases hr), fun j hj => ?_⟩
    by_cases hji : j = i
    · subst hji; exact hy.wpOp hi hF ⟨fun _ => hF, H⟩
    · have hun := (mem_ready.1 hr).1
      have hjn : j < n := last_waits hl hcl hin hun hj
      have h1 := H.2 j (ready_mono hj hji)
      obtain ⟨hjun, oj, hoj, hall⟩ := mem_ready.1 hj
      have hnot : ∀ e ∈ oj.after, Region.binds md e = true → e.on ≠ i := fun e he hb heq => by
        have h1 := hall e he hb
        rw [heq, getD_both hun] at h1
        exact Bool.noConfusion h1
      have h2 := wpOp_putIf hoj (hfree j oj hoj hji hjun hnot) (fun cs b => hsel i oi cs b hi) (fun cs b => hsel j oj cs b hoj) hQ hy h1
      have hfree' : ∀ k ok, ops[k]? = some ok → k ≠ i → (s.setIfInBounds j true).getD k true = false → (∀ e ∈ ok.after, Region.binds md e = true → e.on ≠ i) → oi.apart ops ok = true := fun k ok hk hki hun hno => by
        refine hfree k ok hk hki ?_ hno
        by_cases hjk : j = k
        · subst hjk; exact hjun
        · rw [getD_set_ne true hjk] at hun; exact hun
      refine wpOp_mono (fun a' w' h3 => ⟨fun _ => h3.2.1 hjn, ih (s.setIfInBounds j true) a' w' (hcl.set hj) hfree' (ready_mono hr (Ne.symm hji)) h3.1 (h3.2.1 hjn) ?_⟩) h2
      rw [Array.setIfInBounds_comm _ _ hji]
      exact h3.2.2

theorem F_take {i : Nat} {oi : Oper} {v : Value} {d : Option Nat} {f : Nat} {s s' : Array Bool} {a : Act} {w : World} (hl : lastB md ops n = true) (hc : closedB md ops s = true) (hin : i < n) (hs' : s.setIfInBounds i true = s') (hi : ops[i]? = some oi) (hd : oi.dst = d) (hs : Region.noSelect ops = true)
    (hf : Region.free md ops s i = true) (hr : (Region.ready md ops s).contains i = true) (hQ : ∀ c a w, Q (.panic c) (a.put oi.dst v) w → Q (.panic c) a w) (hy : YieldsIf P ops F oi v a) (hF : F w)
    (h : wpAnyF P md ops Q F n f s' (a.put d v) w) : wpAnyF P md ops Q F n (f + 1) s a w :=
  wpAnyF_first hl hin hi (Region.noSelect_spec hs) hQ f s a w (closed_of hc) (Region.free_spec hi hf) (by simpa using hr) hy hF (by rw [hd, hs']; exact h)
theorem F_one {i : Nat} {f : Nat} {s s' : Array Bool} {a : Act} {w : World} (hs' : s.setIfInBounds i true = s') (hr : Region.ready md ops s = [i]) (h : wpOp P ops Q i (fun a' w' => (i < n → F w') ∧ wpAnyF P md ops Q F n f s' a' w') a w) : wpAnyF P md ops Q F n (f + 1) s a w :=
  ⟨fun h0 => (by rw [hr] at h0; cases h0), fun j hj => by rw [hr, List.mem_singleton] at hj; subst hj; rw [hs']; exact h⟩
theorem F_done {s : Array Bool} {a : Act} {w : World} (hr : Region.ready md ops s = []) (h : Q .normal a w) : ∀ f, wpAnyF P md ops Q F n f s a w
  | 0 => ⟨hr, h⟩
  | _ + 1 => ⟨fun _ => h, by rw [hr]; simp⟩
theorem wp_region_F {id : Nat} {a : Act} {w : World} {s : Array Bool} {m : Nat} (hm : P.follows .mixedOrders = true) (hn : ops.size = m) (hs : Array.replicate m false = s)
    (h : ∀ w1 : World, Hid (w1 = w.drew) → wpAnyF P .any ops Q F n m s a w1) : (Code.region id ops true).wp P Q a w := by
  subst hn hs
  exact wp_region_any hm (wpAny_of_F _ _ _ _ (h _ rfl))
theorem wpOp_appendL {i : Nat} {o : Oper} {t : TypeId} {sv xv v : Value} {x y : Operand} {d : Option Nat} {a : Act} {w w' : World} {K : Act → World → Prop} (hi : ops[i]? = some o) (hd : o.dst = d) (ht : o.type = t) (hg : Region.wanted o (yielded ops a.tmps) = true)
    (ho : o.op = .call { callee := .builtin .append, args := #[x, y], argTypes := #[t, t] }) (hs : a.eval x = sv) (hx : a.eval y = xv) (hr : (Builtin.append_ #[t, t] t #[sv, xv]).run P w = .ok v w') (hK : K (a.put d v) w') : wpOp P ops Q i K a w := by
  subst hd ht hs hx
  exact wpOp_wp hi hg (wp_append_run ho hr hK)
theorem wpOp_skipL {i : Nat} {o : Oper} {a : Act} {w w' : World} {K : Act → World → Prop} (hi : ops[i]? = some o) (hd : o.dst = none) (hg : Region.wanted o (yielded ops a.tmps) = true)
    (hx : (execOp a.eval o).run P w = .ok .skip w') (hK : K (a.put none undef) w') : wpOp P ops Q i K a w := by
  unfold wpOp
  simp only [hi, hg, if_true, Oper.wp, hx, Oper.upon, hd]
  exact .inl hK
end

end Go.Proofs.Ytpnbibokddhheaa

/-
  A region that draws its order, of which several operations may come up that make memory: each way.
-/
namespace Go.Proofs.Ytpnbibokddhheaa
open Go Go.RowKit

section
variable {P : Program} {ops : Array Oper} {md : Region.Mode} {F : World → Prop} {n : Nat} {Q : Exit → Act → World → Prop}
theorem F_two {i j : Nat} {f : Nat} {s si sj : Array Bool} {a : Act} {w : World} (hr : Region.ready md ops s = [i, j]) (hsi : s.setIfInBounds i true = si) (hsj : s.setIfInBounds j true = sj)
    (hi : wpOp P ops Q i (fun a' w' => (i < n → F w') ∧ wpAnyF P md ops Q F n f si a' w') a w) (hj : wpOp P ops Q j (fun a' w' => (j < n → F w') ∧ wpAnyF P md ops Q F n f sj a' w') a w) : wpAnyF P md ops Q F n (f + 1) s a w :=
  ⟨fun h0 => (by rw [hr] at h0; cases h0), fun k hk => by
    rw [hr, List.mem_cons, List.mem_singleton] at hk
    rcases hk with rfl | rfl
    · rw [hsi]; exact hi
    · rw [hsj]; exact hj⟩
theorem F_three {i j l : Nat} {f : Nat} {s si sj sl : Array Bool} {a : Act} {w : World} (hr : Region.ready md ops s = [i, j, l]) (hsi : s.setIfInBounds i true = si) (hsj : s.setIfInBounds j true = sj) (hsl : s.setIfInBounds l true = sl)
    (hi : wpOp P ops Q i (fun a' w' => (i < n → F w') ∧ wpAnyF P md ops Q F n f si a' w') a w) (hj : wpOp P ops Q j (fun a' w' => (j < n → F w') ∧ wpAnyF P md ops Q F n f sj a' w') a w)
    (hl : wpOp P ops Q l (fun a' w' => (l < n → F w') ∧ wpAnyF P md ops Q F n f sl a' w') a w) : wpAnyF P md ops Q F n (f + 1) s a w :=
  ⟨fun h0 => (by rw [hr] at h0; cases h0), fun k hk => by
    rw [hr, List.mem_cons, List.mem_cons, List.mem_singleton] at hk
    rcases hk with rfl | rfl | rfl
    · rw [hsi]; exact hi
    · rw [hsj]; exact hj
    · rw [hsl]; exact hl⟩
theorem wpOp_enterL {i : Nat} {o : Oper} {d : Option Nat} {f : FuncId} {args : Array Value} {a : Act} {w : World} {K : Act → World → Prop} (hi : ops[i]? = some o) (hd : o.dst = d) (hg : Region.wanted o (yielded ops a.tmps) = true)
    (hx : (execOp a.eval o).run P w = .ok (.enter f args) w) (hc : Calls P f args w fun e w'' => ∃ v, e = .returned v ∧ K (a.put d v) w'') : wpOp P ops Q i K a w := by
  subst hd
  exact wpOp_enter hi hg hx hc
end
theorem rows_keep {α : Type} {C : Nat} {cells : α → List Value} {W W' : World} {A : Option Addr} {R : List α} (h : RowsAt C cells W W.heap.size A R) (hb : Below W.heap.size W W') : RowsAt C cells W' W'.heap.size A R := (h.below hb).more hb.size
theorem rows_new {α : Type} {C : Nat} {cells : α → List Value} (hC : ∀ x, (cells x).length = C) (W : World) (t : TypeId) (R : List α) (cs : Array Value) (hcs : cs.toList = R.flatMap cells) (hflat : ∀ k (hk : k < R.length) i u, i < C → (cells R[k])[i]? = some u → cs[k * C + i]? = some u) : RowsAt C cells (W.alloc (.cells cs t)) (W.alloc (.cells cs t)).heap.size (some ⟨W.heap.size, 0, none⟩) R := by
  intro _
  have := hC
  have := hcs
  refine ⟨W.heap.size, 0, rfl, by simp, fun k hk i u hi hu => ?_⟩
  rw [show 0 + k * C + i = k * C + i by omega]
  rw [(Blk.new W t cs).cell]
  exact hflat k hk i u hi hu
theorem below_new (W : World) (o : Obj) : Below W.heap.size W (W.alloc o) := (Below.refl _ _).alloc (Nat.le_refl _) o

theorem below_trans {B : Nat} {w W W' : World} (h : Below B w W) (hB : B ≤ W.heap.size) (hb : Below W.heap.size W W') : Below B w W' := h.trans (hb.mono hB)
theorem ints_new (W : World) (t : TypeId) (xs : List Int) : RowsAt 1 icell (W.alloc (.cells (xs.map (Value.int .i64)).toArray t)) (W.alloc (.cells (xs.map (Value.int .i64)).toArray t)).heap.size (some ⟨W.heap.size, 0, none⟩) xs := by
  intro _
  refine ⟨W.heap.size, 0, rfl, by simp, fun k hk i u hi hu => ?_⟩
  obtain rfl : i = 0 := by omega
  rw [show 0 + k * 1 + 0 = k by omega, (Blk.new W t _).cell]
  simp only [icell, List.getElem?_cons_zero, Option.some.injEq] at hu
  subst hu
  simp [hk]

end Go.Proofs.Ytpnbibokddhheaa

/-
  A head's bytes: the program's way.
-/
namespace Go.Proofs.Ytpnbibokddhheaa
open Go.RowKit

def head1 (age kind : Int) : List Int := (([] : List Int) ++ [age].flatMap (beL 2)) ++ [0, kind].flatMap (beL 1)
def headL (h : Hd) : List Int := (head1 h.age h.kind ++ [h.id, h.adv, h.seq].flatMap (beL 4)) ++ [h.sum, h.long].flatMap (beL 2)
theorem head1_len (a b : Int) : (head1 a b).length = 4 := by simp [head1, beL_len]
theorem headL_len (h : Hd) : (headL h).length = 20 := by simp [headL, head1_len, beL_len]
set_option maxHeartbeats 8000000 in
set_option maxRecDepth 100000 in
theorem PutHead_any (y1 y2 y3 y4 y5 y6 y7 : Int) (w : World) :
    Calls Try.prog 97 #[.agg #[.int .i64 y1, .int .i64 y2, .int .i64 y3, .int .i64 y4, .int .i64 y5, .int .i64 y6, .int .i64 y7]] w fun r w' => ∃ v, r = .returned v ∧ OwnB w' w.heap.size v (headL ⟨y1, y2, y3, y4, y5, y6, y7⟩) ∧ Below w.heap.size w w' := by
  obtain ⟨w1, hW1⟩ : ∃ w1, w.alloc (.cells #[.int .i64 y1, .int .i64 y2, .int .i64 y3, .int .i64 y4, .int .i64 y5, .int .i64 y6, .int .i64 y7] 34) = w1 := ⟨_, rfl⟩
  have hk := Blk.new w 34 #[.int .i64 y1, .int .i64 y2, .int .i64 y3, .int .i64 y4, .int .i64 y5, .int .i64 y6, .int .i64 y7]
  have hb := below_new w (.cells #[.int .i64 y1, .int .i64 y2, .int .i64 y3, .int .i64 y4, .int .i64 y5, .int .i64 y6, .int .i64 y7] 34)
  rw [hW1] at hk hb
  have FW := Lib.hid (fun W (hW : Below w1.heap.size w1 W) => (hk.below hW hk.lt).both7)
  have Hb := Lib.hid hb
  have hsz := hb.size
  clear hk hb
  go_enter Try.func97, Try.ntmps97
  go_upto_region 1 with fail
  go_cut [3] from 4 to 27 (fun v wx => ∃ A c, v = .slice A (head1 y1 y2).length c ∧ RowsAt 1 bcell wx wx.heap.size A (head1 y1 y2) ∧ Below w1.heap.size w1 wx)
  case first =>
    go_wp2
    refine wp_region_F (F := fun W => Below w1.heap.size w1 W) (n := 8) (m := 9) (s := #[false, false, false, false, false, false, false, false, false]) (by kernel_rfl) (by kernel_rfl) (by kernel_rfl) ?_
    intro wd hwd
    have hF : Below w1.heap.size w1 wd := by rw [hwd.out]; exact (Below.refl _ _).drew
    clear hwd
    refine F_take (i := 0) (d := some 4) (by kernel_rfl) (by kernel_rfl) (by decide) (s' := #[true, false, false, false, false, false, false, false, false]) (by kernel_rfl) rfl rfl (by kernel_rfl) (by kernel_rfl) (by kernel_rfl) (fun _ _ _ h => h) (Or.inl ⟨by kernel_rfl, fun W hW => by obtain ⟨x0, x1, x2, x3, x4, x5, x6, -⟩ := FW.out W hW; go_simp; try with_reducible rfl⟩) hF ?_
    go_frame
    refine F_take (i := 1) (d := some 5) (by kernel_rfl) (by kernel_rfl) (by decide) (s' := #[true, true, false, false, false, false, false, false, false]) (by kernel_rfl) rfl rfl (by kernel_rfl) (by kernel_rfl) (by kernel_rfl) (fun _ _ _ h => h) (Or.inl ⟨by kernel_rfl, fun W hW => by obtain ⟨x0, x1, x2, x3, x4, x5, x6, -⟩ := FW.out W hW; go_simp; try with_reducible rfl⟩) hF ?_
    go_frame
    refine F_take (i := 4) (d := some 8) (by kernel_rfl) (by kernel_rfl) (by decide) (s' := #[true, true, false, false, true, false, false, false, false]) (by kernel_rfl) rfl rfl (by kernel_rfl) (by kernel_rfl) (by kernel_rfl) (fun _ _ _ h => h) (Or.inl ⟨by kernel_rfl, fun W hW => by obtain ⟨x0, x1, x2, x3, x4, x5, x6, -⟩ := FW.out W hW; go_simp; try with_reducible rfl⟩) hF ?_
    go_frame
    refine F_take (i := 5) (d := some 9) (by kernel_rfl) (by kernel_rfl) (by decide) (s' := #[true, true, false, false, true, true, false, false, false]) (by kernel_rfl) rfl rfl (by kernel_rfl) (by kernel_rfl) (by kernel_rfl) (fun _ _ _ h => h) (Or.inl ⟨by kernel_rfl, fun W hW => by obtain ⟨x0, x1, x2, x3, x4, x5, x6, -⟩ := FW.out W hW; go_simp; try with_reducible rfl⟩) hF ?_
    go_frame
    refine F_two (i := 2) (si := #[true, true, true, false, true, true, false, false, false]) (j := 6) (sj := #[true, true, false, false, true, true, true, false, false]) (by kernel_rfl) (by kernel_rfl) (by kernel_rfl) ?_ ?_
    · skip
      obtain ⟨g2, hg2⟩ : ∃ g2, wd.heap.size = g2 := ⟨_, rfl⟩
      obtain ⟨v2w, hv2w⟩ : ∃ v2w, wd.alloc (.cells #[.int .i64 y1] 3) = v2w := ⟨_, rfl⟩
      have hb2 : Below wd.heap.size wd v2w := by rw [← hv2w]; exact below_new _ _
      have R2 : RowsAt 1 icell v2w v2w.heap.size (some ⟨g2, 0, none⟩) [y1] := by rw [← hv2w, ← hg2]; exact ints_new wd 3 [y1]
      have hF := below_trans hF hF.size hb2
      refine wpOp_valueL (i := 2) (d := some 6) (w' := v2w) (v := .slice (some ⟨g2, 0, none⟩) 1 1) rfl rfl (by kernel_rfl) (by go_simp) ⟨fun _ => hF, ?_⟩
      go_frame
      clear hv2w hg2 hb2
      refine F_two (i := 3) (si := #[true, true, true, true, true, true, false, false, false]) (j := 6) (sj := #[true, true, true, false, true, true, true, false, false]) (by kernel_rfl) (by kernel_rfl) (by kernel_rfl) ?_ ?_
      · skip
        refine wpOp_enterL (i := 3) (d := some 7) (f := 96) (args := #[.slice none 0 0, .int .i64 2, .slice (some ⟨g2, 0, none⟩) 1 1]) rfl rfl (by kernel_rfl) (by go_simp) ((quadPut none 0 ([] : List Int) 2 (by decide) (by decide) (some ⟨g2, 0, none⟩) 1 [y1] v2w v2w.heap.size RowsAt.nil R2 (Nat.le_refl _) (by simp) (by simp) 0 1 rfl rfl).mono ?_)
        rintro r v3w ⟨v, rfl, hown, hb3⟩
        obtain ⟨M3, hM3⟩ : ∃ M3, ([] : List Int) ++ [y1].flatMap (beL 2) = M3 := ⟨_, rfl⟩
        rw [hM3] at hown
        have nM3 : M3.length = 2 := by rw [← hM3]; simp [beL_len]
        obtain ⟨A3, c3, rfl⟩ := hown.shape
        have R3 := (OwnR.rows (C := 1) (cells := bcell) (fun _ => rfl) hown).2
        have hown3 := OwnR.lower hown hF.size
        have hF := below_trans hF hF.size hb3
        have R2 := rows_keep R2 hb3
        refine ⟨_, rfl, fun _ => hF, ?_⟩
        go_frame
        clear hb3 hown
        obtain ⟨g6, hg6⟩ : ∃ g6, v3w.heap.size = g6 := ⟨_, rfl⟩
        obtain ⟨v6w, hv6w⟩ : ∃ v6w, v3w.alloc (.cells #[.int .i64 0, .int .i64 y2] 3) = v6w := ⟨_, rfl⟩
        have hb6 : Below v3w.heap.size v3w v6w := by rw [← hv6w]; exact below_new _ _
        have R6 : RowsAt 1 icell v6w v6w.heap.size (some ⟨g6, 0, none⟩) [0, y2] := by rw [← hv6w, ← hg6]; exact ints_new v3w 3 [0, y2]
        have hF := below_trans hF hF.size hb6
        have R2 := rows_keep R2 hb6
        have R3 := rows_keep R3 hb6
        refine F_one (i := 6) (s' := #[true, true, true, true, true, true, true, false, false]) (by kernel_rfl) (by kernel_rfl) (wpOp_valueL (i := 6) (d := some 10) (w' := v6w) (v := .slice (some ⟨g6, 0, none⟩) 2 2) rfl rfl (by kernel_rfl) (by go_simp) ⟨fun _ => hF, ?_⟩)
        go_frame
        clear hv6w hg6 hb6
        refine F_one (i := 7) (s' := #[true, true, true, true, true, true, true, true, false]) (by kernel_rfl) (by kernel_rfl) (wpOp_enterL (i := 7) (d := some 11) (f := 96) (args := #[.slice A3 M3.length c3, .int .i64 1, .slice (some ⟨g6, 0, none⟩) 2 2]) rfl rfl (by kernel_rfl) (by go_simp) ((quadPut A3 c3 M3 1 (by decide) (by decide) (some ⟨g6, 0, none⟩) 2 [0, y2] v6w v6w.heap.size R3 R6 (Nat.le_refl _) (by rw [nM3]; decide) (by simp) M3.length 2 rfl rfl).mono ?_))
        rintro r v7w ⟨v, rfl, hown, hb7⟩
        obtain ⟨M7, hM7⟩ : ∃ M7, M3 ++ [0, y2].flatMap (beL 1) = M7 := ⟨_, rfl⟩
        rw [hM7] at hown
        have nM7 : M7.length = 4 := by rw [← hM7]; simp [beL_len, nM3]
        obtain ⟨A7, c7, rfl⟩ := hown.shape
        have R7 := (OwnR.rows (C := 1) (cells := bcell) (fun _ => rfl) hown).2
        have hown7 := OwnR.lower hown hF.size
        have hF := below_trans hF hF.size hb7
        have R2 := rows_keep R2 hb7
        have R3 := rows_keep R3 hb7
        have R6 := rows_keep R6 hb7
        refine ⟨_, rfl, fun _ => hF, ?_⟩
        go_frame
        clear hb7 hown
        refine F_one (i := 8) (s' := #[true, true, true, true, true, true, true, true, true]) (by kernel_rfl) (by kernel_rfl) (wpOp_valueL (i := 8) (d := some 3) (w' := v7w) (v := .slice A7 M7.length c7) rfl rfl (by kernel_rfl) (by go_simp) ⟨fun h => absurd h (by decide), ?_⟩)
        go_frame
        refine F_done (by kernel_rfl) ?_ _
        subst hM7 hM3
        go_wp2_with fail
        go_meet
        case rel => exact ⟨_, _, rfl, R7, hF⟩
      · skip
        obtain ⟨g6, hg6⟩ : ∃ g6, v2w.heap.size = g6 := ⟨_, rfl⟩
        obtain ⟨v6w, hv6w⟩ : ∃ v6w, v2w.alloc (.cells #[.int .i64 0, .int .i64 y2] 3) = v6w := ⟨_, rfl⟩
        have hb6 : Below v2w.heap.size v2w v6w := by rw [← hv6w]; exact below_new _ _
        have R6 : RowsAt 1 icell v6w v6w.heap.size (some ⟨g6, 0, none⟩) [0, y2] := by rw [← hv6w, ← hg6]; exact ints_new v2w 3 [0, y2]
        have hF := below_trans hF hF.size hb6
        have R2 := rows_keep R2 hb6
        refine wpOp_valueL (i := 6) (d := some 10) (w' := v6w) (v := .slice (some ⟨g6, 0, none⟩) 2 2) rfl rfl (by kernel_rfl) (by go_simp) ⟨fun _ => hF, ?_⟩
        go_frame
        clear hv6w hg6 hb6
        refine F_one (i := 3) (s' := #[true, true, true, true, true, true, true, false, false]) (by kernel_rfl) (by kernel_rfl) (wpOp_enterL (i := 3) (d := some 7) (f := 96) (args := #[.slice none 0 0, .int .i64 2, .slice (some ⟨g2, 0, none⟩) 1 1]) rfl rfl (by kernel_rfl) (by go_simp) ((quadPut none 0 ([] : List Int) 2 (by decide) (by decide) (some ⟨g2, 0, none⟩) 1 [y1] v6w v6w.heap.size RowsAt.nil R2 (Nat.le_refl _) (by simp) (by simp) 0 1 rfl rfl).mono ?_))
        rintro r v3w ⟨v, rfl, hown, hb3⟩
        obtain ⟨M3, hM3⟩ : ∃ M3, ([] : List Int) ++ [y1].flatMap (beL 2) = M3 := ⟨_, rfl⟩
        rw [hM3] at hown
        have nM3 : M3.length = 2 := by rw [← hM3]; simp [beL_len]
        obtain ⟨A3, c3, rfl⟩ := hown.shape
        have R3 := (OwnR.rows (C := 1) (cells := bcell) (fun _ => rfl) hown).2
        have hown3 := OwnR.lower hown hF.size
        have hF := below_trans hF hF.size hb3
        have R2 := rows_keep R2 hb3
        have R6 := rows_keep R6 hb3
        refine ⟨_, rfl, fun _ => hF, ?_⟩
        go_frame
        clear hb3 hown
        refine F_one (i := 7) (s' := #[true, true, true, true, true, true, true, true, false]) (by kernel_rfl) (by kernel_rfl) (wpOp_enterL (i := 7) (d := some 11) (f := 96) (args := #[.slice A3 M3.length c3, .int .i64 1, .slice (some ⟨g6, 0, none⟩) 2 2]) rfl rfl (by kernel_rfl) (by go_simp) ((quadPut A3 c3 M3 1 (by decide) (by decide) (some ⟨g6, 0, none⟩) 2 [0, y2] v3w v3w.heap.size R3 R6 (Nat.le_refl _) (by rw [nM3]; decide) (by simp) M3.length 2 rfl rfl).mono ?_))
        rintro r v7w ⟨v, rfl, hown, hb7⟩
        obtain ⟨M7, hM7⟩ : ∃ M7, M3 ++ [0, y2].flatMap (beL 1) = M7 := ⟨_, rfl⟩
        rw [hM7] at hown
        have nM7 : M7.length = 4 := by rw [← hM7]; simp [beL_len, nM3]
        obtain ⟨A7, c7, rfl⟩ := hown.shape
        have R7 := (OwnR.rows (C := 1) (cells := bcell) (fun _ => rfl) hown).2
        have hown7 := OwnR.lower hown hF.size
        have hF := below_trans hF hF.size hb7
        have R2 := rows_keep R2 hb7
        have R6 := rows_keep R6 hb7
        have R3 := rows_keep R3 hb7
        refine ⟨_, rfl, fun _ => hF, ?_⟩
        go_frame
        clear hb7 hown
        refine F_one (i := 8) (s' := #[true, true, true, true, true, true, true, true, true]) (by kernel_rfl) (by kernel_rfl) (wpOp_valueL (i := 8) (d := some 3) (w' := v7w) (v := .slice A7 M7.length c7) rfl rfl (by kernel_rfl) (by go_simp) ⟨fun h => absurd h (by decide), ?_⟩)
        go_frame
        refine F_done (by kernel_rfl) ?_ _
        subst hM7 hM3
        go_wp2_with fail
        go_meet
        case rel => exact ⟨_, _, rfl, R7, hF⟩
    · skip
      obtain ⟨g6, hg6⟩ : ∃ g6, wd.heap.size = g6 := ⟨_, rfl⟩
      obtain ⟨v6w, hv6w⟩ : ∃ v6w, wd.alloc (.cells #[.int .i64 0, .int .i64 y2] 3) = v6w := ⟨_, rfl⟩
      have hb6 : Below wd.heap.size wd v6w := by rw [← hv6w]; exact below_new _ _
      have R6 : RowsAt 1 icell v6w v6w.heap.size (some ⟨g6, 0, none⟩) [0, y2] := by rw [← hv6w, ← hg6]; exact ints_new wd 3 [0, y2]
      have hF := below_trans hF hF.size hb6
      refine wpOp_valueL (i := 6) (d := some 10) (w' := v6w) (v := .slice (some ⟨g6, 0, none⟩) 2 2) rfl rfl (by kernel_rfl) (by go_simp) ⟨fun _ => hF, ?_⟩
      go_frame
      clear hv6w hg6 hb6
      obtain ⟨g2, hg2⟩ : ∃ g2, v6w.heap.size = g2 := ⟨_, rfl⟩
      obtain ⟨v2w, hv2w⟩ : ∃ v2w, v6w.alloc (.cells #[.int .i64 y1] 3) = v2w := ⟨_, rfl⟩
      have hb2 : Below v6w.heap.size v6w v2w := by rw [← hv2w]; exact below_new _ _
      have R2 : RowsAt 1 icell v2w v2w.heap.size (some ⟨g2, 0, none⟩) [y1] := by rw [← hv2w, ← hg2]; exact ints_new v6w 3 [y1]
      have hF := below_trans hF hF.size hb2
      have R6 := rows_keep R6 hb2
      refine F_one (i := 2) (s' := #[true, true, true, false, true, true, true, false, false]) (by kernel_rfl) (by kernel_rfl) (wpOp_valueL (i := 2) (d := some 6) (w' := v2w) (v := .slice (some ⟨g2, 0, none⟩) 1 1) rfl rfl (by kernel_rfl) (by go_simp) ⟨fun _ => hF, ?_⟩)
      go_frame
      clear hv2w hg2 hb2
      refine F_one (i := 3) (s' := #[true, true, true, true, true, true, true, false, false]) (by kernel_rfl) (by kernel_rfl) (wpOp_enterL (i := 3) (d := some 7) (f := 96) (args := #[.slice none 0 0, .int .i64 2, .slice (some ⟨g2, 0, none⟩) 1 1]) rfl rfl (by kernel_rfl) (by go_simp) ((quadPut none 0 ([] : List Int) 2 (by decide) (by decide) (some ⟨g2, 0, none⟩) 1 [y1] v2w v2w.heap.size RowsAt.nil R2 (Nat.le_refl _) (by simp) (by simp) 0 1 rfl rfl).mono ?_))
      rintro r v3w ⟨v, rfl, hown, hb3⟩
      obtain ⟨M3, hM3⟩ : ∃ M3, ([] : List Int) ++ [y1].flatMap (beL 2) = M3 := ⟨_, rfl⟩
      rw [hM3] at hown
      have nM3 : M3.length = 2 := by rw [← hM3]; simp [beL_len]
      obtain ⟨A3, c3, rfl⟩ := hown.shape
      have R3 := (OwnR.rows (C := 1) (cells := bcell) (fun _ => rfl) hown).2
      have hown3 := OwnR.lower hown hF.size
      have hF := below_trans hF hF.size hb3
      have R6 := rows_keep R6 hb3
      have R2 := rows_keep R2 hb3
      refine ⟨_, rfl, fun _ => hF, ?_⟩
      go_frame
      clear hb3 hown
      refine F_one (i := 7) (s' := #[true, true, true, true, true, true, true, true, false]) (by kernel_rfl) (by kernel_rfl) (wpOp_enterL (i := 7) (d := some 11) (f := 96) (args := #[.slice A3 M3.length c3, .int .i64 1, .slice (some ⟨g6, 0, none⟩) 2 2]) rfl rfl (by kernel_rfl) (by go_simp) ((quadPut A3 c3 M3 1 (by decide) (by decide) (some ⟨g6, 0, none⟩) 2 [0, y2] v3w v3w.heap.size R3 R6 (Nat.le_refl _) (by rw [nM3]; decide) (by simp) M3.length 2 rfl rfl).mono ?_))
      rintro r v7w ⟨v, rfl, hown, hb7⟩
      obtain ⟨M7, hM7⟩ : ∃ M7, M3 ++ [0, y2].flatMap (beL 1) = M7 := ⟨_, rfl⟩
      rw [hM7] at hown
      have nM7 : M7.length = 4 := by rw [← hM7]; simp [beL_len, nM3]
      obtain ⟨A7, c7, rfl⟩ := hown.shape
      have R7 := (OwnR.rows (C := 1) (cells := bcell) (fun _ => rfl) hown).2
      have hown7 := OwnR.lower hown hF.size
      have hF := below_trans hF hF.size hb7
      have R6 := rows_keep R6 hb7
      have R2 := rows_keep R2 hb7
      have R3 := rows_keep R3 hb7
      refine ⟨_, rfl, fun _ => hF, ?_⟩
      go_frame
      clear hb7 hown
      refine F_one (i := 8) (s' := #[true, true, true, true, true, true, true, true, true]) (by kernel_rfl) (by kernel_rfl) (wpOp_valueL (i := 8) (d := some 3) (w' := v7w) (v := .slice A7 M7.length c7) rfl rfl (by kernel_rfl) (by go_simp) ⟨fun h => absurd h (by decide), ?_⟩)
      go_frame
      refine F_done (by kernel_rfl) ?_ _
      subst hM7 hM3
      go_wp2_with fail
      go_meet
      case rel => exact ⟨_, _, rfl, R7, hF⟩
  case rest =>
    obtain ⟨A, c, rfl, hR, hbx⟩ := hcut
    have Hbx := Lib.hid hbx
    obtain ⟨L1, hL1⟩ : ∃ L1, head1 y1 y2 = L1 := ⟨_, rfl⟩
    have nL1 : L1.length = 4 := by rw [← hL1]; exact head1_len _ _
    have HL1 := Lib.hid hL1
    rw [hL1] at hR ⊢
    have HR := Lib.hid hR
    clear hL1 hR hbx
    go_wp2
    refine wp_region_F (F := fun W => Below w1.heap.size w1 W) (n := 15) (m := 16) (s := #[false, false, false, false, false, false, false, false, false, false, false, false, false, false, false, false]) (by kernel_rfl) (by kernel_rfl) (by kernel_rfl) ?_
    intro wd hwd
    have hF : Below w1.heap.size w1 wd := by rw [hwd.out]; exact Hbx.out.drew
    have R0 : RowsAt 1 bcell wd wd.heap.size A L1 := by rw [hwd.out]; exact rows_keep HR.out (Below.refl _ _).drew
    clear hwd
    refine F_take (i := 0) (d := some 12) (by kernel_rfl) (by kernel_rfl) (by decide) (s' := #[true, false, false, false, false, false, false, false, false, false, false, false, false, false, false, false]) (by kernel_rfl) rfl rfl (by kernel_rfl) (by kernel_rfl) (by kernel_rfl) (fun _ _ _ h => h) (Or.inl ⟨by kernel_rfl, fun W hW => by obtain ⟨x0, x1, x2, x3, x4, x5, x6, -⟩ := FW.out W hW; go_simp; try with_reducible rfl⟩) hF ?_
    go_frame
    refine F_take (i := 1) (d := some 13) (by kernel_rfl) (by kernel_rfl) (by decide) (s' := #[true, true, false, false, false, false, false, false, false, false, false, false, false, false, false, false]) (by kernel_rfl) rfl rfl (by kernel_rfl) (by kernel_rfl) (by kernel_rfl) (fun _ _ _ h => h) (Or.inl ⟨by kernel_rfl, fun W hW => by obtain ⟨x0, x1, x2, x3, x4, x5, x6, -⟩ := FW.out W hW; go_simp; try with_reducible rfl⟩) hF ?_
    go_frame
    refine F_take (i := 2) (d := some 14) (by kernel_rfl) (by kernel_rfl) (by decide) (s' := #[true, true, true, false, false, false, false, false, false, false, false, false, false, false, false, false]) (by kernel_rfl) rfl rfl (by kernel_rfl) (by kernel_rfl) (by kernel_rfl) (fun _ _ _ h => h) (Or.inl ⟨by kernel_rfl, fun W hW => by obtain ⟨x0, x1, x2, x3, x4, x5, x6, -⟩ := FW.out W hW; go_simp; try with_reducible rfl⟩) hF ?_
    go_frame
    refine F_take (i := 3) (d := some 15) (by kernel_rfl) (by kernel_rfl) (by decide) (s' := #[true, true, true, true, false, false, false, false, false, false, false, false, false, false, false, false]) (by kernel_rfl) rfl rfl (by kernel_rfl) (by kernel_rfl) (by kernel_rfl) (fun _ _ _ h => h) (Or.inl ⟨by kernel_rfl, fun W hW => by obtain ⟨x0, x1, x2, x3, x4, x5, x6, -⟩ := FW.out W hW; go_simp; try with_reducible rfl⟩) hF ?_
    go_frame
    refine F_take (i := 4) (d := some 16) (by kernel_rfl) (by kernel_rfl) (by decide) (s' := #[true, true, true, true, true, false, false, false, false, false, false, false, false, false, false, false]) (by kernel_rfl) rfl rfl (by kernel_rfl) (by kernel_rfl) (by kernel_rfl) (fun _ _ _ h => h) (Or.inl ⟨by kernel_rfl, fun W hW => by obtain ⟨x0, x1, x2, x3, x4, x5, x6, -⟩ := FW.out W hW; go_simp; try with_reducible rfl⟩) hF ?_
    go_frame
    refine F_take (i := 5) (d := some 17) (by kernel_rfl) (by kernel_rfl) (by decide) (s' := #[true, true, true, true, true, true, false, false, false, false, false, false, false, false, false, false]) (by kernel_rfl) rfl rfl (by kernel_rfl) (by kernel_rfl) (by kernel_rfl) (fun _ _ _ h => h) (Or.inl ⟨by kernel_rfl, fun W hW => by obtain ⟨x0, x1, x2, x3, x4, x5, x6, -⟩ := FW.out W hW; go_simp; try with_reducible rfl⟩) hF ?_
    go_frame
    refine F_take (i := 6) (d := some 18) (by kernel_rfl) (by kernel_rfl) (by decide) (s' := #[true, true, true, true, true, true, true, false, false, false, false, false, false, false, false, false]) (by kernel_rfl) rfl rfl (by kernel_rfl) (by kernel_rfl) (by kernel_rfl) (fun _ _ _ h => h) (Or.inl ⟨by kernel_rfl, fun W hW => by obtain ⟨x0, x1, x2, x3, x4, x5, x6, -⟩ := FW.out W hW; go_simp; try with_reducible rfl⟩) hF ?_
    go_frame
    refine F_take (i := 9) (d := some 21) (by kernel_rfl) (by kernel_rfl) (by decide) (s' := #[true, true, true, true, true, true, true, false, false, true, false, false, false, false, false, false]) (by kernel_rfl) rfl rfl (by kernel_rfl) (by kernel_rfl) (by kernel_rfl) (fun _ _ _ h => h) (Or.inl ⟨by kernel_rfl, fun W hW => by obtain ⟨x0, x1, x2, x3, x4, x5, x6, -⟩ := FW.out W hW; go_simp; try with_reducible rfl⟩) hF ?_
    go_frame
    refine F_take (i := 10) (d := some 22) (by kernel_rfl) (by kernel_rfl) (by decide) (s' := #[true, true, true, true, true, true, true, false, false, true, true, false, false, false, false, false]) (by kernel_rfl) rfl rfl (by kernel_rfl) (by kernel_rfl) (by kernel_rfl) (fun _ _ _ h => h) (Or.inl ⟨by kernel_rfl, fun W hW => by obtain ⟨x0, x1, x2, x3, x4, x5, x6, -⟩ := FW.out W hW; go_simp; try with_reducible rfl⟩) hF ?_
    go_frame
    refine F_take (i := 11) (d := some 23) (by kernel_rfl) (by kernel_rfl) (by decide) (s' := #[true, true, true, true, true, true, true, false, false, true, true, true, false, false, false, false]) (by kernel_rfl) rfl rfl (by kernel_rfl) (by kernel_rfl) (by kernel_rfl) (fun _ _ _ h => h) (Or.inl ⟨by kernel_rfl, fun W hW => by obtain ⟨x0, x1, x2, x3, x4, x5, x6, -⟩ := FW.out W hW; go_simp; try with_reducible rfl⟩) hF ?_
    go_frame
    refine F_take (i := 12) (d := some 24) (by kernel_rfl) (by kernel_rfl) (by decide) (s' := #[true, true, true, true, true, true, true, false, false, true, true, true, true, false, false, false]) (by kernel_rfl) rfl rfl (by kernel_rfl) (by kernel_rfl) (by kernel_rfl) (fun _ _ _ h => h) (Or.inl ⟨by kernel_rfl, fun W hW => by obtain ⟨x0, x1, x2, x3, x4, x5, x6, -⟩ := FW.out W hW; go_simp; try with_reducible rfl⟩) hF ?_
    go_frame
    refine F_two (i := 7) (si := #[true, true, true, true, true, true, true, true, false, true, true, true, true, false, false, false]) (j := 13) (sj := #[true, true, true, true, true, true, true, false, false, true, true, true, true, true, false, false]) (by kernel_rfl) (by kernel_rfl) (by kernel_rfl) ?_ ?_
    · skip
      obtain ⟨g7, hg7⟩ : ∃ g7, wd.heap.size = g7 := ⟨_, rfl⟩
      obtain ⟨v7w, hv7w⟩ : ∃ v7w, wd.alloc (.cells #[.int .i64 y3, .int .i64 y4, .int .i64 y5] 3) = v7w := ⟨_, rfl⟩
      have hb7 : Below wd.heap.size wd v7w := by rw [← hv7w]; exact below_new _ _
      have R7 : RowsAt 1 icell v7w v7w.heap.size (some ⟨g7, 0, none⟩) [y3, y4, y5] := by rw [← hv7w, ← hg7]; exact ints_new wd 3 [y3, y4, y5]
      have hF := below_trans hF hF.size hb7
      have R0 := rows_keep R0 hb7
      refine wpOp_valueL (i := 7) (d := some 19) (w' := v7w) (v := .slice (some ⟨g7, 0, none⟩) 3 3) rfl rfl (by kernel_rfl) (by go_simp) ⟨fun _ => hF, ?_⟩
      go_frame
      clear hv7w hg7 hb7
      refine F_two (i := 8) (si := #[true, true, true, true, true, true, true, true, true, true, true, true, true, false, false, false]) (j := 13) (sj := #[true, true, true, true, true, true, true, true, false, true, true, true, true, true, false, false]) (by kernel_rfl) (by kernel_rfl) (by kernel_rfl) ?_ ?_
      · skip
        refine wpOp_enterL (i := 8) (d := some 20) (f := 96) (args := #[.slice A L1.length c, .int .i64 4, .slice (some ⟨g7, 0, none⟩) 3 3]) rfl rfl (by kernel_rfl) (by go_simp) ((quadPut A c L1 4 (by decide) (by decide) (some ⟨g7, 0, none⟩) 3 [y3, y4, y5] v7w v7w.heap.size R0 R7 (Nat.le_refl _) (by rw [nL1]; decide) (by simp) L1.length 3 rfl rfl).mono ?_)
        rintro r v8w ⟨v, rfl, hown, hb8⟩
        obtain ⟨M8, hM8⟩ : ∃ M8, L1 ++ [y3, y4, y5].flatMap (beL 4) = M8 := ⟨_, rfl⟩
        rw [hM8] at hown
        have nM8 : M8.length = 16 := by rw [← hM8]; simp [beL_len, nL1]
        obtain ⟨A8, c8, rfl⟩ := hown.shape
        have R8 := (OwnR.rows (C := 1) (cells := bcell) (fun _ => rfl) hown).2
        have hown8 := OwnR.lower hown hF.size
        have hF := below_trans hF hF.size hb8
        have R0 := rows_keep R0 hb8
        have R7 := rows_keep R7 hb8
        refine ⟨_, rfl, fun _ => hF, ?_⟩
        go_frame
        clear hb8 hown
        obtain ⟨g13, hg13⟩ : ∃ g13, v8w.heap.size = g13 := ⟨_, rfl⟩
        obtain ⟨v13w, hv13w⟩ : ∃ v13w, v8w.alloc (.cells #[.int .i64 y6, .int .i64 y7] 3) = v13w := ⟨_, rfl⟩
        have hb13 : Below v8w.heap.size v8w v13w := by rw [← hv13w]; exact below_new _ _
        have R13 : RowsAt 1 icell v13w v13w.heap.size (some ⟨g13, 0, none⟩) [y6, y7] := by rw [← hv13w, ← hg13]; exact ints_new v8w 3 [y6, y7]
        have hF := below_trans hF hF.size hb13
        have R0 := rows_keep R0 hb13
        have R7 := rows_keep R7 hb13
        have R8 := rows_keep R8 hb13
        refine F_one (i := 13) (s' := #[true, true, true, true, true, true, true, true, true, true, true, true, true, true, false, false]) (by kernel_rfl) (by kernel_rfl) (wpOp_valueL (i := 13) (d := some 25) (w' := v13w) (v := .slice (some ⟨g13, 0, none⟩) 2 2) rfl rfl (by kernel_rfl) (by go_simp) ⟨fun _ => hF, ?_⟩)
        go_frame
        clear hv13w hg13 hb13
        refine F_one (i := 14) (s' := #[true, true, true, true, true, true, true, true, true, true, true, true, true, true, true, false]) (by kernel_rfl) (by kernel_rfl) (wpOp_enterL (i := 14) (d := some 26) (f := 96) (args := #[.slice A8 M8.length c8, .int .i64 2, .slice (some ⟨g13, 0, none⟩) 2 2]) rfl rfl (by kernel_rfl) (by go_simp) ((quadPut A8 c8 M8 2 (by decide) (by decide) (some ⟨g13, 0, none⟩) 2 [y6, y7] v13w v13w.heap.size R8 R13 (Nat.le_refl _) (by rw [nM8]; decide) (by simp) M8.length 2 rfl rfl).mono ?_))
        rintro r v14w ⟨v, rfl, hown, hb14⟩
        obtain ⟨M14, hM14⟩ : ∃ M14, M8 ++ [y6, y7].flatMap (beL 2) = M14 := ⟨_, rfl⟩
        rw [hM14] at hown
        have nM14 : M14.length = 20 := by rw [← hM14]; simp [beL_len, nM8]
        obtain ⟨A14, c14, rfl⟩ := hown.shape
        have R14 := (OwnR.rows (C := 1) (cells := bcell) (fun _ => rfl) hown).2
        have hown14 := OwnR.lower hown hF.size
        have hF := below_trans hF hF.size hb14
        have R0 := rows_keep R0 hb14
        have R7 := rows_keep R7 hb14
        have R8 := rows_keep R8 hb14
        have R13 := rows_keep R13 hb14
        refine ⟨_, rfl, fun _ => hF, ?_⟩
        go_frame
        clear hb14 hown
        refine F_one (i := 15) (s' := #[true, true, true, true, true, true, true, true, true, true, true, true, true, true, true, true]) (by kernel_rfl) (by kernel_rfl) (wpOp_valueL (i := 15) (d := some 2) (w' := v14w) (v := .slice A14 M14.length c14) rfl rfl (by kernel_rfl) (by go_simp) ⟨fun h => absurd h (by decide), ?_⟩)
        go_frame
        refine F_done (by kernel_rfl) ?_ _
        subst hM14 hM8
        go_wp2
        go_ret
        refine ⟨_, rfl, ?_, below_trans Hb.out hsz hF⟩
        unfold headL
        rw [HL1.out]
        exact OwnR.lower hown14 hsz
      · skip
        obtain ⟨g13, hg13⟩ : ∃ g13, v7w.heap.size = g13 := ⟨_, rfl⟩
        obtain ⟨v13w, hv13w⟩ : ∃ v13w, v7w.alloc (.cells #[.int .i64 y6, .int .i64 y7] 3) = v13w := ⟨_, rfl⟩
        have hb13 : Below v7w.heap.size v7w v13w := by rw [← hv13w]; exact below_new _ _
        have R13 : RowsAt 1 icell v13w v13w.heap.size (some ⟨g13, 0, none⟩) [y6, y7] := by rw [← hv13w, ← hg13]; exact ints_new v7w 3 [y6, y7]
        have hF := below_trans hF hF.size hb13
        have R0 := rows_keep R0 hb13
        have R7 := rows_keep R7 hb13
        refine wpOp_valueL (i := 13) (d := some 25) (w' := v13w) (v := .slice (some ⟨g13, 0, none⟩) 2 2) rfl rfl (by kernel_rfl) (by go_simp) ⟨fun _ => hF, ?_⟩
        go_frame
        clear hv13w hg13 hb13
        refine F_one (i := 8) (s' := #[true, true, true, true, true, true, true, true, true, true, true, true, true, true, false, false]) (by kernel_rfl) (by kernel_rfl) (wpOp_enterL (i := 8) (d := some 20) (f := 96) (args := #[.slice A L1.length c, .int .i64 4, .slice (some ⟨g7, 0, none⟩) 3 3]) rfl rfl (by kernel_rfl) (by go_simp) ((quadPut A c L1 4 (by decide) (by decide) (some ⟨g7, 0, none⟩) 3 [y3, y4, y5] v13w v13w.heap.size R0 R7 (Nat.le_refl _) (by rw [nL1]; decide) (by simp) L1.length 3 rfl rfl).mono ?_))
        rintro r v8w ⟨v, rfl, hown, hb8⟩
        obtain ⟨M8, hM8⟩ : ∃ M8, L1 ++ [y3, y4, y5].flatMap (beL 4) = M8 := ⟨_, rfl⟩
        rw [hM8] at hown
        have nM8 : M8.length = 16 := by rw [← hM8]; simp [beL_len, nL1]
        obtain ⟨A8, c8, rfl⟩ := hown.shape
        have R8 := (OwnR.rows (C := 1) (cells := bcell) (fun _ => rfl) hown).2
        have hown8 := OwnR.lower hown hF.size
        have hF := below_trans hF hF.size hb8
        have R0 := rows_keep R0 hb8
        have R7 := rows_keep R7 hb8
        have R13 := rows_keep R13 hb8
        refine ⟨_, rfl, fun _ => hF, ?_⟩
        go_frame
        clear hb8 hown
        refine F_one (i := 14) (s' := #[true, true, true, true, true, true, true, true, true, true, true, true, true, true, true, false]) (by kernel_rfl) (by kernel_rfl) (wpOp_enterL (i := 14) (d := some 26) (f := 96) (args := #[.slice A8 M8.length c8, .int .i64 2, .slice (some ⟨g13, 0, none⟩) 2 2]) rfl rfl (by kernel_rfl) (by go_simp) ((quadPut A8 c8 M8 2 (by decide) (by decide) (some ⟨g13, 0, none⟩) 2 [y6, y7] v8w v8w.heap.size R8 R13 (Nat.le_refl _) (by rw [nM8]; decide) (by simp) M8.length 2 rfl rfl).mono ?_))
        rintro r v14w ⟨v, rfl, hown, hb14⟩
        obtain ⟨M14, hM14⟩ : ∃ M14, M8 ++ [y6, y7].flatMap (beL 2) = M14 := ⟨_, rfl⟩
        rw [hM14] at hown
        have nM14 : M14.length = 20 := by rw [← hM14]; simp [beL_len, nM8]
        obtain ⟨A14, c14, rfl⟩ := hown.shape
        have R14 := (OwnR.rows (C := 1) (cells := bcell) (fun _ => rfl) hown).2
        have hown14 := OwnR.lower hown hF.size
        have hF := below_trans hF hF.size hb14
        have R0 := rows_keep R0 hb14
        have R7 := rows_keep R7 hb14
        have R13 := rows_keep R13 hb14
        have R8 := rows_keep R8 hb14
        refine ⟨_, rfl, fun _ => hF, ?_⟩
        go_frame
        clear hb14 hown
        refine F_one (i := 15) (s' := #[true, true, true, true, true, true, true, true, true, true, true, true, true, true, true, true]) (by kernel_rfl) (by kernel_rfl) (wpOp_valueL (i := 15) (d := some 2) (w' := v14w) (v := .slice A14 M14.length c14) rfl rfl (by kernel_rfl) (by go_simp) ⟨fun h => absurd h (by decide), ?_⟩)
        go_frame
        refine F_done (by kernel_rfl) ?_ _
        subst hM14 hM8
        go_wp2
        go_ret
        refine ⟨_, rfl, ?_, below_trans Hb.out hsz hF⟩
        unfold headL
        rw [HL1.out]
        exact OwnR.lower hown14 hsz
    · skip
      obtain ⟨g13, hg13⟩ : ∃ g13, wd.heap.size = g13 := ⟨_, rfl⟩
      obtain ⟨v13w, hv13w⟩ : ∃ v13w, wd.alloc (.cells #[.int .i64 y6, .int .i64 y7] 3) = v13w := ⟨_, rfl⟩
      have hb13 : Below wd.heap.size wd v13w := by rw [← hv13w]; exact below_new _ _
      have R13 : RowsAt 1 icell v13w v13w.heap.size (some ⟨g13, 0, none⟩) [y6, y7] := by rw [← hv13w, ← hg13]; exact ints_new wd 3 [y6, y7]
      have hF := below_trans hF hF.size hb13
      have R0 := rows_keep R0 hb13
      refine wpOp_valueL (i := 13) (d := some 25) (w' := v13w) (v := .slice (some ⟨g13, 0, none⟩) 2 2) rfl rfl (by kernel_rfl) (by go_simp) ⟨fun _ => hF, ?_⟩
      go_frame
      clear hv13w hg13 hb13
      obtain ⟨g7, hg7⟩ : ∃ g7, v13w.heap.size = g7 := ⟨_, rfl⟩
      obtain ⟨v7w, hv7w⟩ : ∃ v7w, v13w.alloc (.cells #[.int .i64 y3, .int .i64 y4, .int .i64 y5] 3) = v7w := ⟨_, rfl⟩
      have hb7 : Below v13w.heap.size v13w v7w := by rw [← hv7w]; exact below_new _ _
      have R7 : RowsAt 1 icell v7w v7w.heap.size (some ⟨g7, 0, none⟩) [y3, y4, y5] := by rw [← hv7w, ← hg7]; exact ints_new v13w 3 [y3, y4, y5]
      have hF := below_trans hF hF.size hb7
      have R0 := rows_keep R0 hb7
      have R13 := rows_keep R13 hb7
      refine F_one (i := 7) (s' := #[true, true, true, true, true, true, true, true, false, true, true, true, true, true, false, false]) (by kernel_rfl) (by kernel_rfl) (wpOp_valueL (i := 7) (d := some 19) (w' := v7w) (v := .slice (some ⟨g7, 0, none⟩) 3 3) rfl rfl (by kernel_rfl) (by go_simp) ⟨fun _ => hF, ?_⟩)
      go_frame
      clear hv7w hg7 hb7
      refine F_one (i := 8) (s' := #[true, true, true, true, true, true, true, true, true, true, true, true, true, true, false, false]) (by kernel_rfl) (by kernel_rfl) (wpOp_enterL (i := 8) (d := some 20) (f := 96) (args := #[.slice A L1.length c, .int .i64 4, .slice (some ⟨g7, 0, none⟩) 3 3]) rfl rfl (by kernel_rfl) (by go_simp) ((quadPut A c L1 4 (by decide) (by decide) (some ⟨g7, 0, none⟩) 3 [y3, y4, y5] v7w v7w.heap.size R0 R7 (Nat.le_refl _) (by rw [nL1]; decide) (by simp) L1.length 3 rfl rfl).mono ?_))
      rintro r v8w ⟨v, rfl, hown, hb8⟩
      obtain ⟨M8, hM8⟩ : ∃ M8, L1 ++ [y3, y4, y5].flatMap (beL 4) = M8 := ⟨_, rfl⟩
      rw [hM8] at hown
      have nM8 : M8.length = 16 := by rw [← hM8]; simp [beL_len, nL1]
      obtain ⟨A8, c8, rfl⟩ := hown.shape
      have R8 := (OwnR.rows (C := 1) (cells := bcell) (fun _ => rfl) hown).2
      have hown8 := OwnR.lower hown hF.size
      have hF := below_trans hF hF.size hb8
      have R0 := rows_keep R0 hb8
      have R13 := rows_keep R13 hb8
      have R7 := rows_keep R7 hb8
      refine ⟨_, rfl, fun _ => hF, ?_⟩
      go_frame
      clear hb8 hown
      refine F_one (i := 14) (s' := #[true, true, true, true, true, true, true, true, true, true, true, true, true, true, true, false]) (by kernel_rfl) (by kernel_rfl) (wpOp_enterL (i := 14) (d := some 26) (f := 96) (args := #[.slice A8 M8.length c8, .int .i64 2, .slice (some ⟨g13, 0, none⟩) 2 2]) rfl rfl (by kernel_rfl) (by go_simp) ((quadPut A8 c8 M8 2 (by decide) (by decide) (some ⟨g13, 0, none⟩) 2 [y6, y7] v8w v8w.heap.size R8 R13 (Nat.le_refl _) (by rw [nM8]; decide) (by simp) M8.length 2 rfl rfl).mono ?_))
      rintro r v14w ⟨v, rfl, hown, hb14⟩
      obtain ⟨M14, hM14⟩ : ∃ M14, M8 ++ [y6, y7].flatMap (beL 2) = M14 := ⟨_, rfl⟩
      rw [hM14] at hown
      have nM14 : M14.length = 20 := by rw [← hM14]; simp [beL_len, nM8]
      obtain ⟨A14, c14, rfl⟩ := hown.shape
      have R14 := (OwnR.rows (C := 1) (cells := bcell) (fun _ => rfl) hown).2
      have hown14 := OwnR.lower hown hF.size
      have hF := below_trans hF hF.size hb14
      have R0 := rows_keep R0 hb14
      have R13 := rows_keep R13 hb14
      have R7 := rows_keep R7 hb14
      have R8 := rows_keep R8 hb14
      refine ⟨_, rfl, fun _ => hF, ?_⟩
      go_frame
      clear hb14 hown
      refine F_one (i := 15) (s' := #[true, true, true, true, true, true, true, true, true, true, true, true, true, true, true, true]) (by kernel_rfl) (by kernel_rfl) (wpOp_valueL (i := 15) (d := some 2) (w' := v14w) (v := .slice A14 M14.length c14) rfl rfl (by kernel_rfl) (by go_simp) ⟨fun h => absurd h (by decide), ?_⟩)
      go_frame
      refine F_done (by kernel_rfl) ?_ _
      subst hM14 hM8
      go_wp2
      go_ret
      refine ⟨_, rfl, ?_, below_trans Hb.out hsz hF⟩
      unfold headL
      rw [HL1.out]
      exact OwnR.lower hown14 hsz

end Go.Proofs.Ytpnbibokddhheaa
