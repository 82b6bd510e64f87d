/-
  Floats that are whole numbers: sums and comparisons of them are exact.
-/
import Derived.Laws.FloatArith
import Derived.WalkKit
import Derived.Laws.ComplexArith
import Derived.WideKeyEntry
import Derived.Test.YtpfjgecdlilkcaaGreatBaa
import Derived.Test.YtpfjgecdlilkcaaGreatBac
import Derived.Test.YtpfjgecdlilkcaaGreatBad
namespace Go.Proofs.YtpfjgecdlilkcaaGreat
open Go

/-- the float of a whole number -/
def flt (n : Nat) : Nat := Ieee.Format.nearest Ieee.double false n 0

theorem dbl_least : Ieee.double.leastPlace = -1074 := by decide
theorem dbl_binade : Ieee.double.binade = 2 ^ 52 := by decide
theorem dbl_inf : Ieee.double.infRung = 2047 * 2 ^ 52 := by decide
theorem dbl_sw : Ieee.double.signWeight = 2 ^ 63 := by decide
theorem log2_mul_pow {n : Nat} (hn : n ≠ 0) (d : Nat) : (n * 2 ^ d).log2 = n.log2 + d := by
  have hp : 0 < 2 ^ d := Nat.two_pow_pos d
  have h0 : n * 2 ^ d ≠ 0 := Nat.mul_ne_zero hn (by omega)
  rw [Nat.log2_eq_iff h0]
  have h1 := Nat.log2_self_le hn
  have h2 := Nat.lt_log2_self (n := n)
  constructor
  · rw [Nat.pow_add]
    exact Nat.mul_le_mul_right _ h1
  · rw [show n.log2 + d + 1 = (n.log2 + 1) + d by omega, Nat.pow_add]
    exact Nat.mul_lt_mul_of_pos_right h2 hp
theorem cut_even0 (n d : Nat) : Ieee.Toward.cut .even false (n * 2 ^ d) d = n := by
  unfold Ieee.Toward.cut
  by_cases hn : n = 0
  · subst hn
    simp [Nat.shiftLeft_eq]
  · have hd : min d ((n * 2 ^ d).log2 + 2) = d := by
      rw [log2_mul_pow hn]
      omega
    rw [hd, Nat.shiftLeft_eq, Nat.one_mul]
    have hp : 0 < 2 ^ d := Nat.two_pow_pos d
    simp only [Nat.mul_div_cancel _ hp, Nat.mul_mod_left]
    have h1 : decide (2 ^ d < 2 * 0) = false := by simp
    have h2 : (2 ^ d == 2 * 0) = false := by simp
    rw [h1, h2]
    simp
theorem minX (X L m : Nat) (hL : L ≤ 52) (hm : m < 2 * X) : min ((L + 1022) * X + m) (2047 * X) = (L + 1022) * X + m := by
  have : (L + 1022) * X ≤ 1074 * X := Nat.mul_le_mul_right _ (by omega)
  omega
theorem ltXf (X L m : Nat) (hL : L ≤ 52) (hm : m < 2 * X) (hm0 : X ≤ m) : (L + 1022) * X + m < 2047 * X ∧ ¬(L + 1022) * X + m < X ∧ ((L + 1022) * X + m) / X = L + 1023 ∧ ((L + 1022) * X + m) % X = m - X := by
  have h1 : (L + 1022) * X ≤ 1074 * X := Nat.mul_le_mul_right _ (by omega)
  have h2 : 1 * X ≤ (L + 1022) * X := Nat.mul_le_mul_right _ (by omega)
  have hX : 0 < X := by omega
  have e : (L + 1022) * X + m = (m - X) + X * (L + 1023) := by
    rw [Nat.mul_comm X, show L + 1023 = (L + 1022) + 1 by omega, Nat.add_mul (L + 1022) 1]
    omega
  refine ⟨by omega, by omega, ?_, ?_⟩
  · rw [e, Nat.add_mul_div_left _ _ hX, Nat.div_eq_of_lt (by omega)]; omega
  · rw [e, Nat.add_mul_mod_self_left, Nat.mod_eq_of_lt (by omega)]
theorem nearest_shift (n k : Nat) (hn : n < 2 ^ 53) : Ieee.Format.nearest Ieee.double false (n * 2 ^ k) (-(k : Int)) = if n = 0 then 0 else (n.log2 + 1022) * 2 ^ 52 + n * 2 ^ (52 - n.log2) := by
  unfold Ieee.Format.nearest
  by_cases h0 : n = 0
  · subst h0
    simp [Ieee.Format.word]
  · have hp : 0 < 2 ^ k := Nat.two_pow_pos k
    rw [if_neg h0, if_neg (Nat.mul_ne_zero h0 (by omega)), log2_mul_pow h0, dbl_least, dbl_binade, dbl_inf]
    have hL : n.log2 ≤ 52 := by
      have := (Nat.log2_lt h0).2 hn
      omega
    have hfb : ((Ieee.double.fractionBits : Nat) : Int) = 52 := rfl
    simp only [hfb]
    obtain ⟨L, hLL⟩ : ∃ L, n.log2 = L := ⟨_, rfl⟩
    have h1 := Nat.log2_self_le h0
    have h2 := Nat.lt_log2_self (n := n)
    rw [hLL] at h1 h2 hL ⊢
    have hlast : max (-(k : Int) + ((L + k : Nat) : Int) - 52) (-1074) = (L : Int) - 52 := by omega
    rw [hlast]
    have hw : ((L : Int) - 52 - -1074).toNat = L + 1022 := by omega
    rw [hw]
    have hcut : Ieee.Toward.cut .even false ((n * 2 ^ k) <<< (-(k : Int) - ((L : Int) - 52)).toNat) (((L : Int) - 52 - -(k : Int)).toNat) = n * 2 ^ (52 - L) := by
      rw [Nat.shiftLeft_eq]
      by_cases hc : k ≤ 52 - L
      · rw [show ((L : Int) - 52 - -(k : Int)).toNat = 0 by omega, show (-(k : Int) - ((L : Int) - 52)).toNat = 52 - L - k by omega]
        have := cut_even0 (n * 2 ^ k * 2 ^ (52 - L - k)) 0
        rw [Nat.pow_zero, Nat.mul_one] at this
        rw [this, Nat.mul_assoc, ← Nat.pow_add]
        congr 2
        omega
      · rw [show ((L : Int) - 52 - -(k : Int)).toNat = k - (52 - L) by omega, show (-(k : Int) - ((L : Int) - 52)).toNat = 0 by omega, Nat.pow_zero, Nat.mul_one]
        have := cut_even0 (n * 2 ^ (52 - L)) (k - (52 - L))
        rw [Nat.mul_assoc, ← Nat.pow_add, show 52 - L + (k - (52 - L)) = k by omega] at this
        exact this
    rw [hcut]
    have hlt : n * 2 ^ (52 - L) < 2 ^ 53 := by
      have : n * 2 ^ (52 - L) < 2 ^ (L + 1) * 2 ^ (52 - L) := Nat.mul_lt_mul_of_pos_right h2 (Nat.two_pow_pos _)
      rw [← Nat.pow_add, show L + 1 + (52 - L) = 53 by omega] at this
      exact this
    unfold Ieee.Format.word
    simp only [Bool.false_eq_true, if_false]
    exact minX _ _ _ hL (by rw [← Nat.pow_succ']; exact hlt)
theorem flt_eq (n : Nat) (hn : n < 2 ^ 53) : flt n = if n = 0 then 0 else (n.log2 + 1022) * 2 ^ 52 + n * 2 ^ (52 - n.log2) := by
  have := nearest_shift n 0 hn
  rw [Nat.pow_zero, Nat.mul_one] at this
  exact this
/-- what it reads as -/
theorem flt_read (n : Nat) (hn : n < 2 ^ 53) : ∃ k : Nat, k ≤ 1074 ∧ Ieee.double.read (flt n) = .number false (n * 2 ^ k) (-(k : Int)) := by
  rw [flt_eq n hn]
  by_cases h0 : n = 0
  · subst h0
    obtain ⟨c, hc⟩ : ∃ c : Nat, c = 1074 := ⟨_, rfl⟩
    refine ⟨c, by omega, ?_⟩
    rw [if_pos rfl, Nat.zero_mul, hc]
    unfold Ieee.Format.read
    rw [dbl_sw, dbl_binade, dbl_least]
    simp
  · rw [if_neg h0]
    have hL : n.log2 ≤ 52 := by
      have := (Nat.log2_lt h0).2 hn
      omega
    have h1 := Nat.log2_self_le h0
    have h2 := Nat.lt_log2_self (n := n)
    obtain ⟨L, hLL⟩ : ∃ L, n.log2 = L := ⟨_, rfl⟩
    rw [hLL] at h1 h2 hL ⊢
    have hlt : n * 2 ^ (52 - L) < 2 ^ 53 := by
      have : n * 2 ^ (52 - L) < 2 ^ (L + 1) * 2 ^ (52 - L) := Nat.mul_lt_mul_of_pos_right h2 (Nat.two_pow_pos _)
      rw [← Nat.pow_add, show L + 1 + (52 - L) = 53 by omega] at this
      exact this
    have hge : 2 ^ 52 ≤ n * 2 ^ (52 - L) := by
      have : 2 ^ L * 2 ^ (52 - L) ≤ n * 2 ^ (52 - L) := Nat.mul_le_mul_right _ h1
      rw [← Nat.pow_add, show L + (52 - L) = 52 by omega] at this
      exact this
    refine ⟨52 - L, by omega, ?_⟩
    generalize n * 2 ^ (52 - L) = m at *
    obtain ⟨r1, r2, r3, r4⟩ := ltXf (2 ^ 52) L m hL (by rw [← Nat.pow_succ']; exact hlt) hge
    unfold Ieee.Format.read
    rw [dbl_sw, dbl_binade, dbl_inf, dbl_least]
    have h63 : (2047 : Nat) * 2 ^ 52 ≤ 2 ^ 63 := by decide
    have r5 : (L + 1022) * 2 ^ 52 + m < 2 ^ 63 := Nat.lt_of_lt_of_le r1 h63
    simp only [Nat.div_eq_of_lt r5, Nat.mod_eq_of_lt r5]
    rw [if_neg r2, if_pos r1, r3, r4]
    simp only [Nat.zero_mod, show ((0 : Nat) == 1) = false from rfl, Ieee.Datum.number.injEq, true_and]
    constructor
    · exact Nat.add_sub_cancel' hge
    · omega
theorem shiftI (n k : Nat) (b : Int) (h : b ≤ -(k : Int)) : Ieee.signed false (n * 2 ^ k) (-(k : Int) - b).toNat = ((n * 2 ^ (-b).toNat : Nat) : Int) := by
  unfold Ieee.signed
  simp only [Bool.false_eq_true, if_false]
  rw [Nat.shiftLeft_eq, Nat.mul_assoc, ← Nat.pow_add, show k + (-(k : Int) - b).toNat = (-b).toNat by omega]
theorem flt_add (a b : Nat) (h : a + b < 2 ^ 53) : floatBits .add .f64 (flt a) (flt b) = some (flt (a + b)) := by
  obtain ⟨i, hi, ea⟩ := flt_read a (by omega)
  obtain ⟨j, hj, eb⟩ := flt_read b (by omega)
  unfold floatBits FloatKind.format Ieee.Format.add
  simp only
  rw [ea, eb]
  unfold Ieee.Datum.sum
  simp only [Option.map_some, Option.some.injEq]
  rw [shiftI a i _ (by omega), shiftI b j _ (by omega)]
  obtain ⟨c, hc⟩ : ∃ c : Nat, min (-(i : Int)) (-(j : Int)) = -(c : Int) ∧ c ≤ 1074 := ⟨max i j, by omega, by omega⟩
  rw [hc.1, show (-(-(c : Int))).toNat = c by omega]
  have hsum : ((a * 2 ^ c : Nat) : Int) + ((b * 2 ^ c : Nat) : Int) = (((a + b) * 2 ^ c : Nat) : Int) := by
    rw [Nat.add_mul]; omega
  rw [hsum]
  have hneg : decide ((((a + b) * 2 ^ c : Nat) : Int) < 0) = false := by
    have : (0 : Int) ≤ (((a + b) * 2 ^ c : Nat) : Int) := Int.natCast_nonneg _
    simpa using this
  rw [hneg]
  simp only [Bool.and_false, ite_self, Int.natAbs_natCast]
  unfold Ieee.Format.write
  simp only
  rw [nearest_shift _ _ h, ← flt_eq _ h]
theorem flt_toInt (n : Nat) (h : n < 2 ^ 53) : floatToIntVal .f64 (flt n) .i64 = some (n : Int) := by
  obtain ⟨i, hi, ea⟩ := flt_read n h
  unfold floatToIntVal FloatKind.decode FloatKind.format
  simp only
  rw [ea]
  unfold Ieee.Datum.toInt Ieee.Datum.integral
  simp only
  have : Ieee.Toward.cut .zero false ((n * 2 ^ i) <<< (-(i : Int)).toNat) (- -(i : Int)).toNat = n := by
    rw [show (-(i : Int)).toNat = 0 by omega, show (- -(i : Int)).toNat = i by omega, Nat.shiftLeft_eq, Nat.pow_zero, Nat.mul_one]
    unfold Ieee.Toward.cut
    by_cases hn : n = 0
    · subst hn
      simp
    · have hd : min i ((n * 2 ^ i).log2 + 2) = i := by
        rw [log2_mul_pow hn]
        omega
      rw [hd, Nat.shiftLeft_eq, Nat.one_mul]
      simp only [Nat.mul_div_cancel _ (Nat.two_pow_pos i)]
      simp
  rw [this]
  unfold Ieee.signed
  simp only [Bool.false_eq_true, if_false, Nat.shiftLeft_eq, Nat.pow_zero, Nat.mul_one]
  have h1 : IntKind.i64.min = -9223372036854775808 := by decide
  have h2 : IntKind.i64.max = 9223372036854775807 := by decide
  rw [h1, h2, if_pos (by omega)]
theorem flt_order (a b : Nat) (ha : a < 2 ^ 53) (hb : b < 2 ^ 53) : Ieee.double.order (flt a) (flt b) = some (compare a b) := by
  obtain ⟨i, hi, ea⟩ := flt_read a (by omega)
  obtain ⟨j, hj, eb⟩ := flt_read b (by omega)
  unfold Ieee.Format.order
  rw [ea, eb]
  unfold Ieee.Datum.order
  simp only [Option.some.injEq]
  rw [shiftI a i _ (by omega), shiftI b j _ (by omega)]
  have hp : 0 < 2 ^ (-min (-(i : Int)) (-(j : Int))).toNat := Nat.two_pow_pos _
  generalize 2 ^ (-min (-(i : Int)) (-(j : Int))).toNat = c at *
  simp only [compare, compareOfLessAndEq]
  by_cases h : a < b
  · have : a * c < b * c := Nat.mul_lt_mul_of_pos_right h hp
    rw [if_pos h, if_pos (by omega)]
  · rw [if_neg h]
    by_cases h2 : a = b
    · subst h2
      simp
    · have : b * c < a * c := Nat.mul_lt_mul_of_pos_right (by omega) hp
      rw [if_neg h2, if_neg (by omega), if_neg (by omega)]
theorem flt_int (n : Nat) : floatOfInt .f64 (n : Int) = flt n := by
  have : decide ((n : Int) < 0) = false := by simp
  show Ieee.Format.nearest Ieee.double (decide ((n : Int) < 0)) (n : Int).natAbs 0 = _
  rw [this]
  rfl
theorem flt_nearest (n : Nat) : FloatKind.f64.nearest (n : Int) = flt n := by
  unfold FloatKind.nearest
  exact flt_int n
end Go.Proofs.YtpfjgecdlilkcaaGreat

/-
  Layer 21: floats that are whole numbers: compared, the lesser one; sums of complex ones.
-/
namespace Go.Proofs.YtpfjgecdlilkcaaGreat
open Go.RowKit Go.Sort Go.Proofs

theorem cplxAdd (T : TypeId) (a b c d : Nat) (h1 : a + c < 2 ^ 53) (h2 : b + d < 2 ^ 53) (w : World) : (binOp .add T (.complex .f64 (flt a) (flt b)) (.complex .f64 (flt c) (flt d))).run Tryz.prog w = .ok (.complex .f64 (flt (a + c)) (flt (b + d))) w := by
  refine run_complex_sum w .add (.inl rfl) T .f64 _ _ _ _ _ _ ?_
  unfold cSumBits
  rw [flt_add _ _ h1, flt_add _ _ h2]
  rfl
theorem flt_zero0 : flt 0 = 0 := by rw [flt_eq 0 (by omega)]; rfl
theorem fltInt (b : Nat) (n : Int) (h : floatToIntVal .f64 b .i64 = some n) (w : World) : (convert 105 3 (.float .f64 b)).run Tryz.prog w = .ok (.int .i64 n) w :=
  run_convert_float_int w 105 3 .f64 .i64 b n (by rw [Tryz.underlying105]; rfl) Tryz.underlying3 h
theorem fltOrder (a b : Nat) (ha : a < 2 ^ 53) (hb : b < 2 ^ 53) : FloatKind.f64.format.order (flt a) (flt b) = some (compare a b) := flt_order a b ha hb
theorem minFlt_run (a b : Nat) (ha : a < 2 ^ 53) (hb : b < 2 ^ 53) (ts : Array TypeId) (t : TypeId) (w : World) : (Builtin.min_ ts t #[.float .f64 (flt a), .float .f64 (flt b)]).run Tryz.prog w = .ok (.float .f64 (flt (min a b))) w := by
  unfold Builtin.min_
  simp only [List.foldlM_cons, List.foldlM_nil, Builtin.min2]
  rw [fltOrder a b ha hb]
  rcases Nat.lt_trichotomy a b with h | h | h
  · have hc : compare a b = .lt := Nat.compare_eq_lt.2 h
    simp [hc, Nat.min_eq_left (Nat.le_of_lt h)]
  · subst h
    have hc : compare a a = .eq := Nat.compare_eq_eq.2 rfl
    simp
  · have hc : compare a b = .gt := Nat.compare_eq_gt.2 h
    simp [hc, Nat.min_eq_right (Nat.le_of_lt h)]
set_option maxHeartbeats 400000 in
theorem isNaNF_s (a : Nat) (ha : a < 2 ^ 53) (w : World) : Calls Tryz.prog 118 #[.float .f64 (flt a)] w fun r w' => r = .returned (.bool false) ∧ w = w' := by
  have ho : FloatKind.f64.format.order (flt a) (flt a) = some .eq := by
    rw [fltOrder a a ha ha, Nat.compare_eq_eq.2 rfl]
  generalize flt a = x at *
  go_enter Tryz.func118, Tryz.ntmps118
  go_wp2
  go_ret
  exact ⟨rfl, rfl⟩
set_option maxHeartbeats 1000000 in
theorem cmpF_s (a b : Nat) (ha : a < 2 ^ 53) (hb : b < 2 ^ 53) (w : World) : Calls Tryz.prog 87 #[.float .f64 (flt a), .float .f64 (flt b)] w fun r w' => r = .returned (.int .i64 (cmpI a b)) ∧ w = w' := by
  have HA := Lib.hid (fun w => isNaNF_s a ha w)
  have HB := Lib.hid (fun w => isNaNF_s b hb w)
  have hc : ∃ c, FloatKind.f64.format.order (flt a) (flt b) = some c ∧ ((c = .lt ∧ cmpI a b = -1) ∨ (c = .eq ∧ cmpI a b = 0) ∨ (c = .gt ∧ cmpI a b = 1)) := by
    refine ⟨_, fltOrder a b ha hb, ?_⟩
    rcases Nat.lt_trichotomy a b with h | h | h
    · exact .inl ⟨Nat.compare_eq_lt.2 h, by unfold cmpI; simp; omega⟩
    · exact .inr (.inl ⟨Nat.compare_eq_eq.2 h, by unfold cmpI; simp; omega⟩)
    · exact .inr (.inr ⟨Nat.compare_eq_gt.2 h, by unfold cmpI; simp; omega⟩)
  obtain ⟨c, ho, hc⟩ := hc
  generalize flt a = x at *
  generalize flt b = y at *
  rcases hc with ⟨rfl, e⟩ | ⟨rfl, e⟩ | ⟨rfl, e⟩
  all_goals
    rw [e]
    clear e
    go_enter Tryz.func87, Tryz.ntmps87
    go_wp2_with fail
    with_reducible refine Calls.mono (HA.out _) ?_
    rintro r w2 ⟨rfl, rfl⟩
    go_wp2_with fail
    with_reducible refine Calls.mono (HB.out _) ?_
    rintro r w2 ⟨rfl, rfl⟩
    go_wp2
    go_ret
    exact ⟨rfl, rfl⟩

end Go.Proofs.YtpfjgecdlilkcaaGreat

/-
  Layer 21: the search's state: what is found of each vertex, in places of the call's own; the edges by vertex.
-/
namespace Go.Proofs.YtpfjgecdlilkcaaGreat
open Go.RowKit

/-- what is found of a vertex: where its place lies, what is there -/
structure PlW where
  p : Nat
  A : Option Addr
  c : Nat
  pl : Pl
  done : Bool
abbrev Fnd := List (Vx × PlW)
def PlW.nv (x : PlW) : Value := .slice x.A x.pl.next.length x.c
def PlW.val (x : PlW) : Value := .pointer (some ⟨x.p, 0, none⟩)
def PlW.cells (x : PlW) : Array Value := #[.complex .f64 (flt x.pl.a.c) (flt x.pl.a.h), .slice x.A x.pl.next.length x.c, .bool x.done]
def valsF (F : Fnd) : List (Vx × Value) := F.map fun e => (e.1, e.2.val)
def getF (v : Vx) : Fnd → Option PlW
  | [] => none
  | e :: F => if e.1 = v then some e.2 else getF v F
def setF (v : Vx) (x : PlW) : Fnd → Fnd
  | [] => [(v, x)]
  | e :: F => if e.1 = v then (v, x) :: F else e :: setF v x F
def tabF (F : Fnd) : Tab := fun v => (getF v F).map (·.pl)
theorem getL_vals (v : Vx) : ∀ F : Fnd, getL v (valsF F) = (getF v F).map (·.val)
  | [] => rfl
  | e :: F => by
    have ih := getL_vals v F
    simp only [valsF, List.map_cons] at ih ⊢
    unfold getL getF
    by_cases h : e.1 = v
    · rw [if_pos h, if_pos h]; rfl
    · rw [if_neg h, if_neg h]; exact ih
theorem setL_vals (v : Vx) (x : PlW) : ∀ F : Fnd, setL v x.val (valsF F) = valsF (setF v x F)
  | [] => rfl
  | e :: F => by
    have ih := setL_vals v x F
    simp only [valsF, List.map_cons] at ih ⊢
    unfold setL setF
    by_cases h : e.1 = v
    · rw [if_pos h, if_pos h]; rfl
    · rw [if_neg h, if_neg h, ih]; rfl
theorem getF_set (u v : Vx) (x : PlW) : ∀ F : Fnd, getF u (setF v x F) = if u = v then some x else getF u F
  | [] => by
    unfold setF getF
    by_cases h : u = v
    · simp [h]
    · simp [h, Ne.symm h, getF]
  | e :: F => by
    have ih := getF_set u v x F
    unfold setF
    by_cases h1 : e.1 = v
    · rw [if_pos h1]
      by_cases h2 : u = v
      · simp [getF, h2]
      · have h3 : ¬ e.1 = u := fun e' => h2 (by rw [← e', h1])
        have h4 : ¬ v = u := fun e' => h2 e'.symm
        simp [getF, h2, h3, h4]
    · rw [if_neg h1]
      unfold getF
      by_cases h2 : e.1 = u
      · have h3 : ¬ u = v := fun e' => h1 (by rw [h2, e'])
        simp [h2, h3]
      · simp [h2, ih]
theorem getF_mem {v : Vx} {x : PlW} : ∀ {F : Fnd}, getF v F = some x → (v, x) ∈ F
  | [], h => by cases h
  | e :: F, h => by
    unfold getF at h
    by_cases he : e.1 = v
    · rw [if_pos he] at h
      cases h
      subst he
      simp
    · rw [if_neg he] at h
      exact List.mem_cons_of_mem _ (getF_mem h)
theorem getF_of_mem {v : Vx} {x : PlW} : ∀ {F : Fnd}, (F.map (·.1)).Nodup → (v, x) ∈ F → getF v F = some x
  | [], _, h => by simp at h
  | e :: F, hn, h => by
    simp only [List.map_cons, List.nodup_cons] at hn
    unfold getF
    rcases List.mem_cons.1 h with rfl | h
    · simp
    · have : e.1 ≠ v := fun he => hn.1 (by rw [he]; exact List.mem_map.2 ⟨_, h, rfl⟩)
      rw [if_neg this]
      exact getF_of_mem hn.2 h
theorem getF_none {v : Vx} : ∀ {F : Fnd}, getF v F = none → ∀ e ∈ F, e.1 ≠ v
  | [], _, e, he => by cases he
  | a :: F, h, e, he => by
    unfold getF at h
    by_cases ha : a.1 = v
    · rw [if_pos ha] at h; cases h
    · rw [if_neg ha] at h
      rcases List.mem_cons.1 he with rfl | he
      · exact ha
      · exact getF_none h e he
theorem keysF (F : Fnd) : (valsF F).map (·.1) = F.map (·.1) := by
  unfold valsF
  rw [List.map_map]
  rfl
theorem setF_keys {v : Vx} {x : PlW} : ∀ {F : Fnd}, (F.map (·.1)).Nodup → ((setF v x F).map (·.1)).Nodup := by
  intro F h
  have := (setL_keys (k := v) (v := x.val) (L := valsF F) (by rw [keysF]; exact h)).1
  rw [setL_vals, keysF] at this
  exact this
/-- what is there behind it: the new one, or one of another vertex -/
theorem mem_setF {v : Vx} {x : PlW} {F : Fnd} (hn : (F.map (·.1)).Nodup) {e : Vx × PlW} : e ∈ setF v x F ↔ e = (v, x) ∨ (e ∈ F ∧ e.1 ≠ v) := by
  have hk := setF_keys (v := v) (x := x) hn
  constructor
  · intro h
    have h1 := getF_of_mem hk (v := e.1) (x := e.2) h
    rw [getF_set] at h1
    by_cases hv : e.1 = v
    · rw [if_pos hv] at h1
      cases h1
      exact .inl (Prod.ext hv rfl)
    · rw [if_neg hv] at h1
      exact .inr ⟨getF_mem h1, hv⟩
  · intro h
    have : getF e.1 (setF v x F) = some e.2 := by
      rw [getF_set]
      rcases h with rfl | ⟨h, hv⟩
      · simp
      · rw [if_neg hv]
        exact getF_of_mem hn h
    exact getF_mem this
theorem tabF_set (v : Vx) (x : PlW) (F : Fnd) (u : Vx) : tabF (setF v x F) u = if u = v then some x.pl else tabF F u := by
  unfold tabF
  rw [getF_set]
  split <;> rfl
def PlaceB (w : World) (k : Nat) : Prop := ∃ cs, Blk w k 101 cs
/-- the places, and the map of them -/
structure FndAt (w : World) (B bf : Nat) (F : Fnd) : Prop where
  map : MapAt Vx.enc w bf (valsF F)
  base : B ≤ bf
  blk : ∀ e ∈ F, Blk w e.2.p 101 e.2.cells ∧ B ≤ e.2.p
  own : ∀ e ∈ F, OwnR 50 2 Hp.cells w B e.2.nv e.2.pl.next
  apart : ∀ e ∈ F, ∀ e' ∈ F, e.2.p = e'.2.p → e.1 = e'.1
/-- what turns but the map of what is found and places turns not -/
structure Mv (B bf : Nat) (w w' : World) : Prop where
  below : Below B w w'
  kept : ∀ k, k < w.heap.size → k ≠ bf → ¬ PlaceB w k → w'.heap[k]? = w.heap[k]?
section
variable {w w' w'' : World} {B bf : Nat} {F : Fnd}
theorem Mv.refl (B bf : Nat) (w : World) : Mv B bf w w := ⟨Below.refl _ _, fun _ _ _ _ => rfl⟩
theorem Mv.trans (h : Mv B bf w w') (h' : Mv B bf w' w'') (_hB : B ≤ w.heap.size) : Mv B bf w w'' := by
  refine ⟨h.below.trans h'.below, fun k hk hne hp => ?_⟩
  have e1 := h.kept k hk hne hp
  refine (h'.kept k (Nat.lt_of_lt_of_le hk h.below.size) hne ?_).trans e1
  rintro ⟨cs, hc⟩
  exact hp ⟨cs, e1.symm.trans hc⟩
theorem Mv.of_below (h : Below w.heap.size w w') (hB : B ≤ w.heap.size) : Mv B bf w w' := ⟨h.mono hB, fun k hk _ _ => h.block k hk⟩
theorem Mv.blk (h : Mv B bf w w') {k : Nat} {t : TypeId} {cs : Array Value} (hb : Blk w k t cs) (hne : k ≠ bf) (ht : t ≠ 101) : Blk w' k t cs := by
  refine (h.kept k hb.lt hne ?_).trans hb
  rintro ⟨cs', hc⟩
  have := hb.symm.trans hc
  injection this with this
  injection this with _ this
  exact ht this
theorem Mv.own {α : Type} {e : TypeId} {C : Nat} {cells : α → List Value} {v : Value} {L : List α} (h : Mv B bf w w') (ho : OwnR e C cells w B v L) (he : e ≠ 101) (hm : MapAt Vx.enc w bf (valsF F)) : OwnR e C cells w' B v L := by
  refine ⟨ho.1, ?_⟩
  rcases ho.2 with g | ⟨g, cap, cur, h1, h2, h3, h4⟩
  · exact .inl g
  · refine .inr ⟨g, cap, cur, h1, h2, h.blk h3 ?_ he, h4⟩
    rintro rfl
    obtain ⟨es, clock, h5, -⟩ := hm
    rw [h3] at h5
    cases h5
theorem Mv.map {enc : Vx → Value} {b : Nat} {L : List (Vx × Value)} (h : Mv B bf w w') (hm : MapAt enc w b L) (hne : b ≠ bf) : MapAt enc w' b L := by
  refine hm.same (h.kept b hm.lt hne ?_)
  rintro ⟨cs, hc⟩
  obtain ⟨es, clock, h5, -⟩ := hm
  have h6 : w.heap[b]? = some (.cells cs 101 (0, 0)) := hc
  rw [h6] at h5
  cases h5
theorem FndAt.keys (h : FndAt w B bf F) : (F.map (·.1)).Nodup := by
  have := h.map.nodup
  rw [keysF] at this
  exact this
theorem FndAt.below (h : FndAt w B bf F) (hb : Below w.heap.size w w') : FndAt w' B bf F where
  map := h.map.below hb h.map.lt
  base := h.base
  blk := fun e he => ⟨(h.blk e he).1.below hb (h.blk e he).1.lt, (h.blk e he).2⟩
  own := fun e he => (h.own e he).below hb
  apart := h.apart
theorem FndAt.get (h : FndAt w B bf F) {v : Vx} {x : PlW} (hv : getF v F = some x) : Blk w x.p 101 x.cells ∧ B ≤ x.p ∧ OwnR 50 2 Hp.cells w B x.nv x.pl.next :=
  ⟨(h.blk _ (getF_mem hv)).1, (h.blk _ (getF_mem hv)).2, h.own _ (getF_mem hv)⟩
theorem FndAt.ne_map (h : FndAt w B bf F) {x : PlW} (hb : Blk w x.p 101 x.cells) : x.p ≠ bf := by
  intro e
  obtain ⟨es, clock, h5, -⟩ := h.map
  rw [← e] at h5
  have h6 : w.heap[x.p]? = some (.cells x.cells 101 (0, 0)) := hb
  rw [h6] at h5
  cases h5
/-- a place is filled anew, where it lies -/
theorem FndAt.fill (h : FndAt w B bf F) {v : Vx} {x y : PlW} (hv : getF v F = some x) (hp : y.p = x.p) (hb : Blk w' y.p 101 y.cells) (ho : OwnR 50 2 Hp.cells w' B y.nv y.pl.next) (hg : w.grownBy w' (some x.p)) : FndAt w' B bf (setF v y F) ∧ Mv B bf w w' := by
  have hx := getF_mem hv
  have hk := h.keys
  obtain ⟨hxb, hxB, -⟩ := h.get hv
  have hvals : valsF (setF v y F) = valsF F := by
    rw [← setL_vals]
    have hyx : y.val = x.val := by unfold PlW.val; rw [hp]
    rw [hyx]
    have hgL : getL v (valsF F) = some x.val := by rw [getL_vals, hv]; rfl
    have : ∀ L : List (Vx × Value), getL v L = some x.val → setL v x.val L = L := by
      intro L
      induction L with
      | nil => intro g; cases g
      | cons e L ih =>
        intro g
        unfold getL at g
        unfold setL
        by_cases he : e.1 = v
        · rw [if_pos he] at g ⊢
          injection g with g
          rw [← he, ← g]
        · rw [if_neg he] at g ⊢
          rw [ih g]
    exact this _ hgL
  refine ⟨⟨?_, h.base, ?_, ?_, ?_⟩, ?_, ?_⟩
  · rw [hvals]
    exact h.map.grown hg (fun e => h.ne_map hxb (by injection e with e; exact e.symm))
  · intro e he
    rcases (mem_setF hk).1 he with rfl | ⟨he, hne⟩
    · exact ⟨hb, by rw [hp]; exact hxB⟩
    · exact ⟨(h.blk e he).1.grown hg (fun e' => hne (h.apart e he _ hx (by injection e'))), (h.blk e he).2⟩
  · intro e he
    rcases (mem_setF hk).1 he with rfl | ⟨he, hne⟩
    · exact ho
    · refine (h.own e he).kept hg (.inr fun e' => ?_)
      rcases (h.own e he).2 with ⟨g, -⟩ | ⟨g, cap, cur, h1, h2, h3, h4⟩
      · rw [g] at e'; cases e'
      · rw [h1] at e'
        have e2 : g = x.p := by injection e'
        rw [e2] at h3
        have h6 : w.heap[x.p]? = some (.cells x.cells 101 (0, 0)) := hxb
        rw [h6] at h3
        injection h3 with h3
        injection h3 with _ h3
        revert h3
        decide
  · intro e he e' he' hpp
    rcases (mem_setF hk).1 he with rfl | ⟨he, hne⟩ <;> rcases (mem_setF hk).1 he' with rfl | ⟨he', hne'⟩
    · rfl
    · exact h.apart (v, x) hx e' he' (hp.symm.trans hpp)
    · exact h.apart e he (v, x) hx (hpp.trans hp)
    · exact h.apart e he e' he' hpp
  · exact ⟨hg.os, hg.tape, hg.output, hg.size, fun k hk => hg.block k (by have := hxb.lt; omega) (fun e => by injection e with e; omega)⟩
  · intro k hk hne hnp
    exact hg.block k hk (fun e => hnp ⟨_, by injection e with e; rw [e]; exact hxb⟩)
/-- a place of a block that is new -/
theorem FndAt.put (h : FndAt w B bf F) {v : Vx} {y : PlW} {w1 : World} (hb1 : Below w.heap.size w w1) (hp : w.heap.size ≤ y.p) (hb : Blk w1 y.p 101 y.cells) (ho : OwnR 50 2 Hp.cells w1 B y.nv y.pl.next) (hB : B ≤ w.heap.size)
    (hm : MapAt Vx.enc w' bf (setL v y.val (valsF F))) (hg : w1.grownBy w' (some bf)) : FndAt w' B bf (setF v y F) ∧ Mv B bf w w' := by
  have hk := h.keys
  have h1 := h.below hb1
  rw [setL_vals] at hm
  have hnm : ∀ {x : Nat} {t : TypeId} {cs : Array Value}, Blk w1 x t cs → some x ≠ some bf := by
    intro x t cs hx e
    injection e with e
    obtain ⟨es, clock, h5, -⟩ := h1.map
    rw [← e] at h5
    have h6 : w1.heap[x]? = some (.cells cs t (0, 0)) := hx
    rw [h6] at h5
    cases h5
  have hno : ∀ {v : Value} {L : List Hp}, OwnR 50 2 Hp.cells w1 B v L → OwnR 50 2 Hp.cells w' B v L := by
    intro v L ho
    refine ho.kept hg (.inr fun e => ?_)
    rcases ho.2 with ⟨g, -⟩ | ⟨g, cap, cur, h1, h2, h3, h4⟩
    · rw [g] at e; cases e
    · rw [h1] at e
      exact hnm h3 e
  refine ⟨⟨hm, h.base, ?_, ?_, ?_⟩, ?_, ?_⟩
  · intro e he
    rcases (mem_setF hk).1 he with rfl | ⟨he, hne⟩
    · exact ⟨hb.grown hg (hnm hb), by simp only; omega⟩
    · exact ⟨(h1.blk e he).1.grown hg (hnm (h1.blk e he).1), (h1.blk e he).2⟩
  · intro e he
    rcases (mem_setF hk).1 he with rfl | ⟨he, hne⟩
    · exact hno ho
    · exact hno (h1.own e he)
  · intro e he e' he' hpp
    rcases (mem_setF hk).1 he with rfl | ⟨he, hne⟩ <;> rcases (mem_setF hk).1 he' with rfl | ⟨he', hne'⟩
    · rfl
    · have := (h.blk e' he').1.lt
      simp only at hpp
      omega
    · have := (h.blk e he).1.lt
      simp only at hpp
      omega
    · exact h.apart e he e' he' hpp
  · refine (hb1.mono hB).grown hg (Nat.le_trans hB hb1.size) ?_
    intro k hk
    injection hk with hk
    rw [← hk]
    exact h.base
  · intro k hk hne hnp
    exact (hg.block k (Nat.lt_of_lt_of_le hk hb1.size) (fun e => hne (by injection e))).trans (hb1.block k hk)
end

end Go.Proofs.YtpfjgecdlilkcaaGreat

/-
  Two numbers compared, one behind the other; a row that is sorted strictly.
-/
namespace Go.Proofs.YtpfjgecdlilkcaaGreat
open Go.RowKit Go.Sort Go.Proofs

def cmp2 (a1 a2 b1 b2 : Int) : Int := orL [cmpI a1 b1, cmpI a2 b2]
theorem lit2 (w : World) (x0 x1 : Int) (t : TypeId) : ∀ k, (hk : k < [x0, x1].length) → (w.alloc (.cells #[.int .i64 x0, .int .i64 x1] t)).cell? ⟨w.heap.size, k, none⟩ = some (.int .i64 [x0, x1][k]) := by
  intro k hk
  rw [(Blk.new w t _).cell k]
  match k, hk with
  | 0, _ => rfl
  | 1, _ => rfl
theorem or2_s (a b : Int) (W : World) : Calls Tryz.prog 32 #[.slice (some ⟨W.heap.size, 0, none⟩) 2 2] (W.alloc (.cells #[.int .i64 a, .int .i64 b] 3)) fun r w' => r = .returned (.int .i64 (orL [a, b])) ∧ W.alloc (.cells #[.int .i64 a, .int .i64 b] 3) = w' :=
  or_s [a, b] (by simp) W.heap.size 2 _ (lit2 _ _ _ _) 2 (by simp) rfl
theorem cmp2_lt (a1 a2 b1 b2 : Int) : (cmp2 a1 a2 b1 b2 < 0 ↔ a1 < b1 ∨ (a1 = b1 ∧ a2 < b2)) ∧ (cmp2 a1 a2 b1 b2 = 0 ↔ a1 = b1 ∧ a2 = b2) := by
  unfold cmp2
  rcases cmpI_cases a1 b1 with ⟨h, e⟩ | ⟨h, h', e⟩ | ⟨h, h', e⟩ <;> rw [e] <;> rcases cmpI_cases a2 b2 with ⟨g, e2⟩ | ⟨g, g', e2⟩ | ⟨g, g', e2⟩ <;> rw [e2] <;> simp [orL] <;> omega
theorem or2_lt (x y : Int) : orL [x, y] < 0 ↔ x < 0 ∨ (x = 0 ∧ y < 0) := by
  by_cases h : x = 0 <;> simp [orL, h] <;> omega
/-- pairs apart by where they lead: sorted, they are so strictly -/
theorem sort_strict {α : Type} {R : α → α → Prop} {N M : List α} (hp : N.Perm M) (hs : N.Pairwise fun x y => ¬ R y x) (ha : M.Pairwise fun x y => R x y ∨ R y x) : N.Pairwise R := by
  have h1 : N.Pairwise fun x y => R x y ∨ R y x := hp.symm.pairwise ha (fun {x y} h => h.symm)
  exact (hs.and h1).imp fun {x y} h => h.2.resolve_right h.1

end Go.Proofs.YtpfjgecdlilkcaaGreat

/-
  An entry of a map by struct keys that is asked for, and stored into behind that (m[k] = append(m[k], ..)).
-/
namespace Go.Proofs.YtpfjgecdlilkcaaGreat
open Go.RowKit Go.MapKept Go.WideElems

section
variable {κ : Type} [DecidableEq κ] {P : Program} {kt et mt : TypeId} {enc : κ → Value} {w w' : World} {b : Nat} {L : List (κ × Value)}
/-- block b is a map of just these; the one of k bears the stamp st -/
def EntryAt (enc : κ → Value) (w : World) (b : Nat) (L : List (κ × Value)) (k : κ) (st : Nat) : Prop :=
  ∃ es clock j e, w.heap[b]? = some (.map es clock) ∧ entE es.toList = entL enc L ∧ (∀ x ∈ es.toList, x.born < clock) ∧ (es.toList.map (·.born)).Nodup ∧ (L.map (·.1)).Nodup ∧
    es[j]? = some e ∧ e.born = st ∧ e.key = enc k ∧ ∀ v, setL k v L = L.set j (k, v)
theorem EntryAt.map {k : κ} {st : Nat} (h : EntryAt enc w b L k st) : MapAt enc w b L := by
  obtain ⟨es, clock, j, e, h1, h2, h3, h4, h5, -⟩ := h
  exact ⟨es, clock, h1, h2, h3, h4, h5⟩
theorem EntryAt.same {k : κ} {st : Nat} (h : EntryAt enc w b L k st) (he : w'.heap[b]? = w.heap[b]?) : EntryAt enc w' b L k st := by
  obtain ⟨es, clock, j, e, h1, h2⟩ := h
  exact ⟨es, clock, j, e, he.trans h1, h2⟩
theorem EntryAt.grown {k : κ} {st : Nat} {row : Option Nat} (h : EntryAt enc w b L k st) (hg : w.grownBy w' row) (hne : some b ≠ row) : EntryAt enc w' b L k st := h.same (hg.block b h.map.lt hne)
theorem EntryAt.below {k : κ} {st : Nat} {B : Nat} (h : EntryAt enc w b L k st) (hb : Below B w w') (hB : b < B) : EntryAt enc w' b L k st := h.same (hb.block b hB)
theorem setL_new (k : κ) (v z : Value) : ∀ {L : List (κ × Value)}, (∀ e ∈ L, e.1 ≠ k) → setL k v (L ++ [(k, z)]) = L ++ [(k, v)]
  | [], _ => by simp [setL]
  | e :: L, h => by
    rw [List.cons_append, setL, if_neg (h e List.mem_cons_self), setL_new k v z (fun x hx => h x (List.mem_cons_of_mem _ hx))]
    rfl
theorem MapAt.entry_run (h : MapAt enc w b L) (K : KeyOk P kt enc) (ht : P.underlying mt = some (.map kt et)) {z : Value} (hz : ∀ w, (zeroValue et).run P w = .ok z w) (k : κ) :
    ∃ (w' : World) (st : Nat), (Instr.mapEntry mt (.map (some b)) (enc k)).run P w = .ok (.tuple #[(getL k L).getD z, goInt st]) w' ∧ EntryAt enc w' b (setL k ((getL k L).getD z) L) k st ∧ w.grownBy w' (some b) ∧ w'.heap.size = w.heap.size := by
  obtain ⟨es, clock, hb, hm, h1, h2, h3⟩ := h
  have hf := K.find k es.toList L w hm
  have hlen : es.toList.length = L.length := by simpa [entE, entL] using congrArg List.length hm
  cases hl : look k L 0 with
  | none =>
    rw [hl] at hf
    obtain ⟨h6, h4, h5⟩ := look_none hl
    rw [h6]
    refine ⟨{ w with heap := w.heap.setIfInBounds b (.map (es.push { key := enc k, val := z, born := clock }) (clock + 1)) }, clock, ?_, ⟨_, _, es.size, { key := enc k, val := z, born := clock }, (heap_set hb).1, ?_, ?_, ?_, (setL_keys h3).1, by simp, rfl, rfl, ?_⟩, ⟨rfl, rfl, rfl, by simp, fun i hi hne => (heap_set hb).2 i fun e => hne (by rw [e])⟩, by simp⟩
    · simp [Instr.mapEntry, run_underlying ht, MapKept.run_getObj_map hb, K.check, hf, hz, MapKept.run_setObj_map _ hb, Result.andThen]
    · simp only [Option.getD]
      rw [h5 z]
      simp only [entE, entL] at hm
      simp [entE, entL, hm]
    · intro x hx
      simp only [Array.toList_push, List.mem_append, List.mem_singleton] at hx
      rcases hx with hx | rfl
      · have := h1 x hx; omega
      · exact Nat.lt_succ_self _
    · simp only [Array.toList_push, List.map_append, List.map_cons, List.map_nil]
      refine List.nodup_append.2 ⟨h2, by simp, ?_⟩
      intro a ha c hc
      simp only [List.mem_singleton] at hc
      subst hc
      obtain ⟨x, hx, rfl⟩ := List.mem_map.1 ha
      exact Nat.ne_of_lt (h1 x hx)
    · intro v
      simp only [Option.getD]
      have hsz : es.size = L.length := by rw [← hlen]; rfl
      rw [h5 z, setL_new k v z h4, hsz, List.set_append_right _ _ (Nat.le_refl _)]
      simp
  | some jv =>
    obtain ⟨j, v0⟩ := jv
    rw [hl] at hf
    obtain ⟨n, hjn, h4, h6, h5⟩ := look_some hl
    obtain rfl : j = n := by omega
    have hjL : j < L.length := (List.getElem?_eq_some_iff.1 h4).1
    have hjs : j < es.size := by have : es.toList.length = es.size := rfl; omega
    have hkv : es[j].key = enc k ∧ es[j].val = v0 := by
      have := congrArg (fun l => l[j]?) hm
      simp only [entE, entL, List.getElem?_map, h4, Option.map_some, Array.getElem?_toList, Array.getElem?_eq_getElem hjs, Option.some.injEq, Prod.mk.injEq] at this
      exact this
    have hstay : (Instr.keyThatStays (enc k) (enc k)).run P w = .ok (enc k) w := by simp [Instr.keyThatStays, K.same]
    have hsame : es.modify j (fun e => { e with key := enc k }) = es := by
      apply Array.ext_getElem?
      intro i
      rw [Array.getElem?_modify]
      by_cases hij : j = i
      · subst hij
        rw [if_pos rfl, Array.getElem?_eq_getElem hjs]
        simp only [Option.map_some, Option.some.injEq]
        have h7 := hkv.1
        cases hx : es[j] with
        | mk key val born =>
          rw [hx] at h7
          simp only at h7
          rw [h7]
      · rw [if_neg hij]
    have hset : setL k v0 L = L := by
      rw [h5 v0]
      exact set_self L j _ h4
    have hsw : ({ w with heap := w.heap.setIfInBounds b (.map es clock) } : World).heap[b]? = some (.map es clock) := (heap_set hb).1
    rw [h6]
    simp only [Option.getD]
    rw [hset]
    refine ⟨{ w with heap := w.heap.setIfInBounds b (.map es clock) }, es[j].born, ?_, ⟨es, clock, j, es[j], hsw, hm, h1, h2, h3, Array.getElem?_eq_getElem hjs, rfl, hkv.1, h5⟩, ⟨rfl, rfl, rfl, by simp, fun i hi hne => (heap_set hb).2 i fun e => hne (by rw [e])⟩, by simp⟩
    simp [Instr.mapEntry, run_underlying ht, MapKept.run_getObj_map hb, K.check, hf, Array.getElem?_eq_getElem hjs, hkv.1, hstay, hsame, MapKept.run_setObj_map _ hb, Result.andThen]
theorem EntryAt.store_run {k : κ} {st : Nat} (h : EntryAt enc w b L k st) (v : Value) :
    ∃ w', (Instr.entryStore mt (.map (some b)) (goInt st) v).run P w = .ok () w' ∧ MapAt enc w' b (setL k v L) ∧ w.grownBy w' (some b) ∧ w'.heap.size = w.heap.size := by
  obtain ⟨es, clock, j, e, hb, hm, h1, h2, h3, hj, hst, hkey, h5⟩ := h
  subst hst
  have hidx : es.findIdx? (fun x => ((x.born : Nat) : Int) == ((e.born : Nat) : Int)) = some j := by
    rw [findIdx_arr]
    exact findIdx_born h2 (by simpa using hj)
  have hjs : j < es.size := (Array.getElem?_eq_some_iff.1 hj).1
  have hej : es[j] = e := (Array.getElem?_eq_some_iff.1 hj).2
  refine ⟨{ w with heap := w.heap.setIfInBounds b (.map (es.modify j fun x => { x with val := v }) clock) }, ?_, ⟨_, _, (heap_set hb).1, ?_, ?_, ?_, (setL_keys h3).1⟩, ⟨rfl, rfl, rfl, by simp, fun i hi hne => (heap_set hb).2 i fun e => hne (by rw [e])⟩, by simp⟩
  · simp [Instr.entryStore, MapKept.run_getObj_map hb, asInt, asIntOf, goInt, hidx, MapKept.run_setObj_map _ hb, Result.andThen]
  · rw [h5 v]
    simp only [entL, List.map_set]
    simp only [entL] at hm
    rw [← hm]
    apply List.ext_getElem?
    intro i
    simp only [entE, List.getElem?_map, Array.getElem?_toList, Array.getElem?_modify, List.getElem?_set, List.length_map]
    by_cases hij : j = i
    · subst hij
      simp [hjs, hej, hkey]
    · simp [hij]
  · intro x hx
    obtain ⟨i, hi⟩ := List.getElem?_of_mem hx
    rw [Array.getElem?_toList, Array.getElem?_modify] at hi
    by_cases hij : j = i
    · subst hij
      simp only [if_true, Array.getElem?_eq_getElem hjs, Option.map_some, Option.some.injEq] at hi
      rw [← hi]
      exact h1 es[j] (by simp)
    · rw [if_neg hij] at hi
      exact h1 x (List.mem_of_getElem? (by rwa [Array.getElem?_toList]))
  · have : (es.modify j fun x => { x with val := v }).toList.map (·.born) = es.toList.map (·.born) := by
      apply List.ext_getElem?
      intro i
      simp only [List.getElem?_map, Array.getElem?_toList, Array.getElem?_modify]
      by_cases hij : j = i
      · subst hij
        simp only [if_true]
        cases es[j]? <;> rfl
      · simp [hij]
    rw [this]
    exact h2
end

end Go.Proofs.YtpfjgecdlilkcaaGreat

/-
  Layer 21 in plain words: how many hops there may be.
-/
namespace Go.Proofs.YtpfjgecdlilkcaaGreat

def okHp (h : Hp) : Prop := (0 ≤ h.lan ∧ h.lan ≤ 3) ∧ (0 ≤ h.id ∧ h.id ≤ 15)
def allHp : List Hp := (List.range 4).flatMap fun i : Nat => (List.range 16).map fun j : Nat => (⟨(i : Int), (j : Int)⟩ : Hp)
theorem mem_allHp {h : Hp} (ho : okHp h) : h ∈ allHp := by
  obtain ⟨⟨h1, h2⟩, h3, h4⟩ := ho
  obtain ⟨a, b⟩ := h
  simp only at h1 h2 h3 h4
  unfold allHp
  rw [List.mem_flatMap]
  refine ⟨a.toNat, by rw [List.mem_range]; omega, ?_⟩
  rw [List.mem_map]
  exact ⟨b.toNat, by rw [List.mem_range]; omega, by rw [Int.toNat_of_nonneg h1, Int.toNat_of_nonneg h3]⟩
theorem hops_few {L : List Hp} (hs : L.Pairwise ltH) (ho : ∀ h ∈ L, okHp h) : L.length ≤ 64 := by
  have hn : L.Nodup := hs.imp fun {a b} h => by rintro rfl; exact ltH_irr _ h
  have := nodup_len L allHp hn fun h hh => mem_allHp (ho h hh)
  exact Nat.le_trans this (by decide)
section
variable {E : List Ed} {r : Vx} {O : List Vx} {Z : List Ed} {T : Tab}
theorem Dij.hops_ok (h : Dij E r O Z T) (hr : r.kind = 1) : ∀ v q, T v = some q → ∀ x ∈ q.next, okHp x ∧ (v.kind = 1 → x.id ≠ 0) := by
  have key : ∀ n v q, rankV v q.a = n → T v = some q → ∀ x ∈ q.next, okHp x ∧ (v.kind = 1 → x.id ≠ 0) := by
    intro n
    induction n using Nat.strongRecOn with
    | ind n ih =>
      intro v q hn hv x hx
      by_cases hvr : v = r
      · rw [hvr, h.root] at hv
        cases hv
        cases hx
      · obtain ⟨e, he, hd, p, hp, hc, hxe⟩ := ((h.next v q hv hvr).2 x).1 hx
        obtain ⟨-, hcnt, -⟩ := h.edges e he
        subst hd
        obtain ⟨hsm, hdm, hk⟩ := cntE_iff.1 hcnt
        have hlt : rankV e.src p.a < n := by
          rw [← hn]
          have := rank_step hcnt p.a
          unfold rankV stepV at this
          unfold rankV
          simp only at this
          omega
        unfold extH at hxe
        by_cases hs : e.src = r
        · rw [if_pos hs, List.mem_singleton] at hxe
          have h1 : e.fk = 1 := by rw [← hr, ← hs]; rfl
          have h2 : e.dst.kind = 2 := by show e.tk = 2; omega
          rcases mayV_iff.1 hdm with ⟨g, -⟩ | ⟨-, g1, g2⟩
          · omega
          · have g3 : (0 : Int) ≤ e.ti := g1
            have g4 : e.ti ≤ 63 := g2
            subst hxe
            exact ⟨⟨⟨by simp only; omega, by simp only; omega⟩, by simp, by simp⟩, fun g => by omega⟩
        · rw [if_neg hs, List.mem_map] at hxe
          obtain ⟨y, hy, hxy⟩ := hxe
          obtain ⟨ho, hi⟩ := ih _ hlt e.src p rfl hp y hy
          by_cases hy0 : y.id = 0
          · rw [if_pos hy0] at hxy
            have h1 : e.fk ≠ 1 := fun g => hi g hy0
            have h2 : e.dst.kind = 1 := by show e.tk = 1; omega
            rcases mayV_iff.1 hdm with ⟨-, g1, g2⟩ | ⟨g, -⟩
            · have g3 : (1 : Int) ≤ e.ti := g1
              have g4 : e.ti ≤ 15 := g2
              subst hxy
              exact ⟨⟨ho.1, by simp only; omega, by simp only; omega⟩, fun _ => by simp only; omega⟩
            · omega
          · rw [if_neg hy0] at hxy
            subst hxy
            exact ⟨ho, fun _ => hy0⟩
  exact fun v q => key _ v q rfl
theorem Dij.few (h : Dij E r O Z T) (hr : r.kind = 1) {v : Vx} {q : Pl} (hv : T v = some q) : q.next.length ≤ 64 := by
  by_cases hvr : v = r
  · rw [hvr, h.root] at hv
    cases hv
    simp
  · exact hops_few (h.next v q hv hvr).1 fun x hx => (h.hops_ok hr v q hv x hx).1
theorem Dij.low (h : Dij E r O Z T) {v : Vx} {q : Pl} (hv : T v = some q) : q.a.c ≤ 7900 ∧ q.a.h ≤ 79 := by
  have h1 := h.small v q hv
  have h2 := h.len
  omega
end

end Go.Proofs.YtpfjgecdlilkcaaGreat

/-
  Layer 21 in plain words: what the search has found is the tree.
-/
namespace Go.Proofs.YtpfjgecdlilkcaaGreat

theorem tree_of_dij {E : List Ed} {r : Vx} {O : List Vx} {Z : List Ed} {T : Tab} {DD : Vx → Vx → Option Val2} {L : List Nk} (h : Dij E r O Z T) (hall : ∀ v p, T v = some p → v ∈ O) (hZ : ∀ e ∈ E, cntE e = true → e.src ∈ O → e ∈ Z) (hD : Dists E DD) (hr : r.kind = 1)
    (hs : L.Pairwise fun x y => ltX x.v y.v) (hL : ∀ n ∈ L, T n.v = some ⟨n.a, n.next⟩) (hT : ∀ v p, T v = some p → ∃ n ∈ L, n.v = v) : TreeIs E DD r L := by
  obtain ⟨h1, h2⟩ := h.ends hall hZ
  have he : (fun v => (T v).map (·.a)) = DD r := h1.unique (hD r) (fun _ _ => Iff.rfl)
  rw [he] at h2
  have hn := hops_iff hD hr h2
  have hDT : ∀ v, DD r v = (T v).map (·.a) := fun v => by rw [← he]
  refine ⟨hs, ?_, ?_, ?_⟩
  · intro v a ha
    rw [hDT] at ha
    obtain ⟨p, hp, -⟩ := Option.map_eq_some_iff.1 ha
    exact hT v p hp
  · intro n hm
    rw [hDT, hL n hm]
    rfl
  · intro n hm
    have hTn := hL n hm
    constructor
    · by_cases hvr : n.v = r
      · rw [hvr, h.root] at hTn
        have : n.next = [] := by
          injection hTn with e
          injection e with _ e
          exact e.symm
        rw [this]
        exact List.Pairwise.nil
      · exact (h.next _ _ hTn hvr).1
    · intro hp
      have := hn n.v n.a (by rw [hDT, hTn]; rfl) hp
      simp only [hTn, Option.map_some, Option.getD_some] at this
      exact this

end Go.Proofs.YtpfjgecdlilkcaaGreat

/-
  Which descriptions are right: the program's answer.
-/
namespace Go.Proofs.YtpfjgecdlilkcaaGreat
open Go.RowKit

def inB (n a b : Int) : Bool := decide (a ≤ n) && decide (n ≤ b)
def headB (h : Hd) : Bool := inB h.age 0 60 && inB h.kind 1 2 && inB h.adv 1 15 && inB h.seq (-2147483647) 2147483647
def linkB (x : Lnk) : Bool := inB x.kind 2 3 && inB x.id 0 63 && inB x.data 0 63 && inB x.cost 1 100
def linksB (l : List Lnk) : Bool := l.all linkB && decide (l.length ≤ 4)
def memC : Int → List Int → Bool
  | _, [] => true
  | last, x :: l => inB x (last + 1) 15 && memC x l
def membersB (l : List Int) : Bool := memC 0 l && decide (0 < l.length)
def rightB (x : Lsa) : Bool := headB x.head && if x.head.kind = 1 then decide (x.head.id = x.head.adv) && decide (x.members.length = 0) && linksB x.links else inB x.head.id 0 63 && decide (x.links.length = 0) && membersB x.members
theorem in_cases (n a b : Int) : (decide (a ≤ n) = false ∧ inB n a b = false) ∨ (decide (a ≤ n) = true ∧ decide (n ≤ b) = inB n a b) := by
  unfold inB
  cases h : decide (a ≤ n) <;> simp
theorem inB_iff {n a b : Int} : inB n a b = true ↔ a ≤ n ∧ n ≤ b := by simp [inB]

theorem bool4 (a b c d : Bool) : a = false ∨ (a = true ∧ b = false) ∨ (a = true ∧ b = true ∧ c = false) ∨ (a = true ∧ b = true ∧ c = true ∧ d = false) ∨ (a = true ∧ b = true ∧ c = true ∧ d = true) := by
  cases a <;> cases b <;> cases c <;> cases d <;> simp
theorem bool4n (a b c d : Bool) : ((a && b && c && d) = false ∧ (a = false ∨ (a = true ∧ b = false) ∨ (a = true ∧ b = true ∧ c = false) ∨ (a = true ∧ b = true ∧ c = true ∧ d = false))) ∨ ((a && b && c && d) = true ∧ a = true ∧ b = true ∧ c = true ∧ d = true) := by
  cases a <;> cases b <;> cases c <;> cases d <;> simp
set_option maxHeartbeats 1000000 in
theorem in_v (n a b : Int) (w : World) {t : Bool} (ht : inB n a b = t) : Calls Tryz.prog 75 #[.int .i64 n, .int .i64 a, .int .i64 b] w fun r w' => r = .returned (.bool t) ∧ w = w' := by
  rcases in_cases n a b with ⟨h1, h2⟩ | ⟨h1, h2⟩
  · rw [h2] at ht
    subst ht
    clear h2
    go_enter Tryz.func75, Tryz.ntmps75
    go_wp2
    go_ret
    exact ⟨rfl, rfl⟩
  · rw [ht] at h2
    clear ht
    go_enter Tryz.func75, Tryz.ntmps75
    go_wp2
    go_ret
    exact ⟨rfl, rfl⟩

set_option maxHeartbeats 2000000 in
set_option maxRecDepth 100000 in
theorem lsaHead_any (a1 a2 a3 a4 a5 a6 a7 : Int) (w : World) {t : Bool} (ht : headB ⟨a1, a2, a3, a4, a5, a6, a7⟩ = t) : Calls Tryz.prog 73 #[.agg #[.int .i64 a1, .int .i64 a2, .int .i64 a3, .int .i64 a4, .int .i64 a5, .int .i64 a6, .int .i64 a7]] w fun r w' => r = .returned (.bool t) ∧ Below w.heap.size w w' := by
  unfold headB at ht
  simp only at ht
  obtain ⟨t1, h1⟩ : ∃ t1, inB a1 0 60 = t1 := ⟨_, rfl⟩
  obtain ⟨t2, h2⟩ : ∃ t2, inB a2 1 2 = t2 := ⟨_, rfl⟩
  obtain ⟨t3, h3⟩ : ∃ t3, inB a4 1 15 = t3 := ⟨_, rfl⟩
  obtain ⟨t4, h4⟩ : ∃ t4, inB a5 (-2147483647) 2147483647 = t4 := ⟨_, rfl⟩
  rw [h1, h2, h3, h4] at ht
  have H1 := Lib.hid h1
  have H2 := Lib.hid h2
  have H3 := Lib.hid h3
  have H4 := Lib.hid h4
  clear h1 h2 h3 h4
  have Hb := Lib.hid ((Below.refl w.heap.size w).alloc (Nat.le_refl _) (.cells #[.int .i64 a1, .int .i64 a2, .int .i64 a3, .int .i64 a4, .int .i64 a5, .int .i64 a6, .int .i64 a7] 37))
  rcases bool4 t1 t2 t3 t4 with rfl | ⟨rfl, rfl⟩ | ⟨rfl, rfl, rfl⟩ | ⟨rfl, rfl, rfl, rfl⟩ | ⟨rfl, rfl, rfl, rfl⟩
  all_goals
    simp only [Bool.false_and, Bool.and_false, Bool.and_true] at ht
    subst ht
    go_enter Tryz.func73, Tryz.ntmps73
    go_wp2_with (first
      | (go_at_call 75; (with_reducible refine Calls.mono (in_v a1 0 60 _ H1.out) ?_); rintro r w2 ⟨rfl, rfl⟩)
      | (go_at_call 75; (with_reducible refine Calls.mono (in_v a2 1 2 _ H2.out) ?_); rintro r w2 ⟨rfl, rfl⟩)
      | (go_at_call 75; (with_reducible refine Calls.mono (in_v a4 1 15 _ H3.out) ?_); rintro r w2 ⟨rfl, rfl⟩)
      | (go_at_call 75; (with_reducible refine Calls.mono (in_v a5 (-2147483647) 2147483647 _ H4.out) ?_); rintro r w2 ⟨rfl, rfl⟩))
    go_ret
    exact ⟨rfl, Hb.out⟩

theorem row_lnk {w : World} {B : Nat} {A : Option Addr} {l : List Lnk} (h : RowsAt 4 Lnk.cells w B A l) (k : Nat) (hk : k < l.length) :
    ∃ b o, A = some ⟨b, o, none⟩ ∧ b < B ∧ w.cell? ⟨b, o + k * 4, none⟩ = some (.int .i64 l[k].kind) ∧ w.cell? ⟨b, o + k * 4 + 1, none⟩ = some (.int .i64 l[k].id) ∧ w.cell? ⟨b, o + k * 4 + 2, none⟩ = some (.int .i64 l[k].data) ∧ w.cell? ⟨b, o + k * 4 + 3, none⟩ = some (.int .i64 l[k].cost) := by
  obtain ⟨b, o, e, hb, hc⟩ := h (by omega)
  exact ⟨b, o, e, hb, by simpa using hc k hk 0 _ (by omega) rfl, hc k hk 1 _ (by omega) rfl, hc k hk 2 _ (by omega) rfl, hc k hk 3 _ (by omega) rfl⟩
theorem row_int {w : World} {B : Nat} {A : Option Addr} {l : List Int} (h : RowsAt 1 icell w B A l) (k : Nat) (hk : k < l.length) :
    ∃ b o, A = some ⟨b, o, none⟩ ∧ b < B ∧ w.cell? ⟨b, o + k, none⟩ = some (.int .i64 l[k]) := by
  obtain ⟨b, o, e, hb, hc⟩ := h (by omega)
  exact ⟨b, o, e, hb, by simpa using hc k hk 0 _ (by omega) rfl⟩

set_option maxHeartbeats 4000000 in
set_option maxRecDepth 100000 in
theorem lsaLinks_any (A : Option Addr) (c : Nat) (l : List Lnk) (w : World) (B : Nat) (h : RowsAt 4 Lnk.cells w B A l) (hB : B ≤ w.heap.size) (hm : l.length ≤ maxLen) {t : Bool} (ht : linksB l = t) (n : Nat) (hn : n = l.length) :
    Calls Tryz.prog 74 #[.slice A n c] w fun r w' => r = .returned (.bool t) ∧ Below w.heap.size w w' := by
  subst hn
  unfold maxLen at hm
  have H := Lib.hid (h.more hB)
  have Ht := Lib.hid ht
  clear h hB ht
  go_enter Tryz.func74, Tryz.ntmps74
  go_wp2
  go_loopw [7] (fun i wr => ∃ k : Nat, i = .int .i64 k ∧ k ≤ l.length ∧ (l.take k).all linkB = true ∧ Below w.heap.size w wr) (fun i _ => l.length - (intOf i).toNat)
  case atStart => exact ⟨0, rfl, Nat.zero_le _, by simp, Below.refl _ _⟩
  case round =>
    obtain ⟨k, rfl, hk, hall, hb⟩ := hrel
    have Hb := Lib.hid hb
    by_cases hlt : k < l.length
    · obtain ⟨g, o, rfl, -, z0, z1, z2, z3⟩ := row_lnk (H.out.below hb) k hlt
      have hkl : (k : Int) < (l.length : Int) := by omega
      have hno : linkB l[k] = false → linksB l = false := fun h => by
        unfold linksB
        have : l.all linkB = false := by
          rw [List.all_eq_false]
          exact ⟨l[k], List.getElem_mem hlt, by simp [h]⟩
        rw [this]; rfl
      have hyes : linkB l[k] = true → (l.take (k + 1)).all linkB = true := fun h => by
        rw [List.take_succ_eq_append_getElem hlt, List.all_append, hall]
        simp [h]
      have Hno := Lib.hid hno
      have Hyes := Lib.hid hyes
      have Hal := Lib.hid (fun o => hb.alloc hb.size o)
      clear hb hno hyes hall
      generalize l[k] = x at *
      obtain ⟨x1, x2, x3, x4⟩ := x
      simp only at z0 z1 z2 z3
      unfold linkB at Hno Hyes
      simp only at Hno Hyes
      obtain ⟨t1, h1⟩ : ∃ t1, inB x1 2 3 = t1 := ⟨_, rfl⟩
      obtain ⟨t2, h2⟩ : ∃ t2, inB x2 0 63 = t2 := ⟨_, rfl⟩
      obtain ⟨t3, h3⟩ : ∃ t3, inB x3 0 63 = t3 := ⟨_, rfl⟩
      obtain ⟨t4, h4⟩ : ∃ t4, inB x4 1 100 = t4 := ⟨_, rfl⟩
      rw [h1, h2, h3, h4] at Hno Hyes
      have H1 := Lib.hid h1
      have H2 := Lib.hid h2
      have H3 := Lib.hid h3
      have H4 := Lib.hid h4
      clear h1 h2 h3 h4
      rcases bool4n t1 t2 t3 t4 with ⟨hv, hd⟩ | ⟨hv, rfl, rfl, rfl, rfl⟩
      · have ht2 : t = false := by rw [← Ht.out]; exact Hno.out hv
        subst ht2
        clear Hyes Hno hv
        rcases hd with rfl | ⟨rfl, rfl⟩ | ⟨rfl, rfl, rfl⟩ | ⟨rfl, rfl, rfl, rfl⟩
        all_goals
          go_wp2_with (first
            | (go_at_call 75; (with_reducible refine Calls.mono (in_v x1 2 3 _ H1.out) ?_); rintro r w2 ⟨rfl, rfl⟩)
            | (go_at_call 75; (with_reducible refine Calls.mono (in_v x4 1 100 _ H4.out) ?_); rintro r w2 ⟨rfl, rfl⟩)
            | (go_at_call 75; (with_reducible refine Calls.mono (in_v x2 0 63 _ H2.out) ?_); rintro r w2 ⟨rfl, rfl⟩)
            | (go_at_call 75; (with_reducible refine Calls.mono (in_v x3 0 63 _ H3.out) ?_); rintro r w2 ⟨rfl, rfl⟩))
          go_ret
          exact ⟨rfl, Hal.out _⟩
      · have Hy := Lib.hid (Hyes.out hv)
        clear Hno Hyes hv
        go_wp2_with (first
          | (go_at_call 75; (with_reducible refine Calls.mono (in_v x1 2 3 _ H1.out) ?_); rintro r w2 ⟨rfl, rfl⟩)
          | (go_at_call 75; (with_reducible refine Calls.mono (in_v x4 1 100 _ H4.out) ?_); rintro r w2 ⟨rfl, rfl⟩)
          | (go_at_call 75; (with_reducible refine Calls.mono (in_v x2 0 63 _ H2.out) ?_); rintro r w2 ⟨rfl, rfl⟩)
          | (go_at_call 75; (with_reducible refine Calls.mono (in_v x3 0 63 _ H3.out) ?_); rintro r w2 ⟨rfl, rfl⟩))
        go_roundw
        case measure => simp [intOf]; omega
        case rel => exact ⟨k + 1, by go_num, hlt, Hy.out, Hal.out _⟩
    · have hkk : k = l.length := by omega
      subst hkk
      rw [List.take_length] at hall
      have ht2 : decide ((l.length : Int) ≤ 4) = t := by
        rw [← Ht.out]
        unfold linksB
        rw [hall, Bool.true_and]
        simp only [decide_eq_decide]
        omega
      clear hb hall
      go_wp2
      go_ret
      exact ⟨rfl, Hb.out⟩

theorem memC_take {last : Int} {l : List Int} {k : Nat} (hk : k < l.length) (h : memC last (l.take k) = true) :
    memC last (l.take (k + 1)) = inB l[k] (((last :: l.take k).getLast (by simp)) + 1) 15 ∧ (inB l[k] (((last :: l.take k).getLast (by simp)) + 1) 15 = false → memC last l = false) := by
  induction l generalizing last k with
  | nil => simp at hk
  | cons x l ih =>
    cases k with
    | zero =>
      simp only [List.take_zero, List.take_succ_cons, memC, List.getElem_cons_zero, Bool.and_true, List.getLast_singleton, true_and]
      intro h2
      rw [h2]; rfl
    | succ k =>
      simp only [List.take_succ_cons, memC, Bool.and_eq_true] at h
      obtain ⟨h1, h2⟩ := ih (last := x) (k := k) (by simpa using hk) h.2
      simp only [List.take_succ_cons, memC, List.getElem_cons_succ, h.1, Bool.true_and]
      rw [List.getLast_cons (by simp)]
      exact ⟨h1, h2⟩

set_option maxHeartbeats 4000000 in
set_option maxRecDepth 100000 in
theorem lsaMembers_any (A : Option Addr) (c : Nat) (l : List Int) (w : World) (B : Nat) (h : RowsAt 1 icell w B A l) (hB : B ≤ w.heap.size) (hm : l.length ≤ maxLen) {t : Bool} (ht : membersB l = t) (n : Nat) (hn : n = l.length) :
    Calls Tryz.prog 76 #[.slice A n c] w fun r w' => r = .returned (.bool t) ∧ Below w.heap.size w w' := by
  subst hn
  unfold maxLen at hm
  have H := Lib.hid (h.more hB)
  have Ht := Lib.hid ht
  clear h hB ht
  go_enter Tryz.func76, Tryz.ntmps76
  go_wp2
  go_loopw [3, 8] (fun la i wr => ∃ (k : Nat) (z : Int), i = .int .i64 k ∧ la = .int .i64 z ∧ k ≤ l.length ∧ memC 0 (l.take k) = true ∧ (((0 : Int) :: l.take k).getLast (by simp)) = z ∧ 0 ≤ z ∧ z ≤ 15 ∧ wr = w) (fun _ i _ => l.length - (intOf i).toNat)
  case atStart => exact ⟨0, 0, rfl, rfl, Nat.zero_le _, rfl, rfl, by omega, by omega, rfl⟩
  case round =>
    obtain ⟨k, z, rfl, rfl, hk, hmem, hz, hz0, hz15, rfl⟩ := hrel
    by_cases hlt : k < l.length
    · obtain ⟨g, o, rfl, -, z0⟩ := row_int H.out k hlt
      have hkl : (k : Int) < (l.length : Int) := by omega
      obtain ⟨m1, m2⟩ := memC_take hlt hmem
      rw [hz] at m1 m2
      have hlast : (((0 : Int) :: l.take (k + 1)).getLast (by simp)) = l[k] := by
        have : (0 : Int) :: l.take (k + 1) = ((0 : Int) :: l.take k) ++ [l[k]] := by rw [List.take_succ_eq_append_getElem hlt]; rfl
        simp only [this, List.getLast_append, List.getLast_singleton]
        simp
      generalize l[k] = x at *
      obtain ⟨t1, h1⟩ : ∃ t1, inB x (z + 1) 15 = t1 := ⟨_, rfl⟩
      rw [h1] at m1 m2
      have H1 := Lib.hid h1
      have Hlast := Lib.hid hlast
      have M1 := Lib.hid m1
      cases t1
      · have ht2 : t = false := by rw [← Ht.out]; unfold membersB; rw [m2 rfl]; rfl
        subst ht2
        clear h1 m1 m2 hlast hmem hz
        go_wp2_with (go_at_call 75; (with_reducible refine Calls.mono (in_v x (z + 1) 15 _ H1.out) ?_); rintro r w2 ⟨rfl, rfl⟩)
        go_ret
        exact ⟨rfl, Below.refl _ _⟩
      · have hx := inB_iff.1 h1
        clear h1 m1 m2 hlast hmem hz
        go_wp2_with (go_at_call 75; (with_reducible refine Calls.mono (in_v x (z + 1) 15 _ H1.out) ?_); rintro r w2 ⟨rfl, rfl⟩)
        go_roundw
        case measure => simp [intOf]; omega
        case rel => exact ⟨k + 1, x, by go_num, rfl, hlt, M1.out, Hlast.out, by omega, by omega, trivial⟩
    · have hkk : k = l.length := by omega
      subst hkk
      have ht2 : decide (0 < l.length) = t := by
        rw [← Ht.out]
        unfold membersB
        rw [List.take_length] at hmem
        rw [hmem, Bool.true_and]
      clear hmem hz
      go_wp2
      go_ret
      exact ⟨rfl, Below.refl _ _⟩

def Lsa.val (x : Lsa) : Value := .agg x.cells.toArray
theorem right_cases (x : Lsa) : (headB x.head = false ∧ rightB x = false) ∨
    (headB x.head = true ∧ (x.head.kind == 1) = true ∧ decide (x.head.id = x.head.adv) = false ∧ rightB x = false) ∨
    (headB x.head = true ∧ (x.head.kind == 1) = true ∧ decide (x.head.id = x.head.adv) = true ∧ x.members.length ≠ 0 ∧ rightB x = false) ∨
    (headB x.head = true ∧ (x.head.kind == 1) = true ∧ decide (x.head.id = x.head.adv) = true ∧ x.members.length = 0 ∧ rightB x = linksB x.links) ∨
    (headB x.head = true ∧ (x.head.kind == 1) = false ∧ inB x.head.id 0 63 = false ∧ rightB x = false) ∨
    (headB x.head = true ∧ (x.head.kind == 1) = false ∧ inB x.head.id 0 63 = true ∧ x.links.length ≠ 0 ∧ rightB x = false) ∨
    (headB x.head = true ∧ (x.head.kind == 1) = false ∧ inB x.head.id 0 63 = true ∧ x.links.length = 0 ∧ rightB x = membersB x.members) := by
  unfold rightB
  by_cases hk : x.head.kind = 1
  · rw [if_pos hk]
    cases headB x.head <;> by_cases h1 : x.head.id = x.head.adv <;> by_cases h2 : x.members.length = 0 <;> simp [hk, h1, h2]
  · rw [if_neg hk]
    cases headB x.head <;> cases inB x.head.id 0 63 <;> by_cases h2 : x.links.length = 0 <;> simp [hk, h2]
theorem blk9 {w : World} {g : Nat} {t : TypeId} {a b c d e f x y z : Value} (h : Blk w g t #[a, b, c, d, e, f, x, y, z]) : w.cell? ⟨g, 0, none⟩ = some a ∧ w.cell? ⟨g, 1, none⟩ = some b ∧ w.cell? ⟨g, 2, none⟩ = some c ∧ w.cell? ⟨g, 3, none⟩ = some d ∧ w.cell? ⟨g, 4, none⟩ = some e ∧ w.cell? ⟨g, 5, none⟩ = some f ∧ w.cell? ⟨g, 6, none⟩ = some x ∧ w.cell? ⟨g, 7, none⟩ = some y ∧ w.cell? ⟨g, 8, none⟩ = some z ∧ ∀ i, w.frozen? ⟨g, i, none⟩ = false :=
  ⟨h.cell 0, h.cell 1, h.cell 2, h.cell 3, h.cell 4, h.cell 5, h.cell 6, h.cell 7, h.cell 8, fun i => h.frozen i⟩
set_option maxHeartbeats 4000000 in
set_option maxRecDepth 100000 in
theorem lsaRight_any (a1 a2 a3 a4 a5 a6 a7 : Int) (ka : Option Addr) (kc : Nat) (ls : List Lnk) (ma : Option Addr) (mc : Nat) (ms : List Int) (w : World) (B : Nat) (hl : RowsAt 4 Lnk.cells w B ka ls) (hm : RowsAt 1 icell w B ma ms) (hB : B ≤ w.heap.size) (hlm : ls.length ≤ maxLen) (hmm : ms.length ≤ maxLen) (nl nm : Nat) (hnl : nl = ls.length) (hnm : nm = ms.length) {t : Bool} (ht : rightB ⟨⟨a1, a2, a3, a4, a5, a6, a7⟩, ka, kc, ls, ma, mc, ms⟩ = t) :
    Calls Tryz.prog 58 #[.agg #[.int .i64 a1, .int .i64 a2, .int .i64 a3, .int .i64 a4, .int .i64 a5, .int .i64 a6, .int .i64 a7, .slice ka nl kc, .slice ma nm mc]] w fun r w' => r = .returned (.bool t) ∧ Below w.heap.size w w' := by
  have hcs := right_cases ⟨⟨a1, a2, a3, a4, a5, a6, a7⟩, ka, kc, ls, ma, mc, ms⟩
  simp only at hcs
  rw [← hnl, ← hnm] at hcs
  obtain ⟨w0, hW0⟩ : ∃ w0, w.alloc (.cells #[.int .i64 a1, .int .i64 a2, .int .i64 a3, .int .i64 a4, .int .i64 a5, .int .i64 a6, .int .i64 a7, .slice ka nl kc, .slice ma nm mc] 41) = w0 := ⟨_, rfl⟩
  have hk0 := Blk.new w 41 #[.int .i64 a1, .int .i64 a2, .int .i64 a3, .int .i64 a4, .int .i64 a5, .int .i64 a6, .int .i64 a7, .slice ka nl kc, .slice ma nm mc]
  have hb0 := (Below.refl w.heap.size w).alloc (Nat.le_refl _) (.cells #[.int .i64 a1, .int .i64 a2, .int .i64 a3, .int .i64 a4, .int .i64 a5, .int .i64 a6, .int .i64 a7, .slice ka nl kc, .slice ma nm mc] 41)
  rw [hW0] at hk0 hb0
  have Hk0 := Lib.hid hk0
  have Hb0 := Lib.hid hb0
  have Hl := Lib.hid (hl.more hB)
  have Hm := Lib.hid (hm.more hB)
  obtain ⟨z0, z1, z2, z3, z4, z5, z6, z7, z8, -⟩ := blk9 hk0
  clear hl hm hB hk0 hb0
  obtain ⟨th, hth⟩ : ∃ th, headB ⟨a1, a2, a3, a4, a5, a6, a7⟩ = th := ⟨_, rfl⟩
  obtain ⟨tl, htl⟩ : ∃ tl, linksB ls = tl := ⟨_, rfl⟩
  obtain ⟨tm, htm⟩ : ∃ tm, membersB ms = tm := ⟨_, rfl⟩
  obtain ⟨ti, hti⟩ : ∃ ti, inB a3 0 63 = ti := ⟨_, rfl⟩
  rw [hth, htl, htm, hti, ht] at hcs
  have Hth := Lib.hid hth
  have Htl := Lib.hid htl
  have Htm := Lib.hid htm
  have Hti := Lib.hid hti
  clear ht hth htl htm hti
  have HC := Lib.hid (fun W (hW : Below w.heap.size w W) => lsaHead_any a1 a2 a3 a4 a5 a6 a7 W Hth.out)
  have HL := Lib.hid (fun W (hW : Below w.heap.size w W) => lsaLinks_any ka kc ls W w.heap.size (Hl.out.below hW) hW.size hlm Htl.out nl hnl)
  have HM := Lib.hid (fun W (hW : Below w.heap.size w W) => lsaMembers_any ma mc ms W w.heap.size (Hm.out.below hW) hW.size hmm Htm.out nm hnm)
  clear hnl hnm
  rcases hcs with ⟨h1, rfl⟩ | ⟨h1, h2, h3, rfl⟩ | ⟨h1, h2, h3, h4, rfl⟩ | ⟨h1, h2, h3, rfl, rfl⟩ | ⟨h1, h2, h3, rfl⟩ | ⟨h1, h2, h3, h4, rfl⟩ | ⟨h1, h2, h3, rfl, rfl⟩
  all_goals
    subst h1
    go_enter Tryz.func58, Tryz.ntmps58
    go_wp2_with fail
    with_reducible refine Calls.mono (HC.out _ Hb0.out) ?_
    rintro r w2 ⟨rfl, hb2⟩
    obtain ⟨y0, y1, y2, y3, y4, y5, y6, y7, y8, -⟩ := blk9 (Hk0.out.below hb2 Hk0.out.lt)
    have Hb2 := Lib.hid (Hb0.out.trans (hb2.mono Hb0.out.size))
    clear z0 z1 z2 z3 z4 z5 z6 z7 z8 hb2
  · go_wp2
    go_ret
    exact ⟨rfl, Hb2.out⟩
  · have g1 := of_decide_eq_false h3
    go_wp2
    go_ret
    exact ⟨rfl, Hb2.out⟩
  · have g1 := of_decide_eq_true h3
    have g2 : ¬(nm : Int) = 0 := by omega
    subst g1
    go_wp2
    go_ret
    exact ⟨rfl, Hb2.out⟩
  · have g1 := of_decide_eq_true h3
    subst g1
    go_wp2_with fail
    with_reducible refine Calls.mono (HL.out _ Hb2.out) ?_
    rintro r w3 ⟨rfl, hb3⟩
    have Hb3 := Lib.hid (Hb2.out.trans (hb3.mono Hb2.out.size))
    clear hb3
    go_wp2
    go_ret
    exact ⟨rfl, Hb3.out⟩
  · subst h3
    go_wp2_with (go_at_call 75; (with_reducible refine Calls.mono (in_v a3 0 63 _ Hti.out) ?_); rintro r w3 ⟨rfl, rfl⟩)
    go_ret
    exact ⟨rfl, Hb2.out⟩
  · subst h3
    have g2 : ¬(nl : Int) = 0 := by omega
    go_wp2_with (go_at_call 75; (with_reducible refine Calls.mono (in_v a3 0 63 _ Hti.out) ?_); rintro r w3 ⟨rfl, rfl⟩)
    go_ret
    exact ⟨rfl, Hb2.out⟩
  · subst h3
    go_wp2_with (first
      | (go_at_call 75; (with_reducible refine Calls.mono (in_v a3 0 63 _ Hti.out) ?_); rintro r w3 ⟨rfl, rfl⟩)
      | (go_at_call 76; (with_reducible refine Calls.mono (HM.out _ Hb2.out) ?_); rintro r w3 ⟨rfl, hb3⟩; have Hb3 := Lib.hid (Hb2.out.trans (hb3.mono Hb2.out.size)); clear hb3))
    go_ret
    exact ⟨rfl, Hb3.out⟩

end Go.Proofs.YtpfjgecdlilkcaaGreat
