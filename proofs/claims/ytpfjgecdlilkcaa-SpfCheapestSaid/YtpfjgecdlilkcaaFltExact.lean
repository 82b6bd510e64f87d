/-
  Floats that are whole numbers: sums and comparisons of them are exact.
-/
import Derived.Laws.FloatArith
import Derived.WalkKit
namespace Go.Proofs.Ytpfjgecdlilkcaa
open Go

/-- the float of a whole number -/
def flt (n : Nat) : Nat := Ieee.Format.nearest Ieee.double false n 0

theorem dbl_least : Ieee.double.leastPlace = -1074 := by decide
theorem dbl_binade : Ieee.double.binade = 2 ^ 52 := by decide
theorem dbl_inf : Ieee.double.infRung = 2047 * 2 ^ 52 := by decide
theorem dbl_sw : Ieee.double.signWeight = 2 ^ 63 := by decide
theorem log2_mul_pow {n : Nat} (hn : n ≠ 0) (d : Nat) : (n * 2 ^ d).log2 = n.log2 + d := by
  have hp : 0 < 2 ^ d := Nat.two_pow_pos d
  have h0 : n * 2 ^ d ≠ 0 := Nat.mul_ne_zero hn (by omega)
  rw [Nat.log2_eq_iff h0]
  have h1 := Nat.log2_self_le hn
  have h2 := Nat.lt_log2_self (n := n)
  constructor
  · rw [Nat.pow_add]
    exact Nat.mul_le_mul_right _ h1
  · rw [show n.log2 + d + 1 = (n.log2 + 1) + d by omega, Nat.pow_add]
    exact Nat.mul_lt_mul_of_pos_right h2 hp
theorem cut_even0 (n d : Nat) : Ieee.Toward.cut .even false (n * 2 ^ d) d = n := by
  unfold Ieee.Toward.cut
  by_cases hn : n = 0
  · subst hn
    simp [Nat.shiftLeft_eq]
  · have hd : min d ((n * 2 ^ d).log2 + 2) = d := by
      rw [log2_mul_pow hn]
      omega
    rw [hd, Nat.shiftLeft_eq, Nat.one_mul]
    have hp : 0 < 2 ^ d := Nat.two_pow_pos d
    simp only [Nat.mul_div_cancel _ hp, Nat.mul_mod_left]
    have h1 : decide (2 ^ d < 2 * 0) = false := by simp
    have h2 : (2 ^ d == 2 * 0) = false := by simp
    rw [h1, h2]
    simp
theorem minX (X L m : Nat) (hL : L ≤ 52) (hm : m < 2 * X) : min ((L + 1022) * X + m) (2047 * X) = (L + 1022) * X + m := by
  have : (L + 1022) * X ≤ 1074 * X := Nat.mul_le_mul_right _ (by omega)
  omega
theorem ltXf (X L m : Nat) (hL : L ≤ 52) (hm : m < 2 * X) (hm0 : X ≤ m) : (L + 1022) * X + m < 2047 * X ∧ ¬(L + 1022) * X + m < X ∧ ((L + 1022) * X + m) / X = L + 1023 ∧ ((L + 1022) * X + m) % X = m - X := by
  have h1 : (L + 1022) * X ≤ 1074 * X := Nat.mul_le_mul_right _ (by omega)
  have h2 : 1 * X ≤ (L + 1022) * X := Nat.mul_le_mul_right _ (by omega)
  have hX : 0 < X := by omega
  have e : (L + 1022) * X + m = (m - X) + X * (L + 1023) := by
    rw [Nat.mul_comm X, show L + 1023 = (L + 1022) + 1 by omega, Nat.add_mul (L + 1022) 1]
    omega
  refine ⟨by omega, by omega, ?_, ?_⟩
  · rw [e, Nat.add_mul_div_left _ _ hX, Nat.div_eq_of_lt (by omega)]; omega
  · rw [e, Nat.add_mul_mod_self_left, Nat.mod_eq_of_lt (by omega)]
theorem nearest_shift (n k : Nat) (hn : n < 2 ^ 53) : Ieee.Format.nearest Ieee.double false (n * 2 ^ k) (-(k : Int)) = if n = 0 then 0 else (n.log2 + 1022) * 2 ^ 52 + n * 2 ^ (52 - n.log2) := by
  unfold Ieee.Format.nearest
  by_cases h0 : n = 0
  · subst h0
    simp [Ieee.Format.word]
  · have hp : 0 < 2 ^ k := Nat.two_pow_pos k
    rw [if_neg h0, if_neg (Nat.mul_ne_zero h0 (by omega)), log2_mul_pow h0, dbl_least, dbl_binade, dbl_inf]
    have hL : n.log2 ≤ 52 := by
      have := (Nat.log2_lt h0).2 hn
      omega
    have hfb : ((Ieee.double.fractionBits : Nat) : Int) = 52 := rfl
    simp only [hfb]
    obtain ⟨L, hLL⟩ : ∃ L, n.log2 = L := ⟨_, rfl⟩
    have h1 := Nat.log2_self_le h0
    have h2 := Nat.lt_log2_self (n := n)
    rw [hLL] at h1 h2 hL ⊢
    have hlast : max (-(k : Int) + ((L + k : Nat) : Int) - 52) (-1074) = (L : Int) - 52 := by omega
    rw [hlast]
    have hw : ((L : Int) - 52 - -1074).toNat = L + 1022 := by omega
    rw [hw]
    have hcut : Ieee.Toward.cut .even false ((n * 2 ^ k) <<< (-(k : Int) - ((L : Int) - 52)).toNat) (((L : Int) - 52 - -(k : Int)).toNat) = n * 2 ^ (52 - L) := by
      rw [Nat.shiftLeft_eq]
      by_cases hc : k ≤ 52 - L
      · rw [show ((L : Int) - 52 - -(k : Int)).toNat = 0 by omega, show (-(k : Int) - ((L : Int) - 52)).toNat = 52 - L - k by omega]
        have := cut_even0 (n * 2 ^ k * 2 ^ (52 - L - k)) 0
        rw [Nat.pow_zero, Nat.mul_one] at this
        rw [this, Nat.mul_assoc, ← Nat.pow_add]
        congr 2
        omega
      · rw [show ((L : Int) - 52 - -(k : Int)).toNat = k - (52 - L) by omega, show (-(k : Int) - ((L : Int) - 52)).toNat = 0 by omega, Nat.pow_zero, Nat.mul_one]
        have := cut_even0 (n * 2 ^ (52 - L)) (k - (52 - L))
        rw [Nat.mul_assoc, ← Nat.pow_add, show 52 - L + (k - (52 - L)) = k by omega] at this
        exact this
    rw [hcut]
    have hlt : n * 2 ^ (52 - L) < 2 ^ 53 := by
      have : n * 2 ^ (52 - L) < 2 ^ (L + 1) * 2 ^ (52 - L) := Nat.mul_lt_mul_of_pos_right h2 (Nat.two_pow_pos _)
      rw [← Nat.pow_add, show L + 1 + (52 - L) = 53 by omega] at this
      exact this
    unfold Ieee.Format.word
    simp only [Bool.false_eq_true, if_false]
    exact minX _ _ _ hL (by rw [← Nat.pow_succ']; exact hlt)
theorem flt_eq (n : Nat) (hn : n < 2 ^ 53) : flt n = if n = 0 then 0 else (n.log2 + 1022) * 2 ^ 52 + n * 2 ^ (52 - n.log2) := by
  have := nearest_shift n 0 hn
  rw [Nat.pow_zero, Nat.mul_one] at this
  exact this
/-- what it reads as -/
theorem flt_read (n : Nat) (hn : n < 2 ^ 53) : ∃ k : Nat, k ≤ 1074 ∧ Ieee.double.read (flt n) = .number false (n * 2 ^ k) (-(k : Int)) := by
  rw [flt_eq n hn]
  by_cases h0 : n = 0
  · subst h0
    obtain ⟨c, hc⟩ : ∃ c : Nat, c = 1074 := ⟨_, rfl⟩
    refine ⟨c, by omega, ?_⟩
    rw [if_pos rfl, Nat.zero_mul, hc]
    unfold Ieee.Format.read
    rw [dbl_sw, dbl_binade, dbl_least]
    simp
  · rw [if_neg h0]
    have hL : n.log2 ≤ 52 := by
      have := (Nat.log2_lt h0).2 hn
      omega
    have h1 := Nat.log2_self_le h0
    have h2 := Nat.lt_log2_self (n := n)
    obtain ⟨L, hLL⟩ : ∃ L, n.log2 = L := ⟨_, rfl⟩
    rw [hLL] at h1 h2 hL ⊢
    have hlt : n * 2 ^ (52 - L) < 2 ^ 53 := by
      have : n * 2 ^ (52 - L) < 2 ^ (L + 1) * 2 ^ (52 - L) := Nat.mul_lt_mul_of_pos_right h2 (Nat.two_pow_pos _)
      rw [← Nat.pow_add, show L + 1 + (52 - L) = 53 by omega] at this
      exact this
    have hge : 2 ^ 52 ≤ n * 2 ^ (52 - L) := by
      have : 2 ^ L * 2 ^ (52 - L) ≤ n * 2 ^ (52 - L) := Nat.mul_le_mul_right _ h1
      rw [← Nat.pow_add, show L + (52 - L) = 52 by omega] at this
      exact this
    refine ⟨52 - L, by omega, ?_⟩
    generalize n * 2 ^ (52 - L) = m at *
    obtain ⟨r1, r2, r3, r4⟩ := ltXf (2 ^ 52) L m hL (by rw [← Nat.pow_succ']; exact hlt) hge
    unfold Ieee.Format.read
    rw [dbl_sw, dbl_binade, dbl_inf, dbl_least]
    have h63 : (2047 : Nat) * 2 ^ 52 ≤ 2 ^ 63 := by decide
    have r5 : (L + 1022) * 2 ^ 52 + m < 2 ^ 63 := Nat.lt_of_lt_of_le r1 h63
    simp only [Nat.div_eq_of_lt r5, Nat.mod_eq_of_lt r5]
    rw [if_neg r2, if_pos r1, r3, r4]
    simp only [Nat.zero_mod, show ((0 : Nat) == 1) = false from rfl, Ieee.Datum.number.injEq, true_and]
    constructor
    · exact Nat.add_sub_cancel' hge
    · omega
theorem shiftI (n k : Nat) (b : Int) (h : b ≤ -(k : Int)) : Ieee.signed false (n * 2 ^ k) (-(k : Int) - b).toNat = ((n * 2 ^ (-b).toNat : Nat) : Int) := by
  unfold Ieee.signed
  simp only [Bool.false_eq_true, if_false]
  rw [Nat.shiftLeft_eq, Nat.mul_assoc, ← Nat.pow_add, show k + (-(k : Int) - b).toNat = (-b).toNat by omega]
theorem flt_add (a b : Nat) (h : a + b < 2 ^ 53) : floatBits .add .f64 (flt a) (flt b) = some (flt (a + b)) := by
  obtain ⟨i, hi, ea⟩ := flt_read a (by omega)
  obtain ⟨j, hj, eb⟩ := flt_read b (by omega)
  unfold floatBits FloatKind.format Ieee.Format.add
  simp only
  rw [ea, eb]
  unfold Ieee.Datum.sum
  simp only [Option.map_some, Option.some.injEq]
  rw [shiftI a i _ (by omega), shiftI b j _ (by omega)]
  obtain ⟨c, hc⟩ : ∃ c : Nat, min (-(i : Int)) (-(j : Int)) = -(c : Int) ∧ c ≤ 1074 := ⟨max i j, by omega, by omega⟩
  rw [hc.1, show (-(-(c : Int))).toNat = c by omega]
  have hsum : ((a * 2 ^ c : Nat) : Int) + ((b * 2 ^ c : Nat) : Int) = (((a + b) * 2 ^ c : Nat) : Int) := by
    rw [Nat.add_mul]; omega
  rw [hsum]
  have hneg : decide ((((a + b) * 2 ^ c : Nat) : Int) < 0) = false := by
    have : (0 : Int) ≤ (((a + b) * 2 ^ c : Nat) : Int) := Int.natCast_nonneg _
    simpa using this
  rw [hneg]
  simp only [Bool.and_false, ite_self, Int.natAbs_natCast]
  unfold Ieee.Format.write
  simp only
  rw [nearest_shift _ _ h, ← flt_eq _ h]
theorem flt_toInt (n : Nat) (h : n < 2 ^ 53) : floatToIntVal .f64 (flt n) .i64 = some (n : Int) := by
  obtain ⟨i, hi, ea⟩ := flt_read n h
  unfold floatToIntVal FloatKind.decode FloatKind.format
  simp only
  rw [ea]
  unfold Ieee.Datum.toInt Ieee.Datum.integral
  simp only
  have : Ieee.Toward.cut .zero false ((n * 2 ^ i) <<< (-(i : Int)).toNat) (- -(i : Int)).toNat = n := by
    rw [show (-(i : Int)).toNat = 0 by omega, show (- -(i : Int)).toNat = i by omega, Nat.shiftLeft_eq, Nat.pow_zero, Nat.mul_one]
    unfold Ieee.Toward.cut
    by_cases hn : n = 0
    · subst hn
      simp
    · have hd : min i ((n * 2 ^ i).log2 + 2) = i := by
        rw [log2_mul_pow hn]
        omega
      rw [hd, Nat.shiftLeft_eq, Nat.one_mul]
      simp only [Nat.mul_div_cancel _ (Nat.two_pow_pos i)]
      simp
  rw [this]
  unfold Ieee.signed
  simp only [Bool.false_eq_true, if_false, Nat.shiftLeft_eq, Nat.pow_zero, Nat.mul_one]
  have h1 : IntKind.i64.min = -9223372036854775808 := by decide
  have h2 : IntKind.i64.max = 9223372036854775807 := by decide
  rw [h1, h2, if_pos (by omega)]
theorem flt_order (a b : Nat) (ha : a < 2 ^ 53) (hb : b < 2 ^ 53) : Ieee.double.order (flt a) (flt b) = some (compare a b) := by
  obtain ⟨i, hi, ea⟩ := flt_read a (by omega)
  obtain ⟨j, hj, eb⟩ := flt_read b (by omega)
  unfold Ieee.Format.order
  rw [ea, eb]
  unfold Ieee.Datum.order
  simp only [Option.some.injEq]
  rw [shiftI a i _ (by omega), shiftI b j _ (by omega)]
  have hp : 0 < 2 ^ (-min (-(i : Int)) (-(j : Int))).toNat := Nat.two_pow_pos _
  generalize 2 ^ (-min (-(i : Int)) (-(j : Int))).toNat = c at *
  simp only [compare, compareOfLessAndEq]
  by_cases h : a < b
  · have : a * c < b * c := Nat.mul_lt_mul_of_pos_right h hp
    rw [if_pos h, if_pos (by omega)]
  · rw [if_neg h]
    by_cases h2 : a = b
    · subst h2
      simp
    · have : b * c < a * c := Nat.mul_lt_mul_of_pos_right (by omega) hp
      rw [if_neg h2, if_neg (by omega), if_neg (by omega)]
theorem flt_int (n : Nat) : floatOfInt .f64 (n : Int) = flt n := by
  have : decide ((n : Int) < 0) = false := by simp
  show Ieee.Format.nearest Ieee.double (decide ((n : Int) < 0)) (n : Int).natAbs 0 = _
  rw [this]
  rfl
theorem flt_nearest (n : Nat) : FloatKind.f64.nearest (n : Int) = flt n := by
  unfold FloatKind.nearest
  exact flt_int n
end Go.Proofs.Ytpfjgecdlilkcaa
