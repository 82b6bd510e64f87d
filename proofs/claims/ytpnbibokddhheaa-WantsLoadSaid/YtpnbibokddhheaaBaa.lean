/-
  Floats that are whole numbers: sums and comparisons of them are exact.
-/
import Derived.Laws.FloatArith
import Derived.WalkKit
import Derived.WalkSpells
import Derived.WalkLawsBesides
import Derived.Lib.Hide
import Derived.Deep.QuietTactic
import Derived.BigQuiet
import Derived.StillTailTactics
import Derived.Deep.Light
import Derived.Maps.AppendAt
import Derived.Deep.AppendLies
import Derived.RegionTactic
import Derived.OwnWalk
import Derived.Test.YtpnbibokddhheaaProg
import Derived.ProofKit
import Derived.OpenShut
import Derived.Deep.Slices
import Derived.Deep.Fields
import Derived.ChangeSame
import Derived.Lib.SmallJoins
namespace Go.Proofs.Ytpnbibokddhheaa
open Go

/-- the float of a whole number -/
def flt (n : Nat) : Nat := Ieee.Format.nearest Ieee.double false n 0

theorem dbl_least : Ieee.double.leastPlace = -1074 := by decide
theorem dbl_binade : Ieee.double.binade = 2 ^ 52 := by decide
theorem dbl_inf : Ieee.double.infRung = 2047 * 2 ^ 52 := by decide
theorem dbl_sw : Ieee.double.signWeight = 2 ^ 63 := by decide
theorem log2_mul_pow {n : Nat} (hn : n ≠ 0) (d : Nat) : (n * 2 ^ d).log2 = n.log2 + d := by
  have hp : 0 < 2 ^ d := Nat.two_pow_pos d
  have h0 : n * 2 ^ d ≠ 0 := Nat.mul_ne_zero hn (by omega)
  rw [Nat.log2_eq_iff h0]
  have h1 := Nat.log2_self_le hn
  have h2 := Nat.lt_log2_self (n := n)
  constructor
  · rw [Nat.pow_add]
    exact Nat.mul_le_mul_right _ h1
  · rw [show n.log2 + d + 1 = (n.log2 + 1) + d by omega, Nat.pow_add]
    exact Nat.mul_lt_mul_of_pos_right h2 hp
theorem cut_even0 (n d : Nat) : Ieee.Toward.cut .even false (n * 2 ^ d) d = n := by
  unfold Ieee.Toward.cut
  by_cases hn : n = 0
  · subst hn
    simp [Nat.shiftLeft_eq]
  · have hd : min d ((n * 2 ^ d).log2 + 2) = d := by
      rw [log2_mul_pow hn]
      omega
    rw [hd, Nat.shiftLeft_eq, Nat.one_mul]
    have hp : 0 < 2 ^ d := Nat.two_pow_pos d
    simp only [Nat.mul_div_cancel _ hp, Nat.mul_mod_left]
    have h1 : decide (2 ^ d < 2 * 0) = false := by simp
    have h2 : (2 ^ d == 2 * 0) = false := by simp
    rw [h1, h2]
    simp
theorem minX (X L m : Nat) (hL : L ≤ 52) (hm : m < 2 * X) : min ((L + 1022) * X + m) (2047 * X) = (L + 1022) * X + m := by
  have : (L + 1022) * X ≤ 1074 * X := Nat.mul_le_mul_right _ (by omega)
  omega
theorem ltXf (X L m : Nat) (hL : L ≤ 52) (hm : m < 2 * X) (hm0 : X ≤ m) : (L + 1022) * X + m < 2047 * X ∧ ¬(L + 1022) * X + m < X ∧ ((L + 1022) * X + m) / X = L + 1023 ∧ ((L + 1022) * X + m) % X = m - X := by
  have h1 : (L + 1022) * X ≤ 1074 * X := Nat.mul_le_mul_right _ (by omega)
  have h2 : 1 * X ≤ (L + 1022) * X := Nat.mul_le_mul_right _ (by omega)
  have hX : 0 < X := by omega
  have e : (L + 1022) * X + m = (m - X) + X * (L + 1023) := by
    rw [Nat.mul_comm X, show L + 1023 = (L + 1022) + 1 by omega, Nat.add_mul (L + 1022) 1]
    omega
  refine ⟨by omega, by omega, ?_, ?_⟩
  · rw [e, Nat.add_mul_div_left _ _ hX, Nat.div_eq_of_lt (by omega)]; omega
  · rw [e, Nat.add_mul_mod_self_left, Nat.mod_eq_of_lt (by omega)]
theorem nearest_shift (n k : Nat) (hn : n < 2 ^ 53) : Ieee.Format.nearest Ieee.double false (n * 2 ^ k) (-(k : Int)) = if n = 0 then 0 else (n.log2 + 1022) * 2 ^ 52 + n * 2 ^ (52 - n.log2) := by
  unfold Ieee.Format.nearest
  by_cases h0 : n = 0
  · subst h0
    simp [Ieee.Format.word]
  · have hp : 0 < 2 ^ k := Nat.two_pow_pos k
    rw [if_neg h0, if_neg (Nat.mul_ne_zero h0 (by omega)), log2_mul_pow h0, dbl_least, dbl_binade, dbl_inf]
    have hL : n.log2 ≤ 52 := by
      have := (Nat.log2_lt h0).2 hn
      omega
    have hfb : ((Ieee.double.fractionBits : Nat) : Int) = 52 := rfl
    simp only [hfb]
    obtain ⟨L, hLL⟩ : ∃ L, n.log2 = L := ⟨_, rfl⟩
    have h1 := Nat.log2_self_le h0
    have h2 := Nat.lt_log2_self (n := n)
    rw [hLL] at h1 h2 hL ⊢
    have hlast : max (-(k : Int) + ((L + k : Nat) : Int) - 52) (-1074) = (L : Int) - 52 := by omega
    rw [hlast]
    have hw : ((L : Int) - 52 - -1074).toNat = L + 1022 := by omega
    rw [hw]
    have hcut : Ieee.Toward.cut .even false ((n * 2 ^ k) <<< (-(k : Int) - ((L : Int) - 52)).toNat) (((L : Int) - 52 - -(k : Int)).toNat) = n * 2 ^ (52 - L) := by
      rw [Nat.shiftLeft_eq]
      by_cases hc : k ≤ 52 - L
      · rw [show ((L : Int) - 52 - -(k : Int)).toNat = 0 by omega, show (-(k : Int) - ((L : Int) - 52)).toNat = 52 - L - k by omega]
        have := cut_even0 (n * 2 ^ k * 2 ^ (52 - L - k)) 0
        rw [Nat.pow_zero, Nat.mul_one] at this
        rw [this, Nat.mul_assoc, ← Nat.pow_add]
        congr 2
        omega
      · rw [show ((L : Int) - 52 - -(k : Int)).toNat = k - (52 - L) by omega, show (-(k : Int) - ((L : Int) - 52)).toNat = 0 by omega, Nat.pow_zero, Nat.mul_one]
        have := cut_even0 (n * 2 ^ (52 - L)) (k - (52 - L))
        rw [Nat.mul_assoc, ← Nat.pow_add, show 52 - L + (k - (52 - L)) = k by omega] at this
        exact this
    rw [hcut]
    have hlt : n * 2 ^ (52 - L) < 2 ^ 53 := by
      have : n * 2 ^ (52 - L) < 2 ^ (L + 1) * 2 ^ (52 - L) := Nat.mul_lt_mul_of_pos_right h2 (Nat.two_pow_pos _)
      rw [← Nat.pow_add, show L + 1 + (52 - L) = 53 by omega] at this
      exact this
    unfold Ieee.Format.word
    simp only [Bool.false_eq_true, if_false]
    exact minX _ _ _ hL (by rw [← Nat.pow_succ']; exact hlt)
theorem flt_eq (n : Nat) (hn : n < 2 ^ 53) : flt n = if n = 0 then 0 else (n.log2 + 1022) * 2 ^ 52 + n * 2 ^ (52 - n.log2) := by
  have := nearest_shift n 0 hn
  rw [Nat.pow_zero, Nat.mul_one] at this
  exact this
/-- what it reads as -/
theorem flt_read (n : Nat) (hn : n < 2 ^ 53) : ∃ k : Nat, k ≤ 1074 ∧ Ieee.double.read (flt n) = .number false (n * 2 ^ k) (-(k : Int)) := by
  rw [flt_eq n hn]
  by_cases h0 : n = 0
  · subst h0
    obtain ⟨c, hc⟩ : ∃ c : Nat, c = 1074 := ⟨_, rfl⟩
    refine ⟨c, by omega, ?_⟩
    rw [if_pos rfl, Nat.zero_mul, hc]
    unfold Ieee.Format.read
    rw [dbl_sw, dbl_binade, dbl_least]
    simp
  · rw [if_neg h0]
    have hL : n.log2 ≤ 52 := by
      have := (Nat.log2_lt h0).2 hn
      omega
    have h1 := Nat.log2_self_le h0
    have h2 := Nat.lt_log2_self (n := n)
    obtain ⟨L, hLL⟩ : ∃ L, n.log2 = L := ⟨_, rfl⟩
    rw [hLL] at h1 h2 hL ⊢
    have hlt : n * 2 ^ (52 - L) < 2 ^ 53 := by
      have : n * 2 ^ (52 - L) < 2 ^ (L + 1) * 2 ^ (52 - L) := Nat.mul_lt_mul_of_pos_right h2 (Nat.two_pow_pos _)
      rw [← Nat.pow_add, show L + 1 + (52 - L) = 53 by omega] at this
      exact this
    have hge : 2 ^ 52 ≤ n * 2 ^ (52 - L) := by
      have : 2 ^ L * 2 ^ (52 - L) ≤ n * 2 ^ (52 - L) := Nat.mul_le_mul_right _ h1
      rw [← Nat.pow_add, show L + (52 - L) = 52 by omega] at this
      exact this
    refine ⟨52 - L, by omega, ?_⟩
    generalize n * 2 ^ (52 - L) = m at *
    obtain ⟨r1, r2, r3, r4⟩ := ltXf (2 ^ 52) L m hL (by rw [← Nat.pow_succ']; exact hlt) hge
    unfold Ieee.Format.read
    rw [dbl_sw, dbl_binade, dbl_inf, dbl_least]
    have h63 : (2047 : Nat) * 2 ^ 52 ≤ 2 ^ 63 := by decide
    have r5 : (L + 1022) * 2 ^ 52 + m < 2 ^ 63 := Nat.lt_of_lt_of_le r1 h63
    simp only [Nat.div_eq_of_lt r5, Nat.mod_eq_of_lt r5]
    rw [if_neg r2, if_pos r1, r3, r4]
    simp only [Nat.zero_mod, show ((0 : Nat) == 1) = false from rfl, Ieee.Datum.number.injEq, true_and]
    constructor
    · exact Nat.add_sub_cancel' hge
    · omega
theorem shiftI (n k : Nat) (b : Int) (h : b ≤ -(k : Int)) : Ieee.signed false (n * 2 ^ k) (-(k : Int) - b).toNat = ((n * 2 ^ (-b).toNat : Nat) : Int) := by
  unfold Ieee.signed
  simp only [Bool.false_eq_true, if_false]
  rw [Nat.shiftLeft_eq, Nat.mul_assoc, ← Nat.pow_add, show k + (-(k : Int) - b).toNat = (-b).toNat by omega]
theorem flt_add (a b : Nat) (h : a + b < 2 ^ 53) : floatBits .add .f64 (flt a) (flt b) = some (flt (a + b)) := by
  obtain ⟨i, hi, ea⟩ := flt_read a (by omega)
  obtain ⟨j, hj, eb⟩ := flt_read b (by omega)
  unfold floatBits FloatKind.format Ieee.Format.add
  simp only
  rw [ea, eb]
  unfold Ieee.Datum.sum
  simp only [Option.map_some, Option.some.injEq]
  rw [shiftI a i _ (by omega), shiftI b j _ (by omega)]
  obtain ⟨c, hc⟩ : ∃ c : Nat, min (-(i : Int)) (-(j : Int)) = -(c : Int) ∧ c ≤ 1074 := ⟨max i j, by omega, by omega⟩
  rw [hc.1, show (-(-(c : Int))).toNat = c by omega]
  have hsum : ((a * 2 ^ c : Nat) : Int) + ((b * 2 ^ c : Nat) : Int) = (((a + b) * 2 ^ c : Nat) : Int) := by
    rw [Nat.add_mul]; omega
  rw [hsum]
  have hneg : decide ((((a + b) * 2 ^ c : Nat) : Int) < 0) = false := by
    have : (0 : Int) ≤ (((a + b) * 2 ^ c : Nat) : Int) := Int.natCast_nonneg _
    simpa using this
  rw [hneg]
  simp only [Bool.and_false, ite_self, Int.natAbs_natCast]
  unfold Ieee.Format.write
  simp only
  rw [nearest_shift _ _ h, ← flt_eq _ h]
theorem flt_toInt (n : Nat) (h : n < 2 ^ 53) : floatToIntVal .f64 (flt n) .i64 = some (n : Int) := by
  obtain ⟨i, hi, ea⟩ := flt_read n h
  unfold floatToIntVal FloatKind.decode FloatKind.format
  simp only
  rw [ea]
  unfold Ieee.Datum.toInt Ieee.Datum.integral
  simp only
  have : Ieee.Toward.cut .zero false ((n * 2 ^ i) <<< (-(i : Int)).toNat) (- -(i : Int)).toNat = n := by
    rw [show (-(i : Int)).toNat = 0 by omega, show (- -(i : Int)).toNat = i by omega, Nat.shiftLeft_eq, Nat.pow_zero, Nat.mul_one]
    unfold Ieee.Toward.cut
    by_cases hn : n = 0
    · subst hn
      simp
    · have hd : min i ((n * 2 ^ i).log2 + 2) = i := by
        rw [log2_mul_pow hn]
        omega
      rw [hd, Nat.shiftLeft_eq, Nat.one_mul]
      simp only [Nat.mul_div_cancel _ (Nat.two_pow_pos i)]
      simp
  rw [this]
  unfold Ieee.signed
  simp only [Bool.false_eq_true, if_false, Nat.shiftLeft_eq, Nat.pow_zero, Nat.mul_one]
  have h1 : IntKind.i64.min = -9223372036854775808 := by decide
  have h2 : IntKind.i64.max = 9223372036854775807 := by decide
  rw [h1, h2, if_pos (by omega)]
theorem flt_order (a b : Nat) (ha : a < 2 ^ 53) (hb : b < 2 ^ 53) : Ieee.double.order (flt a) (flt b) = some (compare a b) := by
  obtain ⟨i, hi, ea⟩ := flt_read a (by omega)
  obtain ⟨j, hj, eb⟩ := flt_read b (by omega)
  unfold Ieee.Format.order
  rw [ea, eb]
  unfold Ieee.Datum.order
  simp only [Option.some.injEq]
  rw [shiftI a i _ (by omega), shiftI b j _ (by omega)]
  have hp : 0 < 2 ^ (-min (-(i : Int)) (-(j : Int))).toNat := Nat.two_pow_pos _
  generalize 2 ^ (-min (-(i : Int)) (-(j : Int))).toNat = c at *
  simp only [compare, compareOfLessAndEq]
  by_cases h : a < b
  · have : a * c < b * c := Nat.mul_lt_mul_of_pos_right h hp
    rw [if_pos h, if_pos (by omega)]
  · rw [if_neg h]
    by_cases h2 : a = b
    · subst h2
      simp
    · have : b * c < a * c := Nat.mul_lt_mul_of_pos_right (by omega) hp
      rw [if_neg h2, if_neg (by omega), if_neg (by omega)]
theorem flt_int (n : Nat) : floatOfInt .f64 (n : Int) = flt n := by
  have : decide ((n : Int) < 0) = false := by simp
  show Ieee.Format.nearest Ieee.double (decide ((n : Int) < 0)) (n : Int).natAbs 0 = _
  rw [this]
  rfl
theorem flt_nearest (n : Nat) : FloatKind.f64.nearest (n : Int) = flt n := by
  unfold FloatKind.nearest
  exact flt_int n
end Go.Proofs.Ytpnbibokddhheaa

/-
  Sums by Fletcher, in plain words; the two bytes that make them nothing.
-/
namespace Go.Proofs.Ytpnbibokddhheaa

def stepF (s : Int × Int) (x : Int) : Int × Int := ((s.1 + x) % 255, (s.2 + (s.1 + x)) % 255)
def sumsF (bs : List Int) : Int × Int := bs.foldl stepF (0, 0)
def secW : List Int → Int
  | [] => 0
  | x :: l => ((l.length : Int) + 1) * x + secW l
theorem sums_from (bs : List Int) : ∀ a b : Int, 0 ≤ a → a < 255 → 0 ≤ b → b < 255 → bs.foldl stepF (a, b) = ((a + bs.sum) % 255, (b + (bs.length : Int) * a + secW bs) % 255) := by
  induction bs with
  | nil =>
    intro a b h1 h2 h3 h4
    simp only [List.foldl_nil, List.sum_nil, List.length_nil, secW, Prod.mk.injEq]
    constructor <;> omega
  | cons x l ih =>
    intro a b h1 h2 h3 h4
    rw [List.foldl_cons]
    unfold stepF
    simp only
    have e1 : 0 ≤ (a + x) % 255 := by omega
    have e2 : (a + x) % 255 < 255 := by omega
    have e3 : 0 ≤ (b + (a + x)) % 255 := by omega
    have e4 : (b + (a + x)) % 255 < 255 := by omega
    have := ih _ _ e1 e2 e3 e4
    unfold stepF at this
    rw [this]
    obtain ⟨p, hp⟩ : ∃ p, (a + x) % 255 = a + x - 255 * p := ⟨(a + x) / 255, by omega⟩
    obtain ⟨q, hq⟩ : ∃ q, (b + (a + x)) % 255 = b + (a + x) - 255 * q := ⟨(b + (a + x)) / 255, by omega⟩
    rw [hp, hq]
    simp only [List.sum_cons, List.length_cons, secW, Prod.mk.injEq]
    constructor
    · omega
    · have e : b + (a + x) - 255 * q + (l.length : Int) * (a + x - 255 * p) + secW l = b + ((l.length + 1 : Nat) : Int) * a + (((l.length : Int) + 1) * x + secW l) + 255 * (-(q + (l.length : Int) * p)) := by grind
      rw [e, Int.add_mul_emod_self_left]
theorem sums_eq (bs : List Int) : sumsF bs = (bs.sum % 255, secW bs % 255) := by
  unfold sumsF
  rw [sums_from bs 0 0 (by omega) (by omega) (by omega) (by omega)]
  simp
theorem secW_append (l m : List Int) : secW (l ++ m) = secW l + (m.length : Int) * l.sum + secW m := by
  induction l with
  | nil => simp [secW]
  | cons x l ih =>
    simp only [List.cons_append, secW, ih, List.length_append, List.sum_cons]
    grind
/-- what the two bytes add -/
theorem secW_two (pre post : List Int) (a b : Int) : (pre ++ a :: b :: post).sum = (pre ++ 0 :: 0 :: post).sum + a + b ∧ secW (pre ++ a :: b :: post) = secW (pre ++ 0 :: 0 :: post) + ((post.length : Int) + 2) * a + ((post.length : Int) + 1) * b := by
  constructor
  · simp only [List.sum_append, List.sum_cons]; omega
  · rw [secW_append, secW_append]
    simp only [secW, List.length_cons]
    grind
/-- the two bytes, of what is left behind the place, and the two sums -/
def fillA (k x y : Int) : Int := ((k - 1) * x - y) % 255
def fillB (k x y : Int) : Int := (y - k * x) % 255
def wholeP (bs : List Int) : Prop := bs.sum % 255 = 0 ∧ secW bs % 255 = 0
theorem fill_iff (pre post : List Int) (i : Int) (hi : 0 ≤ i) (hi2 : i < 255) :
    wholeP (pre ++ i :: ((510 - (pre ++ 0 :: 0 :: post).sum % 255 - i) % 255) :: post) ↔ i = fillA ((post.length : Int) + 2) ((pre ++ 0 :: 0 :: post).sum % 255) (secW (pre ++ 0 :: 0 :: post) % 255) := by
  unfold wholeP fillA
  obtain ⟨h1, h2⟩ := secW_two pre post i ((510 - (pre ++ 0 :: 0 :: post).sum % 255 - i) % 255)
  rw [h1, h2]
  generalize (pre ++ 0 :: 0 :: post).sum = S
  generalize secW (pre ++ 0 :: 0 :: post) = W
  generalize (post.length : Int) = n
  obtain ⟨p, hp⟩ : ∃ p, S = S % 255 + 255 * p := ⟨S / 255, by omega⟩
  obtain ⟨q, hq⟩ : ∃ q, W = W % 255 + 255 * q := ⟨W / 255, by omega⟩
  obtain ⟨x, hx⟩ : ∃ x, S % 255 = x := ⟨_, rfl⟩
  obtain ⟨y, hy⟩ : ∃ y, W % 255 = y := ⟨_, rfl⟩
  obtain ⟨r, hr⟩ : ∃ r, (510 - x - i) % 255 = 510 - x - i - 255 * r := ⟨(510 - x - i) / 255, by omega⟩
  rw [hx] at hp ⊢
  rw [hy] at hq ⊢
  rw [hr, hp, hq]
  have e1 : x + 255 * p + i + (510 - x - i - 255 * r) = 255 * (p + 2 - r) := by omega
  have e2 : y + 255 * q + (n + 2) * i + (n + 1) * (510 - x - i - 255 * r) = (i - ((n + 1) * x - y)) + 255 * (q + (n + 1) * (2 - r)) := by grind
  rw [e1, e2, Int.mul_emod_right, Int.add_mul_emod_self_left, show n + 2 - 1 = n + 1 by omega]
  generalize (n + 1) * x - y = z
  constructor
  · rintro ⟨-, h⟩
    omega
  · intro h
    exact ⟨rfl, by omega⟩
theorem fill_b (k x y : Int) : (510 - x - fillA k x y) % 255 = fillB k x y := by
  unfold fillA fillB
  have e : k * x = (k - 1) * x + x := by grind
  rw [e]
  generalize (k - 1) * x = z
  omega
end Go.Proofs.Ytpnbibokddhheaa

/-
  Base words of this family: memory.
-/
namespace Go.Proofs.Ytpnbibokddhheaa
open Go.RowKit

theorem below_drewN {B : Nat} {a w : World} (h : Below B a w) (n : Nat) : Below B a (w.drewN n) := ⟨h.os, h.tape, h.output, h.size, h.block⟩

/-- A region that draws its order, whose first n operations only read: one walk, in a world that is as the one before. -/
theorem wp_draw_tail {P : Program} {id : Nat} {Q : Exit → Act → World → Prop} {a : Act} {w : World} {l : List Oper} (n : Nat) (hm : P.follows .mixedOrders = true) (hB : Region.lexTailB .any l.toArray n = true)
    (h : ∀ w2 : World, Hid (w2 = w.drew) → (∀ p, w2.cell? p = w.cell? p) → (∀ p, w2.frozen? p = w.frozen? p) → w.heap.size ≤ w2.heap.size → w2.heap.size ≤ w.heap.size →
      wpStill P l.toArray w2 (fun a' => wpList P l.toArray Q (l.drop n) a' w2) (l.take n) a) : (Code.region id l.toArray true).wp P Q a w :=
  wp_region_still_tail n hm hB (h w.drew rfl (fun _ => rfl) (fun _ => rfl) (Nat.le_refl _) (Nat.le_refl _))

/-- The cells of a slice of n elements of 'size' cells each, in blocks below B. -/
def Reads (w : World) (B size : Nat) (A : Option Addr) (n : Nat) (xs : List Value) : Prop :=
  xs.length = n * size ∧ (0 < n → ∃ b o, A = some ⟨b, o, none⟩ ∧ b < B ∧ ∀ j u, xs[j]? = some u → w.cell? ⟨b, o + j, none⟩ = some u)

section
variable {w w' : World} {B B' size n : Nat} {A : Option Addr} {xs : List Value}
theorem Reads.keep (h : Reads w B size A n xs) (hk : ∀ p : Addr, p.block < B → w'.cell? p = w.cell? p) : Reads w' B size A n xs :=
  ⟨h.1, fun hn => by
    obtain ⟨b, o, e, hb, hc⟩ := h.2 hn
    exact ⟨b, o, e, hb, fun j u hu => (hk _ hb).trans (hc j u hu)⟩⟩
theorem Reads.more (h : Reads w B size A n xs) (hB : B ≤ B') : Reads w B' size A n xs :=
  ⟨h.1, fun hn => by
    obtain ⟨b, o, e, hb, hc⟩ := h.2 hn
    exact ⟨b, o, e, by omega, hc⟩⟩
theorem Reads.below (h : Reads w B size A n xs) (hb : Below B w w') : Reads w' B size A n xs := h.keep fun _ hp => hb.cell hp
end

/-- Block g is just the cells cs of element type t, none frozen. -/
def Blk (w : World) (g : Nat) (t : TypeId) (cs : Array Value) : Prop := w.heap[g]? = some (.cells cs t (0, 0))

section
variable {w w' : World} {g : Nat} {t : TypeId} {cs : Array Value}
theorem Blk.lt (h : Blk w g t cs) : g < w.heap.size := by
  rcases Nat.lt_or_ge g w.heap.size with hlt | hge
  · exact hlt
  · unfold Blk at h; rw [Array.getElem?_eq_none hge] at h; cases h
theorem Blk.cell (h : Blk w g t cs) (i : Nat) : w.cell? ⟨g, i, none⟩ = cs[i]? := cell_of_row w g i cs t (0, 0) h
theorem Blk.frozen (h : Blk w g t cs) (i : Nat) : w.frozen? ⟨g, i, none⟩ = false := by
  unfold Blk at h
  simp [World.frozen?, h]
theorem Blk.new (w : World) (t : TypeId) (cs : Array Value) : Blk (w.alloc (.cells cs t)) w.heap.size t cs := heap_alloc_new w _
theorem Blk.drew (h : Blk w g t cs) : Blk w.drew g t cs := h
theorem Blk.drewN (h : Blk w g t cs) (n : Nat) : Blk (w.drewN n) g t cs := h
theorem Blk.alloc (h : Blk w g t cs) (o : Obj) : Blk (w.alloc o) g t cs := (Below.heap_alloc w o g h.lt).trans h
theorem Blk.set_ (h : Blk w g t cs) (i : Nat) (u : Value) : Blk (w.setCell ⟨g, i, none⟩ u) g t (cs.setIfInBounds i u) := by
  unfold Blk at h ⊢
  simp [World.setCell, Array.getElem?_modify, h]
theorem Blk.far (h : Blk w g t cs) {p : Addr} (hp : g ≠ p.block) (u : Value) : Blk (w.setCell p u) g t cs := (Below.heap_setCell w p u g hp).trans h
theorem Blk.below {B : Nat} (h : Blk w g t cs) (hb : Below B w w') (hg : g < B) : Blk w' g t cs := (hb.block g hg).trans h
theorem Blk.grown {row : Option Nat} (h : Blk w g t cs) (hb : w.grownBy w' row) (hg : some g ≠ row) : Blk w' g t cs := (hb.block g h.lt hg).trans h
theorem Blk.cells4 {a b c d : Value} (h : Blk w g t #[a, b, c, d]) : w.cell? ⟨g, 0, none⟩ = some a ∧ w.cell? ⟨g, 1, none⟩ = some b ∧ w.cell? ⟨g, 2, none⟩ = some c ∧ w.cell? ⟨g, 3, none⟩ = some d ∧
    w.frozen? ⟨g, 0, none⟩ = false ∧ w.frozen? ⟨g, 1, none⟩ = false ∧ w.frozen? ⟨g, 2, none⟩ = false ∧ w.frozen? ⟨g, 3, none⟩ = false :=
  ⟨h.cell 0, h.cell 1, h.cell 2, h.cell 3, h.frozen 0, h.frozen 1, h.frozen 2, h.frozen 3⟩
theorem news4 (w : World) (a b c d : Value) (t : TypeId) (g : Nat) (hg : g = w.heap.size) : ∀ j u, [a, b, c, d][j]? = some u → (w.alloc (.cells #[a, b, c, d] t)).cell? ((⟨g, 0, none⟩ : Addr).add j) = some u := by
  intro j u hu
  subst hg
  rw [show (⟨w.heap.size, 0, none⟩ : Addr).add j = ⟨w.heap.size, j, none⟩ by unfold Addr.add; split <;> simp_all]
  rw [(Blk.new w t #[a, b, c, d]).cell j]
  simpa using hu
theorem ones4 (a b c d : Int) : ∀ u ∈ [Value.int .i64 a, Value.int .i64 b, Value.int .i64 c, Value.int .i64 d], u.oneCell' = true := by
  intro u hu
  simp at hu
  rcases hu with rfl | rfl | rfl | rfl <;> rfl
theorem Blk.cells2 {a b : Value} (h : Blk w g t #[a, b]) : w.cell? ⟨g, 0, none⟩ = some a ∧ w.cell? ⟨g, 1, none⟩ = some b ∧ w.frozen? ⟨g, 0, none⟩ = false ∧ w.frozen? ⟨g, 1, none⟩ = false :=
  ⟨h.cell 0, h.cell 1, h.frozen 0, h.frozen 1⟩
theorem Blk.set4 {a b c d a' b' c' d' : Value} (h : Blk w g t #[a, b, c, d]) :
    Blk ((((w.setCell ⟨g, 0, none⟩ a').setCell ⟨g, 1, none⟩ b').setCell ⟨g, 2, none⟩ c').setCell ⟨g, 3, none⟩ d') g t #[a', b', c', d'] := by
  have := (((h.set_ 0 a').set_ 1 b').set_ 2 c').set_ 3 d'
  simpa using this
theorem Blk.to {cs' : Array Value} (h : Blk w g t cs) (e : cs = cs') : Blk w g t cs' := e ▸ h
end

end Go.Proofs.Ytpnbibokddhheaa

/-
  Memory, more: blocks of five cells, what grew alone.
-/
namespace Go.Proofs.Ytpnbibokddhheaa
open Go.RowKit

theorem Blk.cells5 {w : World} {g : Nat} {t : TypeId} {a b c d e : Value} (h : Blk w g t #[a, b, c, d, e]) : w.cell? ⟨g, 0, none⟩ = some a ∧ w.cell? ⟨g, 1, none⟩ = some b ∧ w.cell? ⟨g, 2, none⟩ = some c ∧ w.cell? ⟨g, 3, none⟩ = some d ∧ w.cell? ⟨g, 4, none⟩ = some e ∧
    w.frozen? ⟨g, 0, none⟩ = false ∧ w.frozen? ⟨g, 1, none⟩ = false ∧ w.frozen? ⟨g, 2, none⟩ = false ∧ w.frozen? ⟨g, 3, none⟩ = false ∧ w.frozen? ⟨g, 4, none⟩ = false :=
  ⟨h.cell 0, h.cell 1, h.cell 2, h.cell 3, h.cell 4, h.frozen 0, h.frozen 1, h.frozen 2, h.frozen 3, h.frozen 4⟩

section
variable {a w : World} {row : Option Nat} {g : Nat}
theorem only_refl (w : World) (row : Option Nat) : w.grownBy w row := World.grownBy.refl w row
theorem only_drew (h : a.grownBy w row) : a.grownBy w.drew row := ⟨h.os, h.tape, h.output, h.size, h.block⟩
theorem only_drewN (h : a.grownBy w row) (n : Nat) : a.grownBy (w.drewN n) row := ⟨h.os, h.tape, h.output, h.size, h.block⟩
theorem only_alloc (h : a.grownBy w row) (o : Obj) : a.grownBy (w.alloc o) row :=
  ⟨h.os, h.tape, h.output, Nat.le_trans h.size (by simp), fun i hi hne => (Below.heap_alloc w o i (Nat.lt_of_lt_of_le hi h.size)).trans (h.block i hi hne)⟩
theorem only_set (h : a.grownBy w (some g)) {p : Addr} (hp : p.block = g) (u : Value) : a.grownBy (w.setCell p u) (some g) :=
  ⟨h.os, h.tape, h.output, by simpa [World.setCell] using h.size, fun i hi hne => (Below.heap_setCell w p u i (by rintro rfl; exact hne (by rw [hp]))).trans (h.block i hi hne)⟩
theorem only_below {B : Nat} {w' : World} (h : a.grownBy w row) (hb : Below B w w') (hB : a.heap.size ≤ B) : a.grownBy w' row :=
  ⟨hb.os.trans h.os, hb.tape.trans h.tape, hb.output.trans h.output, Nat.le_trans h.size hb.size, fun i hi hne => (hb.block i (Nat.lt_of_lt_of_le hi hB)).trans (h.block i hi hne)⟩
end
theorem _root_.Go.World.grownBy.set {a w : World} {g : Nat} (h : a.grownBy w (some g)) {p : Addr} (hp : p.block = g) (u : Value) : a.grownBy (w.setCell p u) (some g) := only_set h hp u


end Go.Proofs.Ytpnbibokddhheaa

/-
  Blocks of seven cells; an end whose results are read in a world that is known by one fact alone.
-/
namespace Go.Proofs.Ytpnbibokddhheaa
open Go.RowKit

section
variable {w w' : World} {g : Nat} {t : TypeId} {a b c d e f x : Value}
theorem Blk.both7 (h : Blk w g t #[a, b, c, d, e, f, x]) : w.cell? ⟨g, 0, none⟩ = some a ∧ w.cell? ⟨g, 1, none⟩ = some b ∧ w.cell? ⟨g, 2, none⟩ = some c ∧ w.cell? ⟨g, 3, none⟩ = some d ∧ w.cell? ⟨g, 4, none⟩ = some e ∧ w.cell? ⟨g, 5, none⟩ = some f ∧ w.cell? ⟨g, 6, none⟩ = some x ∧ ∀ i, w.frozen? ⟨g, i, none⟩ = false :=
  ⟨h.cell 0, h.cell 1, h.cell 2, h.cell 3, h.cell 4, h.cell 5, h.cell 6, fun i => h.frozen i⟩
theorem Blk.all7 {g : Nat} {t : TypeId} {a b c d e f x : Value} {F : Obj → World} (h : ∀ o, Blk (F o) g t #[a, b, c, d, e, f, x]) :
    (∀ o, (F o).cell? ⟨g, 0, none⟩ = some a) ∧ (∀ o, (F o).cell? ⟨g, 1, none⟩ = some b) ∧ (∀ o, (F o).cell? ⟨g, 2, none⟩ = some c) ∧ (∀ o, (F o).cell? ⟨g, 3, none⟩ = some d) ∧ (∀ o, (F o).cell? ⟨g, 4, none⟩ = some e) ∧ (∀ o, (F o).cell? ⟨g, 5, none⟩ = some f) ∧ (∀ o, (F o).cell? ⟨g, 6, none⟩ = some x) ∧
    (∀ o, (F o).frozen? ⟨g, 0, none⟩ = false) ∧ (∀ o, (F o).frozen? ⟨g, 1, none⟩ = false) ∧ (∀ o, (F o).frozen? ⟨g, 2, none⟩ = false) ∧ (∀ o, (F o).frozen? ⟨g, 3, none⟩ = false) ∧ (∀ o, (F o).frozen? ⟨g, 4, none⟩ = false) ∧ (∀ o, (F o).frozen? ⟨g, 5, none⟩ = false) ∧ (∀ o, (F o).frozen? ⟨g, 6, none⟩ = false) :=
  ⟨fun o => (h o).cell 0, fun o => (h o).cell 1, fun o => (h o).cell 2, fun o => (h o).cell 3, fun o => (h o).cell 4, fun o => (h o).cell 5, fun o => (h o).cell 6, fun o => (h o).frozen 0, fun o => (h o).frozen 1, fun o => (h o).frozen 2, fun o => (h o).frozen 3, fun o => (h o).frozen 4, fun o => (h o).frozen 5, fun o => (h o).frozen 6⟩
theorem Blk.set7 (h : Blk w g t #[a, b, c, d, e, f, x]) (a' b' c' d' e' f' x' : Value) :
    Blk (((((((w.setCell ⟨g, 0, none⟩ a').setCell ⟨g, 1, none⟩ b').setCell ⟨g, 2, none⟩ c').setCell ⟨g, 3, none⟩ d').setCell ⟨g, 4, none⟩ e').setCell ⟨g, 5, none⟩ f').setCell ⟨g, 6, none⟩ x') g t #[a', b', c', d', e', f', x'] := by
  have := ((((((h.set_ 0 a').set_ 1 b').set_ 2 c').set_ 3 d').set_ 4 e').set_ 5 f').set_ 6 x'
  simpa using this
theorem below_set7 {B : Nat} (h : Below B w w') (hg : B ≤ g) (a' b' c' d' e' f' x' : Value) :
    Below B w (((((((w'.setCell ⟨g, 0, none⟩ a').setCell ⟨g, 1, none⟩ b').setCell ⟨g, 2, none⟩ c').setCell ⟨g, 3, none⟩ d').setCell ⟨g, 4, none⟩ e').setCell ⟨g, 5, none⟩ f').setCell ⟨g, 6, none⟩ x') :=
  ((((((h.setCell hg _).setCell hg _).setCell hg _).setCell hg _).setCell hg _).setCell hg _).setCell hg _
end
theorem bodyPost_named {P : Program} {fn : Func} {R : Ending → World → Prop} {a : Act} {w : World} {v : Value} (C : World → Prop) (hC : C w) (hr : ∀ W, C W → (results fn a.tmps).run P W = .ok v W) (hd : a.defers = []) (hR : R (.returned v) w) :
    bodyPost P fn R Exit.ret a w := ⟨hd, v, hr w hC, hR⟩

end Go.Proofs.Ytpnbibokddhheaa

/-
  append onto a row of the call's own, the source nil, empty or not.
-/
namespace Go.Proofs.Ytpnbibokddhheaa
open Go.RowKit

section
variable {P : Program} (w : World)

theorem run_append_of_nil (base : Nat) (t ty e : TypeId) (i : TypeInfo) (size : Nat) (ht : P.underlying t = some (.slice e)) (hi : P.info? e = some i)
    (v : Value) (n : Nat) (xs : List Value) (hown : w.ownsRow base e size v n xs) (c : Nat) : (Builtin.append_ #[t, t] ty #[v, .slice none 0 c]).run P w = .ok v w := by
  rcases hown.2 with ⟨rfl, rfl⟩ | ⟨g, cap, cur, rfl, _, _, hnc, _⟩
  · simp [Builtin.append_, run_underlying ht, sizeOf, typeInfo, hi, Builtin.lenOf, Builtin.firstCells]
  · simp [Builtin.append_, run_underlying ht, sizeOf, typeInfo, hi, Builtin.lenOf, Builtin.firstCells, hnc, storeCells]

theorem run_append_any (base : Nat) (t ty e : TypeId) (i : TypeInfo) (z : Value) (size bytes : Nat) (ht : P.underlying t = some (.slice e)) (hi : P.info? e = some i) (hz : i.zero = some z)
    (hsize : i.size = size) (hby : i.bytes = bytes) (hzs : z.cells.size = size) (hsz : 0 < size)
    (v : Value) (n : Nat) (xs : List Value) (hown : w.ownsRow base e size v n xs)
    (B : Nat) (A : Option Addr) (m c : Nat) (news : List Value) (hr : Reads w B size A m news) (h1 : ∀ u ∈ news, u.oneCell' = true)
    (h63 : n + m ≤ maxLen) (hbytes : (n + m) * bytes ≤ 140737488355328) (hbase : base ≤ w.heap.size) :
    ∃ v' w', (Builtin.append_ #[t, t] ty #[v, .slice A m c]).run P w = .ok v' w' ∧ w'.ownsRow base e size v' (n + m) (xs ++ news) ∧ w.grownBy w' v.ownBlock ∧
      (v'.ownBlock = v.ownBlock ∨ v'.ownBlock = some w.heap.size) := by
  rcases A with _ | ad
  · have hm : m = 0 := by
      rcases Nat.eq_zero_or_pos m with h0 | h0
      · exact h0
      · obtain ⟨_, _, h, _⟩ := hr.2 h0
        cases h
    subst hm
    have hn : news = [] := List.eq_nil_of_length_eq_zero (by simpa using hr.1)
    subst hn
    exact ⟨v, w, run_append_of_nil w base t ty e i size ht hi v n xs hown c, by simpa using hown, World.grownBy.refl w _, .inl rfl⟩
  · have hcells : ∀ j u, news[j]? = some u → w.cell? (ad.add j) = some u := by
      intro j u hu
      rcases Nat.eq_zero_or_pos m with h0 | h0
      · subst h0
        have hn : news = [] := List.eq_nil_of_length_eq_zero (by simpa using hr.1)
        subst hn
        simp at hu
      · obtain ⟨b, o, h, _, hc⟩ := hr.2 h0
        cases h
        rw [show (⟨b, o, none⟩ : Addr).add j = ⟨b, o + j, none⟩ by unfold Addr.add; split <;> simp_all]
        exact hc j u hu
    obtain ⟨v', w', hrun, h2, h3, _, h5⟩ := run_append_own_at (P := P) w base t ty e i z size bytes ht hi hz hsize hby hzs hsz v n xs hown ad m c news hr.1 hcells h1 h63 hbytes hbase
    exact ⟨v', w', hrun, h2, h3, h5⟩

theorem wp_append_any {o : Oper} {a : Act} {K : Act → World → Prop} {Q : Exit → Act → World → Prop} (s x : Operand) (t : TypeId)
    (ho : o.op = .call { callee := .builtin .append, args := #[s, x], argTypes := #[t, t] })
    (base : Nat) (e : TypeId) (i : TypeInfo) (z : Value) (size bytes : Nat) (ht : P.underlying t = some (.slice e)) (hi : P.info? e = some i) (hz : i.zero = some z)
    (hsize : i.size = size) (hby : i.bytes = bytes) (hzs : z.cells.size = size) (hsz : 0 < size)
    (v : Value) (n : Nat) (xs : List Value) (hs : a.eval s = v) (hown : w.ownsRow base e size v n xs)
    (B : Nat) (A : Option Addr) (m c : Nat) (news : List Value) (hx : a.eval x = .slice A m c) (hr : Reads w B size A m news) (h1 : ∀ u ∈ news, u.oneCell' = true)
    (h63 : n + m ≤ maxLen) (hbytes : (n + m) * bytes ≤ 140737488355328) (hbase : base ≤ w.heap.size)
    (h : ∀ v' w', w'.ownsRow base e size v' (n + m) (xs ++ news) → w.grownBy w' v.ownBlock → (v'.ownBlock = v.ownBlock ∨ v'.ownBlock = some w.heap.size) → K (a.put o.dst v') w') : o.wp P a w K Q := by
  obtain ⟨v', w', hrun, h2, h3, h4⟩ := run_append_any (P := P) w base t o.type e i z size bytes ht hi hz hsize hby hzs hsz v n xs hown B A m c news hr h1 h63 hbytes hbase
  unfold Oper.wp execOp
  simp only [ho, resolve, invoke, builtin, Sem.run_bind, Sem.run_pure, Result.andThen_ok, List.map_toArray, List.map_cons, List.map_nil, hs, hx, hrun]
  exact h v' w' h2 h3 h4

theorem wpList_append_any {ops : Array Oper} {rest : List Oper} {o : Oper} {a : Act} {Q : Exit → Act → World → Prop} (hgd : o.guard = none) (s x : Operand) (t : TypeId)
    (ho : o.op = .call { callee := .builtin .append, args := #[s, x], argTypes := #[t, t] })
    (base : Nat) (e : TypeId) (i : TypeInfo) (z : Value) (size bytes : Nat) (ht : P.underlying t = some (.slice e)) (hi : P.info? e = some i) (hz : i.zero = some z)
    (hsize : i.size = size) (hby : i.bytes = bytes) (hzs : z.cells.size = size) (hsz : 0 < size)
    (v : Value) (n : Nat) (xs : List Value) (hs : a.eval s = v) (hown : w.ownsRow base e size v n xs)
    (B : Nat) (A : Option Addr) (m c : Nat) (news : List Value) (hx : a.eval x = .slice A m c) (hr : Reads w B size A m news) (h1 : ∀ u ∈ news, u.oneCell' = true)
    (h63 : n + m ≤ maxLen) (hbytes : (n + m) * bytes ≤ 140737488355328) (hbase : base ≤ w.heap.size)
    (h : ∀ v' w', w'.ownsRow base e size v' (n + m) (xs ++ news) → w.grownBy w' v.ownBlock → (v'.ownBlock = v.ownBlock ∨ v'.ownBlock = some w.heap.size) → wpList P ops Q rest (a.put o.dst v') w') : wpList P ops Q (o :: rest) a w :=
  wpList_plain hgd fun _ hK => wp_append_any w s x t ho base e i z size bytes ht hi hz hsize hby hzs hsz v n xs hs hown B A m c news hx hr h1 h63 hbytes hbase fun v' w' h2 h3 h4 => hK _ _ (h v' w' h2 h3 h4)
theorem step_append_any {ops : Array Oper} {o : Oper} {a : Act} {K : Act → World → Prop} {Q : Exit → Act → World → Prop} {E : Prop} (hgd : o.guard = none) (s x : Operand) (t : TypeId)
    (ho : o.op = .call { callee := .builtin .append, args := #[s, x], argTypes := #[t, t] })
    (base : Nat) (e : TypeId) (i : TypeInfo) (z : Value) (size bytes : Nat) (ht : P.underlying t = some (.slice e)) (hi : P.info? e = some i) (hz : i.zero = some z)
    (hsize : i.size = size) (hby : i.bytes = bytes) (hzs : z.cells.size = size) (hsz : 0 < size)
    (v : Value) (n : Nat) (xs : List Value) (hs : a.eval s = v) (hown : w.ownsRow base e size v n xs)
    (B : Nat) (A : Option Addr) (m c : Nat) (news : List Value) (hx : a.eval x = .slice A m c) (hr : Reads w B size A m news) (h1 : ∀ u ∈ news, u.oneCell' = true)
    (h63 : n + m ≤ maxLen) (hbytes : (n + m) * bytes ≤ 140737488355328) (hbase : base ≤ w.heap.size)
    (h : ∀ v' w', w'.ownsRow base e size v' (n + m) (xs ++ news) → w.grownBy w' v.ownBlock → (v'.ownBlock = v.ownBlock ∨ v'.ownBlock = some w.heap.size) → K (a.put o.dst v') w') :
    if Region.wanted o (yielded ops a.tmps) = true then Oper.wp P o a w K Q else E := by
  have hw : Region.wanted o (yielded ops a.tmps) = true := by simp [Region.wanted, hgd]
  rw [if_pos hw]
  exact wp_append_any w s x t ho base e i z size bytes ht hi hz hsize hby hzs hsz v n xs hs hown B A m c news hx hr h1 h63 hbytes hbase h
end

end Go.Proofs.Ytpnbibokddhheaa

/-
  append of one number onto a row of numbers of the call's own.
-/
namespace Go.Proofs.Ytpnbibokddhheaa
open Go.RowKit

theorem Blk.size {w : World} {g : Nat} {t : TypeId} {cs : Array Value} (o : w.heap.size = g) : Blk (w.alloc (.cells cs t)) g t cs := by rw [← o]; exact Blk.new w t cs
theorem infoInt : (Try.prog.info? 3).map (fun i => (i.zero, i.size, i.bytes)) = some (some (.int .i64 0), 1, 8) := by kernel_rfl
def intsOf (l : List Int) : List Value := l.map (Value.int .i64)
/-- A slice of numbers that the call made itself: blocks from B on. -/
def OwnI (w : World) (B : Nat) (v : Value) (l : List Int) : Prop := w.ownsRow B 3 1 v l.length (intsOf l)
theorem OwnI.nil (w : World) (B : Nat) : OwnI w B (.slice none 0 0) [] := ⟨rfl, .inl ⟨rfl, rfl⟩⟩
section
variable {w w' : World} {B : Nat} {v : Value} {l : List Int}
theorem OwnI.kept {row : Option Nat} (h : OwnI w B v l) (hg : w.grownBy w' row) (hne : v.ownBlock = none ∨ v.ownBlock ≠ row) : OwnI w' B v l := World.ownsRow.kept h hg hne
theorem OwnI.alloc (h : OwnI w B v l) (o : Obj) : OwnI (w.alloc o) B v l := World.ownsRow.alloc h o
theorem OwnI.below (h : OwnI w B v l) (hb : Below w.heap.size w w') : OwnI w' B v l :=
  h.kept (row := none) ⟨hb.os, hb.tape, hb.output, hb.size, fun k hk _ => hb.block k hk⟩ (by cases hv : v.ownBlock <;> simp)
theorem OwnI.shape (h : OwnI w B v l) : ∃ A cap, v = .slice A l.length cap := by
  rcases h.2 with ⟨rfl, hn⟩ | ⟨g, cap, cur, rfl, _⟩
  · exact ⟨none, 0, by rw [hn]⟩
  · exact ⟨_, cap, rfl⟩
theorem OwnI.at_ (h : OwnI w B v l) (k : Nat) (hk : k < l.length) : ∃ g cap, v = .slice (some ⟨g, 0, none⟩) l.length cap ∧ B ≤ g ∧ g < w.heap.size ∧ w.cell? ⟨g, k, none⟩ = some (.int .i64 l[k]) := by
  rcases h.2 with ⟨rfl, hn⟩ | ⟨g, cap, cur, rfl, hb, hg, hnc, hcm, hcs, ht⟩
  · omega
  · refine ⟨g, cap, rfl, hb, (Array.getElem?_eq_some_iff.1 hg).1, ?_⟩
    have := World.ownsRow.cellAt (w := w) (base := B) (e := 3) (size := 1) (g := g) (n := l.length) (cap := cap) (xs := intsOf l) h k (by omega)
    rw [this]
    simp [intsOf, List.getElem?_eq_getElem hk]
theorem OwnI.block (h : OwnI w B v l) : ∀ k, v.ownBlock = some k → B ≤ k ∧ k < w.heap.size := fun k hk => World.ownsRow.lt h k hk
theorem OwnI.lower {B' : Nat} (h : OwnI w B v l) (hB : B' ≤ B) : OwnI w B' v l := by
  refine ⟨h.1, ?_⟩
  rcases h.2 with hn | ⟨g, cap, cur, e, hb, r⟩
  · exact .inl hn
  · exact .inr ⟨g, cap, cur, e, Nat.le_trans hB hb, r⟩
end
theorem app_int {w : World} {ops : Array Oper} {rest : List Oper} {o : Oper} {a : Act} {Q : Exit → Act → World → Prop} (hgd : o.guard = none) (s x : Operand)
    (ho : o.op = .call { callee := .builtin .append, args := #[s, x], argTypes := #[36, 36] })
    (base : Nat) (v : Value) (l : List Int) (hs : a.eval s = v) (hown : OwnI w base v l) (g : Nat) (u : Int) (hx : a.eval x = .slice (some ⟨g, 0, none⟩) 1 1) (hr : w.cell? ⟨g, 0, none⟩ = some (.int .i64 u))
    (hlen : l.length + 1 ≤ 2 ^ 40) (hbase : base ≤ w.heap.size)
    (h : ∀ v' w', OwnI w' base v' (l ++ [u]) → w.grownBy w' v.ownBlock → wpList Try.prog ops Q rest (a.put o.dst v') w') : wpList Try.prog ops Q (o :: rest) a w := by
  obtain ⟨i0, hi, hz0, hz1, hz2⟩ := info_parts infoInt
  refine wpList_append_any _ hgd s x _ ho base 3 i0 _ 1 8 Try.underlying36 hi hz0 hz1 hz2 rfl (by decide) v l.length (intsOf l) hs hown (g + 1) (some ⟨g, 0, none⟩) 1 1 [.int .i64 u] hx ?_ (by simp [Value.oneCell']) (by unfold maxLen; omega) (by omega) hbase ?_
  · refine ⟨rfl, fun _ => ⟨g, 0, rfl, Nat.lt_succ_self _, fun j y hj => ?_⟩⟩
    match j with
    | 0 => simp at hj; subst hj; exact hr
    | j + 1 => simp at hj
  · intro v' w' h2 h3 _
    refine h v' w' ?_ h3
    unfold OwnI
    rw [show (l ++ [u]).length = l.length + 1 by simp, show intsOf (l ++ [u]) = intsOf l ++ [.int .i64 u] by simp [intsOf]]
    exact h2

end Go.Proofs.Ytpnbibokddhheaa

/-
  Rows of structs in memory, whatever the struct: read, and opened from what was handed in.
-/
namespace Go.Proofs.Ytpnbibokddhheaa
open Go.ChangeShapes Go.WideShapes Go.RowKit Go.Deep Go.Joins

/-- The cells of a slice of n elements of 'size' cells each, in blocks below B. -/
def RowsAt {α : Type} (C : Nat) (cells : α → List Value) (w : World) (B : Nat) (A : Option Addr) (R : List α) : Prop :=
  0 < R.length → ∃ b o, A = some ⟨b, o, none⟩ ∧ b < B ∧ ∀ k (hk : k < R.length) i u, i < C → (cells R[k])[i]? = some u → w.cell? ⟨b, o + k * C + i, none⟩ = some u

section
variable {α : Type} {C : Nat} {cells : α → List Value} {w w' : World} {B B' : Nat} {A : Option Addr} {R : List α}
theorem RowsAt.below (h : RowsAt C cells w B A R) (hb : Below B w w') : RowsAt C cells w' B A R := fun h0 => by
  obtain ⟨b, o, e, hlt, hc⟩ := h h0
  exact ⟨b, o, e, hlt, fun k hk i u hi hu => (hb.cell hlt).trans (hc k hk i u hi hu)⟩
theorem RowsAt.more (h : RowsAt C cells w B A R) (hB : B ≤ B') : RowsAt C cells w B' A R := fun h0 => by
  obtain ⟨b, o, e, hlt, hc⟩ := h h0
  exact ⟨b, o, e, by omega, hc⟩
theorem RowsAt.nil : RowsAt C cells w B A ([] : List α) := fun h => absurd h (Nat.lt_irrefl _)
end

def icell (x : Int) : List Value := [.int .i64 x]
theorem rows_add (b o j : Nat) : (⟨b, o, none⟩ : Addr).add j = ⟨b, o + j, none⟩ := by
  unfold Addr.add; split <;> simp_all

section
variable {H : Type} {enc : TypeId × Value → H} {P : Program} {w : World} {base : Nat} {spare : Nat → Bool} {held : Bool}
theorem open_rows {α : Type} [Inhabited α] {t e : TypeId} {C : Nat} (cells : α → List Value) (ok : α → Prop) (hc0 : 0 < C) (ht : P.underlying t = some (.slice e)) (hC : P.cellsOf e = C)
    (dec : ∀ n cs y, DataW.trod enc P w base spare held n e cs = some y → ∃ d, cs = cells d ∧ ok d) {fuel : Nat} {cs : List Value} {x : DataW H × List MemPlace} (h : DataW.trod enc P w base spare held fuel t cs = some x) :
    ∃ (A : Option Addr) (cap : Nat) (R : List α), cs = [.slice A R.length cap] ∧ RowsAt C cells w w.heap.size A R ∧ R.length ≤ maxLen ∧ ∀ d ∈ R, ok d := by
  rcases open_slice ht h with ⟨hcs, _⟩ | ⟨a, len, cap, m, n, D, Pl, hcs, _, hlc, hcm, hm, _, hi⟩
  · exact ⟨none, 0, [], hcs, RowsAt.nil, by simp, by simp⟩
  · have hlm : len ≤ m := by rw [hm]; split <;> omega
    have h4 : ∀ i, i < len → ∃ d : α, (∀ j u, j < C → (cells d)[j]? = some u → w.cell? (a.add (i * C + j)) = some u) ∧ (cells d).length = C ∧ ok d := by
      intro i hil
      obtain ⟨cs', hc, htr⟩ := hi i (by omega)
      rw [hC] at hc
      obtain ⟨_, hcl, hat⟩ := World.cells?_some hc
      obtain ⟨d, rfl, hok⟩ := dec _ _ _ htr
      refine ⟨d, fun j u hj hu => ?_, hcl, hok⟩
      have := hat (i := j) (by omega)
      rw [← Go.Deep.add_add, this, ← hu]
    obtain ⟨f, hf⟩ := choose_lt h4
    have hl : ((List.range len).map f).length = len := by simp
    refine ⟨some a, cap, (List.range len).map f, by rw [hl]; exact hcs, fun h0 => ?_, by rw [hl]; omega, fun c hc => ?_⟩
    rotate_left
    · obtain ⟨i, hi, rfl⟩ := List.mem_map.1 hc
      exact (hf i (by simpa using hi)).2.2
    rw [hl] at h0
    have hc00 : ∃ u, w.cell? (a.add 0) = some u := by
      have hcl := (hf 0 h0).2.1
      have := (hf 0 h0).1 0 _ hc0 (List.getElem?_eq_getElem (by omega))
      exact ⟨_, by simpa using this⟩
    obtain ⟨b, o, spot⟩ := a
    obtain ⟨u0, hu0⟩ := hc00
    have hsp : spot = none := by simpa [Addr.add] using World.cell?_spot hu0
    subst hsp
    refine ⟨b, o, rfl, by simpa [Addr.add] using World.block_lt_of_cell? w _ hu0, fun k hk i u hi hu => ?_⟩
    rw [hl] at hk
    have hu' : (cells (f k))[i]? = some u := by simpa using hu
    have := (hf k hk).1 i u hi hu'
    rw [rows_add] at this
    rw [show o + k * C + i = o + (k * C + i) by omega]
    exact this
theorem dec_int {t : TypeId} (ht : P.underlying t = some (.int .i64)) {n : Nat} {v : Value} {y : DataW H × List MemPlace} (h : DataW.trod enc P w base spare held n t [v] = some y) : ∃ z : Int, v = .int .i64 z ∧ (Lit.int .i64 z).wf = true := by
  obtain ⟨z, e, _, hw⟩ := DataW.trod_int ht h
  exact ⟨z, by simpa using e, hw⟩
end

end Go.Proofs.Ytpnbibokddhheaa

/-
  Rows of structs that a call made itself, whatever the struct.
-/
namespace Go.Proofs.Ytpnbibokddhheaa
open Go.RowKit

theorem flatR {α : Type} (cells : α → List Value) (C : Nat) (hC : ∀ x, (cells x).length = C) (l : List α) (k i : Nat) (hk : k < l.length) (hi : i < C) : (l.flatMap cells)[k * C + i]? = (cells l[k])[i]? := by
  induction l generalizing k with
  | nil => simp at hk
  | cons c l ih =>
    cases k with
    | zero => simp only [List.flatMap_cons, Nat.zero_mul, Nat.zero_add, List.getElem_cons_zero]; rw [List.getElem?_append_left (by rw [hC]; exact hi)]
    | succ k =>
      have := ih k (by simpa using hk)
      simp only [List.flatMap_cons, List.getElem_cons_succ]
      rw [List.getElem?_append_right (by rw [hC, Nat.add_mul]; omega), hC, show (k + 1) * C + i - C = k * C + i by rw [Nat.add_mul]; omega]
      exact this

/-- A row of structs (element type e, C cells each) that the call made itself: blocks from B on. -/
def OwnR {α : Type} (e : TypeId) (C : Nat) (cells : α → List Value) (w : World) (B : Nat) (v : Value) (L : List α) : Prop := w.ownsRow B e C v L.length (L.flatMap cells)
section
variable {α : Type} {e : TypeId} {C : Nat} {cells : α → List Value} {w w' : World} {B : Nat} {v : Value} {L : List α}
theorem OwnR.nil (w : World) (B : Nat) : OwnR e C cells w B (.slice none 0 0) ([] : List α) := ⟨by simp, .inl ⟨rfl, rfl⟩⟩
theorem OwnR.kept {row : Option Nat} (h : OwnR e C cells w B v L) (hg : w.grownBy w' row) (hne : v.ownBlock = none ∨ v.ownBlock ≠ row) : OwnR e C cells w' B v L := World.ownsRow.kept h hg hne
theorem OwnR.alloc (h : OwnR e C cells w B v L) (o : Obj) : OwnR e C cells (w.alloc o) B v L := World.ownsRow.alloc h o
theorem OwnR.below (h : OwnR e C cells w B v L) (hb : Below w.heap.size w w') : OwnR e C cells w' B v L :=
  h.kept (row := none) ⟨hb.os, hb.tape, hb.output, hb.size, fun k hk _ => hb.block k hk⟩ (by cases hv : v.ownBlock <;> simp)
theorem OwnR.shape (h : OwnR e C cells w B v L) : ∃ A cap, v = .slice A L.length cap := by
  rcases h.2 with ⟨rfl, hn⟩ | ⟨g, cap, cur, rfl, _⟩
  · exact ⟨none, 0, by rw [hn]⟩
  · exact ⟨_, cap, rfl⟩
theorem OwnR.block (h : OwnR e C cells w B v L) : ∀ k, v.ownBlock = some k → B ≤ k ∧ k < w.heap.size := fun k hk => World.ownsRow.lt h k hk
theorem OwnR.lower {B' : Nat} (h : OwnR e C cells w B v L) (hB : B' ≤ B) : OwnR e C cells w B' v L := by
  refine ⟨h.1, ?_⟩
  rcases h.2 with hn | ⟨g, cap, cur, e, hb, r⟩
  · exact .inl hn
  · exact .inr ⟨g, cap, cur, e, Nat.le_trans hB hb, r⟩
theorem OwnR.set_ (h : OwnR e C cells w B v L) {p : Addr} (hp : p.block < B) (u : Value) : OwnR e C cells (w.setCell p u) B v L := by
  refine h.kept (row := some p.block) ⟨rfl, rfl, rfl, by simp, fun k _ hne => Below.heap_setCell w p u k (fun e => hne (by rw [e]))⟩ ?_
  rcases hv : v.ownBlock with _ | k
  · exact .inl rfl
  · right
    intro e
    injection e with e
    have := (h.block k hv).1
    omega
/-- it can be read -/
theorem OwnR.rows (hC : ∀ x, (cells x).length = C) {A : Option Addr} {n cap : Nat} (h : OwnR e C cells w B (.slice A n cap) L) : n = L.length ∧ RowsAt C cells w w.heap.size A L := by
  rcases h.2 with ⟨hv, hn⟩ | ⟨g, cap', cur, hv, hb, hg, hnc, hcm, hcs, ht⟩
  · simp only [Value.slice.injEq] at hv
    exact ⟨by rw [hn]; exact hv.2.1, fun h0 => absurd h0 (by omega)⟩
  · simp only [Value.slice.injEq] at hv
    obtain ⟨rfl, rfl, rfl⟩ := hv
    refine ⟨rfl, fun _ => ⟨g, 0, rfl, (Array.getElem?_eq_some_iff.1 hg).1, fun k hk i u hi hu => ?_⟩⟩
    have hki : k * C + i < L.length * C := by
      have : (k + 1) * C ≤ L.length * C := Nat.mul_le_mul_right C hk
      rw [Nat.add_mul] at this
      omega
    have := World.ownsRow.cellAt (w := w) (base := B) (e := e) (size := C) (g := g) (n := L.length) (cap := cap) (xs := L.flatMap cells) h (k * C + i) hki
    rw [show 0 + k * C + i = k * C + i by omega, this, flatR cells C hC L k i hk hi, hu]
end
/-- append of one struct -/
theorem app_row {α : Type} {e sl : TypeId} {C bytes : Nat} (cells : α → List Value) (hC : ∀ x, (cells x).length = C) (hC0 : 0 < C) (hbytes : bytes ≤ 1000) {z : Value} (hinfo : (Try.prog.info? e).map (fun i => (i.zero, i.size, i.bytes)) = some (some z, C, bytes)) (hzs : z.cells.size = C) (hsl : Try.prog.underlying sl = some (.slice e))
    (h1 : ∀ x, ∀ u ∈ cells x, u.oneCell' = true)
    {w : World} {ops : Array Oper} {rest : List Oper} {o : Oper} {a : Act} {Q : Exit → Act → World → Prop} (hgd : o.guard = none) (s x : Operand)
    (ho : o.op = .call { callee := .builtin .append, args := #[s, x], argTypes := #[sl, sl] })
    (base : Nat) (v : Value) (L : List α) (hs : a.eval s = v) (hown : OwnR e C cells w base v L) (g : Nat) (n : α) (hx : a.eval x = .slice (some ⟨g, 0, none⟩) 1 1) (hr : Blk w g e (cells n).toArray)
    (hlen : L.length + 1 ≤ 2 ^ 30) (hbase : base ≤ w.heap.size)
    (h : ∀ v' w', OwnR e C cells w' base v' (L ++ [n]) → w.grownBy w' v.ownBlock → (v'.ownBlock = v.ownBlock ∨ v'.ownBlock = some w.heap.size) → wpList Try.prog ops Q rest (a.put o.dst v') w') : wpList Try.prog ops Q (o :: rest) a w := by
  obtain ⟨i0, hi, hz0, hz1, hz2⟩ := info_parts hinfo
  refine wpList_append_any _ hgd s x _ ho base e i0 z C bytes hsl hi hz0 hz1 hz2 hzs hC0 v L.length (L.flatMap cells) hs hown (g + 1) (some ⟨g, 0, none⟩) 1 1 (cells n) hx ?_ (h1 n) (by unfold maxLen; omega) ?_ hbase ?_
  · refine ⟨by rw [hC]; omega, fun _ => ⟨g, 0, rfl, Nat.lt_succ_self _, fun j y hj => ?_⟩⟩
    rw [Nat.zero_add, hr.cell j, ← hj]
    simp
  · calc (L.length + 1) * bytes ≤ 2 ^ 30 * 1000 := Nat.mul_le_mul hlen hbytes
      _ ≤ 140737488355328 := by decide
  · intro v' w' h2 h3 h4
    exact h v' w' (by simpa [OwnR, List.flatMap_append] using h2) h3 h4

/-- append of one struct, as an equation on its run -/
theorem app_row_run {α : Type} {e sl : TypeId} {C bytes : Nat} (cells : α → List Value) (hC : ∀ x, (cells x).length = C) (hC0 : 0 < C) (hbytes : bytes ≤ 1000) {z : Value} (hinfo : (Try.prog.info? e).map (fun i => (i.zero, i.size, i.bytes)) = some (some z, C, bytes)) (hzs : z.cells.size = C) (hsl : Try.prog.underlying sl = some (.slice e))
    (h1 : ∀ x, ∀ u ∈ cells x, u.oneCell' = true) {w : World} (ty : TypeId) (base : Nat) (v : Value) (L : List α) (hown : OwnR e C cells w base v L) (g : Nat) (n : α) (hr : Blk w g e (cells n).toArray) (hlen : L.length + 1 ≤ 2 ^ 30) (hbase : base ≤ w.heap.size) :
    ∃ v' w', (Builtin.append_ #[sl, sl] ty #[v, .slice (some ⟨g, 0, none⟩) 1 1]).run Try.prog w = .ok v' w' ∧ OwnR e C cells w' base v' (L ++ [n]) ∧ w.grownBy w' v.ownBlock ∧ (v'.ownBlock = v.ownBlock ∨ v'.ownBlock = some w.heap.size) := by
  obtain ⟨i0, hi, hz0, hz1, hz2⟩ := info_parts hinfo
  obtain ⟨v', w', h, h2, h3, h4⟩ := run_append_any (P := Try.prog) w base sl ty e i0 z C bytes hsl hi hz0 hz1 hz2 hzs hC0 v L.length (L.flatMap cells) hown (g + 1) (some ⟨g, 0, none⟩) 1 1 (cells n)
    ⟨by rw [hC]; omega, fun _ => ⟨g, 0, rfl, Nat.lt_succ_self _, fun j y hj => by rw [Nat.zero_add, hr.cell j, ← hj]; simp⟩⟩ (h1 n) (by unfold maxLen; omega)
    (Nat.le_trans (Nat.mul_le_mul hlen hbytes) (by decide)) hbase
  exact ⟨v', w', h, by simpa [OwnR, List.flatMap_append] using h2, h3, h4⟩

theorem flatLenR {α : Type} (cells : α → List Value) (C : Nat) (hC : ∀ x, (cells x).length = C) (l : List α) : (l.flatMap cells).length = l.length * C := by
  induction l with
  | nil => simp
  | cons c l ih => simp only [List.flatMap_cons, List.length_append, ih, hC, List.length_cons, Nat.add_mul]; omega

end Go.Proofs.Ytpnbibokddhheaa

/-
  append of rows of structs behind a row that the call made itself.
-/
namespace Go.Proofs.Ytpnbibokddhheaa
open Go.RowKit

theorem rows_reads {α : Type} {C : Nat} {cells : α → List Value} (hC : ∀ x, (cells x).length = C) (hC0 : 0 < C) {w : World} {B : Nat} {A : Option Addr} {M : List α} (hM : RowsAt C cells w B A M) : Reads w B C A M.length (M.flatMap cells) := by
  refine ⟨flatLenR cells C hC M, fun hp => ?_⟩
  obtain ⟨b, o, e, hb, hc⟩ := hM hp
  refine ⟨b, o, e, hb, fun j u hu => ?_⟩
  have hj : j < M.length * C := by rw [← flatLenR cells C hC M]; exact (List.getElem?_eq_some_iff.1 hu).1
  have hk : j / C < M.length := Nat.div_lt_of_lt_mul (by rw [Nat.mul_comm]; exact hj)
  have hi : j % C < C := Nat.mod_lt _ hC0
  have e1 := flatR cells C hC M (j / C) (j % C) hk hi
  have e2 : j / C * C + j % C = j := by rw [Nat.mul_comm]; exact Nat.div_add_mod j C
  rw [e2, hu] at e1
  have := hc (j / C) hk (j % C) u hi e1.symm
  rw [show o + j / C * C + j % C = o + j by omega] at this
  exact this
theorem app_rows {α : Type} {e sl : TypeId} {C bytes : Nat} (cells : α → List Value) (hC : ∀ x, (cells x).length = C) (hC0 : 0 < C) (hbytes : bytes ≤ 1000) {z : Value} (hinfo : (Try.prog.info? e).map (fun i => (i.zero, i.size, i.bytes)) = some (some z, C, bytes)) (hzs : z.cells.size = C) (hsl : Try.prog.underlying sl = some (.slice e))
    (h1 : ∀ x, ∀ u ∈ cells x, u.oneCell' = true)
    {w : World} {ops : Array Oper} {rest : List Oper} {o : Oper} {a : Act} {Q : Exit → Act → World → Prop} (hgd : o.guard = none) (s x : Operand)
    (ho : o.op = .call { callee := .builtin .append, args := #[s, x], argTypes := #[sl, sl] })
    (base : Nat) (v : Value) (L : List α) (hs : a.eval s = v) (hown : OwnR e C cells w base v L) (A : Option Addr) (c m : Nat) (M : List α) (hm : m = M.length) (hx : a.eval x = .slice A m c) (hM : RowsAt C cells w w.heap.size A M)
    (hlen : L.length + M.length ≤ 2 ^ 30) (hbase : base ≤ w.heap.size)
    (h : ∀ v' w', OwnR e C cells w' base v' (L ++ M) → w.grownBy w' v.ownBlock → (v'.ownBlock = v.ownBlock ∨ v'.ownBlock = some w.heap.size) → wpList Try.prog ops Q rest (a.put o.dst v') w') : wpList Try.prog ops Q (o :: rest) a w := by
  subst hm
  obtain ⟨i0, hi, hz0, hz1, hz2⟩ := info_parts hinfo
  refine wpList_append_any _ hgd s x _ ho base e i0 z C bytes hsl hi hz0 hz1 hz2 hzs hC0 v L.length (L.flatMap cells) hs hown w.heap.size A M.length c (M.flatMap cells) hx (rows_reads hC hC0 hM) ?_ (by unfold maxLen; omega) ?_ hbase ?_
  · intro u hu
    obtain ⟨y, _, hy⟩ := List.mem_flatMap.1 hu
    exact h1 y u hy
  · calc (L.length + M.length) * bytes ≤ 2 ^ 30 * 1000 := Nat.mul_le_mul hlen hbytes
      _ ≤ 140737488355328 := by decide
  · intro v' w' h2 h3 h4
    refine h v' w' ?_ h3 h4
    unfold OwnR
    rw [List.length_append, List.flatMap_append]
    exact h2
theorem rows_take {α : Type} {C : Nat} {cells : α → List Value} {w : World} {B : Nat} {A : Option Addr} {M : List α} (hM : RowsAt C cells w B A M) (n : Nat) : RowsAt C cells w B A (M.take n) := by
  intro h0
  rw [List.length_take] at h0
  obtain ⟨b, o, e, hb, hc⟩ := hM (by omega)
  refine ⟨b, o, e, hb, fun k hk i u hi hu => ?_⟩
  rw [List.length_take] at hk
  rw [List.getElem_take] at hu
  exact hc k (by omega) i u hi hu

end Go.Proofs.Ytpnbibokddhheaa

/-
  Heads, numbers, truths: opened from what was handed in; a struct's fields, one by one.
-/
namespace Go.Proofs.Ytpnbibokddhheaa
open Go.ChangeShapes Go.WideShapes Go.RowKit Go.Deep Go.Joins

structure Hd where
  age : Int
  kind : Int
  id : Int
  adv : Int
  seq : Int
  sum : Int
  long : Int
deriving DecidableEq
def Hd.cells (h : Hd) : List Value := [.int .i64 h.age, .int .i64 h.kind, .int .i64 h.id, .int .i64 h.adv, .int .i64 h.seq, .int .i64 h.sum, .int .i64 h.long]

section
variable {H : Type} {enc : TypeId × Value → H} {w : World} {base : Nat} {spare : Nat → Bool} {held : Bool}
theorem cofInt : Try.prog.cellsOf 3 = 1 := by kernel_rfl
theorem cofBool : Try.prog.cellsOf 4 = 1 := by kernel_rfl
theorem cofHead : Try.prog.cellsOf 34 = 7 := by kernel_rfl
theorem tint {n : Nat} {v : Value} {y : DataW H × List MemPlace} (h : DataW.trod enc Try.prog w base spare held n 3 [v] = some y) : ∃ z : Int, v = .int .i64 z := by
  obtain ⟨z, e, _⟩ := dec_int Try.underlying3 h
  exact ⟨z, e⟩
theorem tbool {n : Nat} {v : Value} {y : DataW H × List MemPlace} (h : DataW.trod enc Try.prog w base spare held n 4 [v] = some y) : ∃ b : Bool, v = .bool b := by
  obtain ⟨b, e, _⟩ := DataW.trod_bool Try.underlying4 h
  exact ⟨b, by simpa using e⟩
/-- a struct's fields, one by one -/
theorem dec_fields {t : TypeId} {fs : Array Field} {n : Nat} {cs : List Value} {x : DataW H × List MemPlace} (ht : Try.prog.underlying t = some (.struct fs)) (h : DataW.trod enc Try.prog w base spare held n t cs = some x) :
    cs.length = Try.prog.cellsOf t ∧ ∃ m, ∀ (j : Nat) (f : Field), fs[j]? = some f → ∃ y, DataW.trod enc Try.prog w base spare held m f.type ((cs.drop f.offset).take (Try.prog.cellsOf f.type)) = some y := by
  obtain ⟨xs, m, _, _, hl, hlen, hf⟩ := DataW.trod_struct ht h
  refine ⟨hl, m, fun j f hj => ?_⟩
  have hjl : j < xs.length := by rw [hlen]; exact (Array.getElem?_eq_some_iff.1 hj).1
  exact ⟨xs[j], (hf j f hj).trans (List.getElem?_eq_getElem hjl)⟩
theorem fld {fs : Array Field} {m : Nat} {cs : List Value} (hf : ∀ (j : Nat) (f : Field), fs[j]? = some f → ∃ y, DataW.trod enc Try.prog w base spare held m f.type ((cs.drop f.offset).take (Try.prog.cellsOf f.type)) = some y)
    (j : Nat) (t : TypeId) (o k : Nat) (part : List Value) (hj : (fs[j]?).map (fun f => (f.type, f.offset)) = some (t, o)) (hk : Try.prog.cellsOf t = k) (hp : (cs.drop o).take k = part) : ∃ y, DataW.trod enc Try.prog w base spare held m t part = some y := by
  rcases h : fs[j]? with _ | f
  · rw [h] at hj; simp at hj
  · rw [h] at hj
    simp at hj
    obtain ⟨y, hy⟩ := hf j f h
    rw [hj.1, hj.2, hk, hp] at hy
    exact ⟨y, hy⟩
set_option maxRecDepth 100000 in
theorem dec_head {n : Nat} {cs : List Value} {x : DataW H × List MemPlace} (h : DataW.trod enc Try.prog w base spare held n 34 cs = some x) : ∃ d : Hd, cs = d.cells ∧ True := by
  obtain ⟨hl, m, hf⟩ := dec_fields Try.underlying34 h
  rw [cofHead] at hl
  match cs, hl with
  | [c0, c1, c2, c3, c4, c5, c6], _ =>
    obtain ⟨_, t0⟩ := fld hf 0 3 0 1 [c0] (by kernel_rfl) cofInt rfl
    obtain ⟨_, t1⟩ := fld hf 1 3 1 1 [c1] (by kernel_rfl) cofInt rfl
    obtain ⟨_, t2⟩ := fld hf 2 3 2 1 [c2] (by kernel_rfl) cofInt rfl
    obtain ⟨_, t3⟩ := fld hf 3 3 3 1 [c3] (by kernel_rfl) cofInt rfl
    obtain ⟨_, t4⟩ := fld hf 4 3 4 1 [c4] (by kernel_rfl) cofInt rfl
    obtain ⟨_, t5⟩ := fld hf 5 3 5 1 [c5] (by kernel_rfl) cofInt rfl
    obtain ⟨_, t6⟩ := fld hf 6 3 6 1 [c6] (by kernel_rfl) cofInt rfl
    obtain ⟨z0, rfl⟩ := tint t0
    obtain ⟨z1, rfl⟩ := tint t1
    obtain ⟨z2, rfl⟩ := tint t2
    obtain ⟨z3, rfl⟩ := tint t3
    obtain ⟨z4, rfl⟩ := tint t4
    obtain ⟨z5, rfl⟩ := tint t5
    obtain ⟨z6, rfl⟩ := tint t6
    exact ⟨⟨z0, z1, z2, z3, z4, z5, z6⟩, rfl, trivial⟩
end

end Go.Proofs.Ytpnbibokddhheaa

/-
  What all frames ask.
-/
namespace Go.Proofs.Ytpnbibokddhheaa
open Go.ChangeShapes Go.WideShapes Go.RowKit Go.Deep Go.Joins

theorem own : ownKnob Try.prog.godebug = none := by kernel_rfl
theorem laidOut : laidOutB Try.prog = true := by kernel_rfl
theorem u8_nat {b : Int} (h : (Lit.int .u8 b).wf = true) : ∃ a : Nat, b = (a : Int) ∧ a ≤ 255 := by
  have hmin : IntKind.u8.min = 0 := rfl
  have hmax : IntKind.u8.max = 255 := rfl
  simp only [Lit.wf, Bool.and_eq_true, decide_eq_true_eq] at h
  exact ⟨b.toNat, by omega, by omega⟩
end Go.Proofs.Ytpnbibokddhheaa

/-
  Descriptions, and their links: as Lean values, and opened from what was handed in.
-/
namespace Go.Proofs.Ytpnbibokddhheaa
open Go.ChangeShapes Go.WideShapes Go.RowKit Go.Deep Go.Joins

def iwf (z : Int) : Prop := (Lit.int .i64 z).wf = true
structure Lnk where
  kind : Int
  id : Int
  data : Int
  cost : Int
deriving DecidableEq
instance : Inhabited Lnk := ⟨⟨0, 0, 0, 0⟩⟩
def Lnk.cells (x : Lnk) : List Value := [.int .i64 x.kind, .int .i64 x.id, .int .i64 x.data, .int .i64 x.cost]
def Lnk.wf (x : Lnk) : Prop := iwf x.kind ∧ iwf x.id ∧ iwf x.data ∧ iwf x.cost
def Hd.wf (h : Hd) : Prop := iwf h.age ∧ iwf h.kind ∧ iwf h.id ∧ iwf h.adv ∧ iwf h.seq ∧ iwf h.sum ∧ iwf h.long
structure Lsa where
  head : Hd
  ka : Option Addr
  kcap : Nat
  links : List Lnk
  ma : Option Addr
  mcap : Nat
  members : List Int
instance : Inhabited Lsa := ⟨⟨⟨0, 0, 0, 0, 0, 0, 0⟩, none, 0, [], none, 0, []⟩⟩
def Lsa.cells (x : Lsa) : List Value := [.int .i64 x.head.age, .int .i64 x.head.kind, .int .i64 x.head.id, .int .i64 x.head.adv, .int .i64 x.head.seq, .int .i64 x.head.sum, .int .i64 x.head.long, .slice x.ka x.links.length x.kcap, .slice x.ma x.members.length x.mcap]
structure Lsa.ok (w : World) (B : Nat) (x : Lsa) : Prop where
  head : x.head.wf
  links : RowsAt 4 Lnk.cells w B x.ka x.links
  linksWf : ∀ y ∈ x.links, y.wf
  members : RowsAt 1 icell w B x.ma x.members
  membersWf : ∀ y ∈ x.members, iwf y
  linksLen : x.links.length ≤ maxLen
  membersLen : x.members.length ≤ maxLen
structure LsasAt (w : World) (B : Nat) (A : Option Addr) (l : List Lsa) : Prop where
  rows : RowsAt 9 Lsa.cells w B A l
  each : ∀ x ∈ l, x.ok w B
section
variable {w w' : World} {B B' : Nat} {A : Option Addr}
theorem Lsa.ok.below {x : Lsa} (h : x.ok w B) (hb : Below B w w') : x.ok w' B := ⟨h.head, h.links.below hb, h.linksWf, h.members.below hb, h.membersWf, h.linksLen, h.membersLen⟩
theorem Lsa.ok.more {x : Lsa} (h : x.ok w B) (hB : B ≤ B') : x.ok w B' := ⟨h.head, h.links.more hB, h.linksWf, h.members.more hB, h.membersWf, h.linksLen, h.membersLen⟩
theorem LsasAt.below {l : List Lsa} (h : LsasAt w B A l) (hb : Below B w w') : LsasAt w' B A l := ⟨h.rows.below hb, fun x hx => (h.each x hx).below hb⟩
theorem LsasAt.more {l : List Lsa} (h : LsasAt w B A l) (hB : B ≤ B') : LsasAt w B' A l := ⟨h.rows.more hB, fun x hx => (h.each x hx).more hB⟩
end
section
variable {H : Type} {enc : TypeId × Value → H} {w : World} {base : Nat} {spare : Nat → Bool} {held : Bool}
theorem tintw {n : Nat} {v : Value} {y : DataW H × List MemPlace} (h : DataW.trod enc Try.prog w base spare held n 3 [v] = some y) : ∃ z : Int, v = .int .i64 z ∧ iwf z := dec_int Try.underlying3 h
theorem cofLink : Try.prog.cellsOf 127 = 4 := by kernel_rfl
theorem cofLsa : Try.prog.cellsOf 38 = 9 := by kernel_rfl
theorem cofInts : Try.prog.cellsOf 36 = 1 := by kernel_rfl
theorem cofLinks : Try.prog.cellsOf 35 = 1 := by kernel_rfl
set_option maxRecDepth 100000 in
theorem dec_icell {n : Nat} {cs : List Value} {x : DataW H × List MemPlace} (h : DataW.trod enc Try.prog w base spare held n 3 cs = some x) : ∃ d : Int, cs = icell d ∧ iwf d := by
  obtain ⟨z, e, _, hw⟩ := DataW.trod_int Try.underlying3 h
  exact ⟨z, e, hw⟩
set_option maxRecDepth 100000 in
theorem dec_headw {n : Nat} {cs : List Value} {x : DataW H × List MemPlace} (h : DataW.trod enc Try.prog w base spare held n 34 cs = some x) : ∃ d : Hd, cs = d.cells ∧ d.wf := by
  obtain ⟨hl, m, hf⟩ := dec_fields Try.underlying34 h
  rw [cofHead] at hl
  match cs, hl with
  | [c0, c1, c2, c3, c4, c5, c6], _ =>
    obtain ⟨_, t0⟩ := fld hf 0 3 0 1 [c0] (by kernel_rfl) cofInt rfl
    obtain ⟨_, t1⟩ := fld hf 1 3 1 1 [c1] (by kernel_rfl) cofInt rfl
    obtain ⟨_, t2⟩ := fld hf 2 3 2 1 [c2] (by kernel_rfl) cofInt rfl
    obtain ⟨_, t3⟩ := fld hf 3 3 3 1 [c3] (by kernel_rfl) cofInt rfl
    obtain ⟨_, t4⟩ := fld hf 4 3 4 1 [c4] (by kernel_rfl) cofInt rfl
    obtain ⟨_, t5⟩ := fld hf 5 3 5 1 [c5] (by kernel_rfl) cofInt rfl
    obtain ⟨_, t6⟩ := fld hf 6 3 6 1 [c6] (by kernel_rfl) cofInt rfl
    obtain ⟨z0, rfl, w0⟩ := tintw t0
    obtain ⟨z1, rfl, w1⟩ := tintw t1
    obtain ⟨z2, rfl, w2⟩ := tintw t2
    obtain ⟨z3, rfl, w3⟩ := tintw t3
    obtain ⟨z4, rfl, w4⟩ := tintw t4
    obtain ⟨z5, rfl, w5⟩ := tintw t5
    obtain ⟨z6, rfl, w6⟩ := tintw t6
    exact ⟨⟨z0, z1, z2, z3, z4, z5, z6⟩, rfl, w0, w1, w2, w3, w4, w5, w6⟩
set_option maxRecDepth 100000 in
theorem dec_link {n : Nat} {cs : List Value} {x : DataW H × List MemPlace} (h : DataW.trod enc Try.prog w base spare held n 127 cs = some x) : ∃ d : Lnk, cs = d.cells ∧ d.wf := by
  obtain ⟨hl, m, hf⟩ := dec_fields Try.underlying127 h
  rw [cofLink] at hl
  match cs, hl with
  | [c0, c1, c2, c3], _ =>
    obtain ⟨_, t0⟩ := fld hf 0 3 0 1 [c0] (by kernel_rfl) cofInt rfl
    obtain ⟨_, t1⟩ := fld hf 1 3 1 1 [c1] (by kernel_rfl) cofInt rfl
    obtain ⟨_, t2⟩ := fld hf 2 3 2 1 [c2] (by kernel_rfl) cofInt rfl
    obtain ⟨_, t3⟩ := fld hf 3 3 3 1 [c3] (by kernel_rfl) cofInt rfl
    obtain ⟨z0, rfl, w0⟩ := tintw t0
    obtain ⟨z1, rfl, w1⟩ := tintw t1
    obtain ⟨z2, rfl, w2⟩ := tintw t2
    obtain ⟨z3, rfl, w3⟩ := tintw t3
    exact ⟨⟨z0, z1, z2, z3⟩, rfl, w0, w1, w2, w3⟩
set_option maxRecDepth 100000 in
theorem dec_lsa {n : Nat} {cs : List Value} {x : DataW H × List MemPlace} (h : DataW.trod enc Try.prog w base spare held n 38 cs = some x) : ∃ d : Lsa, cs = d.cells ∧ d.ok w w.heap.size := by
  obtain ⟨hl, m, hf⟩ := dec_fields Try.underlying38 h
  rw [cofLsa] at hl
  match cs, hl with
  | [c0, c1, c2, c3, c4, c5, c6, c7, c8], _ =>
    obtain ⟨_, t0⟩ := fld hf 0 34 0 7 [c0, c1, c2, c3, c4, c5, c6] (by kernel_rfl) cofHead rfl
    obtain ⟨_, t1⟩ := fld hf 1 35 7 1 [c7] (by kernel_rfl) cofLinks rfl
    obtain ⟨_, t2⟩ := fld hf 2 36 8 1 [c8] (by kernel_rfl) cofInts rfl
    obtain ⟨d, hd, hw⟩ := dec_headw t0
    obtain ⟨ka, kcap, kl, hk, hkr, hkm, hkw⟩ := open_rows (C := 4) Lnk.cells Lnk.wf (by decide) Try.underlying35 cofLink (fun _ _ _ h => dec_link h) t1
    obtain ⟨ma, mcap, ml, hm, hmr, hmm, hmw⟩ := open_rows (C := 1) icell iwf (by decide) Try.underlying36 cofInt (fun _ _ _ h => dec_icell h) t2
    refine ⟨⟨d, ka, kcap, kl, ma, mcap, ml⟩, ?_, hw, hkr, hkw, hmr, hmw, hkm, hmm⟩
    rcases d with ⟨d0, d1, d2, d3, d4, d5, d6⟩
    simp [Hd.cells] at hd
    simp at hk hm
    simp [Lsa.cells, hd, hk, hm]
theorem open_lsas {a : Option Addr} {len cap : Nat} {d : DataW H} {p : List MemPlace} (h : DataW.Trod enc Try.prog w base spare held 22 (.slice a len cap) d p) :
    ∃ l : List Lsa, len = l.length ∧ LsasAt w w.heap.size a l ∧ l.length ≤ maxLen := by
  obtain ⟨n, hn⟩ := h
  obtain ⟨A, c, R, he, hr, hm, hok⟩ := open_rows (C := 9) Lsa.cells (Lsa.ok w w.heap.size) (by decide) Try.underlying22 cofLsa (fun _ _ _ h => dec_lsa h) hn
  simp [Value.cells] at he
  obtain ⟨rfl, rfl, rfl⟩ := he
  exact ⟨R, rfl, ⟨hr, hok⟩, hm⟩
end

end Go.Proofs.Ytpnbibokddhheaa
