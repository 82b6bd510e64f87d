/-
  Sums by Fletcher, in plain words; the two bytes that make them nothing.
-/
import Derived.WalkKit
namespace Go.Proofs.Ytmjjmkdjjfmhhaa

def stepF (s : Int × Int) (x : Int) : Int × Int := ((s.1 + x) % 255, (s.2 + (s.1 + x)) % 255)
def sumsF (bs : List Int) : Int × Int := bs.foldl stepF (0, 0)
def secW : List Int → Int
  | [] => 0
  | x :: l => ((l.length : Int) + 1) * x + secW l
theorem sums_from (bs : List Int) : ∀ a b : Int, 0 ≤ a → a < 255 → 0 ≤ b → b < 255 → bs.foldl stepF (a, b) = ((a + bs.sum) % 255, (b + (bs.length : Int) * a + secW bs) % 255) := by
  induction bs with
  | nil =>
    intro a b h1 h2 h3 h4
    simp only [List.foldl_nil, List.sum_nil, List.length_nil, secW, Prod.mk.injEq]
    constructor <;> omega
  | cons x l ih =>
    intro a b h1 h2 h3 h4
    rw [List.foldl_cons]
    unfold stepF
    simp only
    have e1 : 0 ≤ (a + x) % 255 := by omega
    have e2 : (a + x) % 255 < 255 := by omega
    have e3 : 0 ≤ (b + (a + x)) % 255 := by omega
    have e4 : (b + (a + x)) % 255 < 255 := by omega
    have := ih _ _ e1 e2 e3 e4
    unfold stepF at this
    rw [this]
    obtain ⟨p, hp⟩ : ∃ p, (a + x) % 255 = a + x - 255 * p := ⟨(a + x) / 255, by omega⟩
    obtain ⟨q, hq⟩ : ∃ q, (b + (a + x)) % 255 = b + (a + x) - 255 * q := ⟨(b + (a + x)) / 255, by omega⟩
    rw [hp, hq]
    simp only [List.sum_cons, List.length_cons, secW, Prod.mk.injEq]
    constructor
    · omega
    · have e : b + (a + x) - 255 * q + (l.length : Int) * (a + x - 255 * p) + secW l = b + ((l.length + 1 : Nat) : Int) * a + (((l.length : Int) + 1) * x + secW l) + 255 * (-(q + (l.length : Int) * p)) := by grind
      rw [e, Int.add_mul_emod_self_left]
theorem sums_eq (bs : List Int) : sumsF bs = (bs.sum % 255, secW bs % 255) := by
  unfold sumsF
  rw [sums_from bs 0 0 (by omega) (by omega) (by omega) (by omega)]
  simp
theorem secW_append (l m : List Int) : secW (l ++ m) = secW l + (m.length : Int) * l.sum + secW m := by
  induction l with
  | nil => simp [secW]
  | cons x l ih =>
    simp only [List.cons_append, secW, ih, List.length_append, List.sum_cons]
    grind
/-- what the two bytes add -/
theorem secW_two (pre post : List Int) (a b : Int) : (pre ++ a :: b :: post).sum = (pre ++ 0 :: 0 :: post).sum + a + b ∧ secW (pre ++ a :: b :: post) = secW (pre ++ 0 :: 0 :: post) + ((post.length : Int) + 2) * a + ((post.length : Int) + 1) * b := by
  constructor
  · simp only [List.sum_append, List.sum_cons]; omega
  · rw [secW_append, secW_append]
    simp only [secW, List.length_cons]
    grind
/-- the two bytes, of what is left behind the place, and the two sums -/
def fillA (k x y : Int) : Int := ((k - 1) * x - y) % 255
def fillB (k x y : Int) : Int := (y - k * x) % 255
def wholeP (bs : List Int) : Prop := bs.sum % 255 = 0 ∧ secW bs % 255 = 0
theorem fill_iff (pre post : List Int) (i : Int) (hi : 0 ≤ i) (hi2 : i < 255) :
    wholeP (pre ++ i :: ((510 - (pre ++ 0 :: 0 :: post).sum % 255 - i) % 255) :: post) ↔ i = fillA ((post.length : Int) + 2) ((pre ++ 0 :: 0 :: post).sum % 255) (secW (pre ++ 0 :: 0 :: post) % 255) := by
  unfold wholeP fillA
  obtain ⟨h1, h2⟩ := secW_two pre post i ((510 - (pre ++ 0 :: 0 :: post).sum % 255 - i) % 255)
  rw [h1, h2]
  generalize (pre ++ 0 :: 0 :: post).sum = S
  generalize secW (pre ++ 0 :: 0 :: post) = W
  generalize (post.length : Int) = n
  obtain ⟨p, hp⟩ : ∃ p, S = S % 255 + 255 * p := ⟨S / 255, by omega⟩
  obtain ⟨q, hq⟩ : ∃ q, W = W % 255 + 255 * q := ⟨W / 255, by omega⟩
  obtain ⟨x, hx⟩ : ∃ x, S % 255 = x := ⟨_, rfl⟩
  obtain ⟨y, hy⟩ : ∃ y, W % 255 = y := ⟨_, rfl⟩
  obtain ⟨r, hr⟩ : ∃ r, (510 - x - i) % 255 = 510 - x - i - 255 * r := ⟨(510 - x - i) / 255, by omega⟩
  rw [hx] at hp ⊢
  rw [hy] at hq ⊢
  rw [hr, hp, hq]
  have e1 : x + 255 * p + i + (510 - x - i - 255 * r) = 255 * (p + 2 - r) := by omega
  have e2 : y + 255 * q + (n + 2) * i + (n + 1) * (510 - x - i - 255 * r) = (i - ((n + 1) * x - y)) + 255 * (q + (n + 1) * (2 - r)) := by grind
  rw [e1, e2, Int.mul_emod_right, Int.add_mul_emod_self_left, show n + 2 - 1 = n + 1 by omega]
  generalize (n + 1) * x - y = z
  constructor
  · rintro ⟨-, h⟩
    omega
  · intro h
    exact ⟨rfl, by omega⟩
theorem fill_b (k x y : Int) : (510 - x - fillA k x y) % 255 = fillB k x y := by
  unfold fillA fillB
  have e : k * x = (k - 1) * x + x := by grind
  rw [e]
  generalize (k - 1) * x = z
  omega
end Go.Proofs.Ytmjjmkdjjfmhhaa
