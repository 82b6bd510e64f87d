/-
  Sums by Fletcher: the program's way.
-/
import Derived.Laws.ComplexArith
import Derived.Test.YtmjjmkdjjfmhhaaFltExact
import Derived.Test.YtmjjmkdjjfmhhaaFletP
import Derived.Test.YtmjjmkdjjfmhhaaLsQuad
namespace Go.Proofs.Ytmjjmkdjjfmhhaa
open Go.RowKit

theorem held_em (n : Int) : (n.tmod 255 + 255) % 255 = n % 255 := by
  rcases Int.le_total 0 n with hp | hp
  · rw [Int.tmod_eq_emod_of_nonneg hp]
    omega
  · have e : n.tmod 255 = -((-n) % 255) := by
      rw [← Int.tmod_eq_emod_of_nonneg (show 0 ≤ -n by omega), Int.neg_tmod, Int.neg_neg]
    rw [e]
    omega
theorem tmod_small (n : Int) : -255 < n.tmod 255 ∧ n.tmod 255 < 255 := by
  rcases Int.le_total 0 n with hp | hp
  · rw [Int.tmod_eq_emod_of_nonneg hp]; omega
  · have e : n.tmod 255 = -((-n) % 255) := by
      rw [← Int.tmod_eq_emod_of_nonneg (show 0 ≤ -n by omega), Int.neg_tmod, Int.neg_neg]
    rw [e]; omega
set_option maxHeartbeats 1000000 in
theorem held_v (n : Int) {m : Int} (hm : n % 255 = m) (w : World) : Calls Try.prog 164 #[.int .i64 n] w fun r w' => r = .returned (.int .i64 m) ∧ w = w' := by
  obtain ⟨t1, t2⟩ := tmod_small n
  have hm : (n.tmod 255 + 255) % 255 = m := (held_em n).trans hm
  have Hm := Lib.hid hm
  clear hm
  go_enter Try.func164, Try.ntmps164
  go_wp2
  go_ret
  refine ⟨?_, rfl⟩
  show Ending.returned (.int .i64 ((n.tmod 255 + 255) % 255)) = _
  rw [Hm.out]
theorem f64Int (b : Nat) (n : Int) (h : floatToIntVal .f64 b .i64 = some n) (w : World) : (convert 165 3 (.float .f64 b)).run Try.prog w = .ok (.int .i64 n) w :=
  run_convert_float_int w 165 3 .f64 .i64 b n (by rw [Try.underlying165]; rfl) Try.underlying3 h
theorem cAdd (T : TypeId) (a b c d : Nat) (h1 : a + c < 2 ^ 53) (h2 : b + d < 2 ^ 53) (w : World) : (binOp .add T (.complex .f64 (flt a) (flt b)) (.complex .f64 (flt c) (flt d))).run Try.prog w = .ok (.complex .f64 (flt (a + c)) (flt (b + d))) w := by
  refine run_complex_sum w .add (.inl rfl) T .f64 _ _ _ _ _ _ ?_
  unfold cSumBits
  rw [flt_add _ _ h1, flt_add _ _ h2]
  rfl
theorem flt_zero : flt 0 = 0 := by rw [flt_eq 0 (by omega)]; rfl
def byteOk (x : Int) : Prop := 0 ≤ x ∧ x < 256
theorem row_byte {w : World} {B : Nat} {A : Option Addr} {l : List Int} (h : RowsAt 1 bcell w B A l) (k : Nat) (hk : k < l.length) :
    ∃ b o, A = some ⟨b, o, none⟩ ∧ b < B ∧ w.cell? ⟨b, o + k, none⟩ = some (.int .u8 l[k]) := by
  obtain ⟨b, o, e, hb, hc⟩ := h (by omega)
  exact ⟨b, o, e, hb, by simpa using hc k hk 0 _ (by omega) rfl⟩

set_option maxHeartbeats 4000000 in
set_option maxRecDepth 100000 in
theorem Sums_any (A : Option Addr) (c : Nat) (L : List Int) (w : World) (B : Nat) (hL : RowsAt 1 bcell w B A L) (hB : B ≤ w.heap.size) (hbs : ∀ x ∈ L, byteOk x) (hm : L.length ≤ 2 ^ 30) (n : Nat) (hn : n = L.length) :
    Calls Try.prog 163 #[.slice A n c] w fun r w' => r = .returned (.tuple #[.int .i64 (sumsF L).1, .int .i64 (sumsF L).2]) ∧ w = w' := by
  subst hn
  have HL := Lib.hid (hL.more hB)
  have Hbs := Lib.hid hbs
  have f0 := flt_zero
  clear hL hB hbs
  go_enter Try.func163, Try.ntmps163
  go_wp2
  go_loopw [4, 9] (fun cv i wr => ∃ (k a b : Nat), i = .int .i64 k ∧ cv = .complex .f64 (flt a) (flt b) ∧ k ≤ L.length ∧ a < 255 ∧ b < 255 ∧ (L.take k).foldl stepF (0, 0) = ((a : Int), (b : Int)) ∧ wr = w) (fun _ i _ => L.length - (intOf i).toNat)
  case atStart => exact ⟨0, 0, 0, rfl, by rw [f0], Nat.zero_le _, by omega, by omega, rfl, rfl⟩
  case round =>
    obtain ⟨k, a, b, rfl, rfl, hk, ha, hb, hf, rfl⟩ := hrel
    clear f0
    by_cases hlt : k < L.length
    · obtain ⟨g, o, rfl, -, z0⟩ := row_byte HL.out k hlt
      have hkl : (k : Int) < (L.length : Int) := by omega
      obtain ⟨x, hx, hx2⟩ : ∃ x : Nat, L[k] = (x : Int) ∧ x < 256 := by
        have := Hbs.out L[k] (List.getElem_mem hlt)
        exact ⟨L[k].toNat, by have := this.1; omega, by have := this.2; have := this; omega⟩
      have hs : (L.take (k + 1)).foldl stepF (0, 0) = ((((a + x) % 255 : Nat) : Int), (((b + (a + x)) % 255 : Nat) : Int)) := by
        rw [List.take_succ_eq_append_getElem hlt, List.foldl_append, hf, hx]
        simp [stepF]
      rw [hx] at z0
      have Hs := Lib.hid hs
      clear hs hx hf
      have fx := flt_int x
      have c1 := fun T w => cAdd T a b x 0 (by omega) (by omega) w
      have c2 := fun T w => cAdd T (a + x) b 0 (a + x) (by omega) (by omega) w
      rw [flt_zero] at c1 c2
      obtain ⟨m1, hm1⟩ : ∃ m1 : Int, ((a + x : Nat) : Int) = m1 := ⟨_, rfl⟩
      obtain ⟨m2, hm2⟩ : ∃ m2 : Int, ((b + (a + x) : Nat) : Int) = m2 := ⟨_, rfl⟩
      have i1 := f64Int _ m1 (by rw [← hm1]; exact flt_toInt (a + x) (by omega))
      have i2 := f64Int _ m2 (by rw [← hm2]; exact flt_toInt (b + (a + x)) (by omega))
      obtain ⟨r1, hr1⟩ : ∃ r1 : Nat, (a + x) % 255 = r1 := ⟨_, rfl⟩
      obtain ⟨r2, hr2⟩ : ∃ r2 : Nat, (b + (a + x)) % 255 = r2 := ⟨_, rfl⟩
      have G1 := Lib.hid (show m1 % 255 = (r1 : Int) by rw [← hm1, ← hr1]; omega)
      have G2 := Lib.hid (show m2 % 255 = (r2 : Int) by rw [← hm2, ← hr2]; omega)
      have fr1 := flt_int r1
      have fr2 := flt_int r2
      rw [hr1, hr2] at Hs
      have L1 := Lib.hid (show r1 < 255 ∧ r2 < 255 by omega)
      clear hm1 hm2 hr1 hr2
      go_wp2_with (first
        | (go_at_call 164; (with_reducible refine Calls.mono (held_v m1 G1.out _) ?_); rintro r w2 ⟨rfl, rfl⟩)
        | (go_at_call 164; (with_reducible refine Calls.mono (held_v m2 G2.out _) ?_); rintro r w2 ⟨rfl, rfl⟩))
      go_roundw
      case measure => simp [intOf]; omega
      case rel => exact ⟨k + 1, r1, r2, by go_num, rfl, hlt, L1.out.1, L1.out.2, Hs.out, trivial⟩
    · have hkk : k = L.length := by omega
      subst hkk
      rw [List.take_length] at hf
      have hres : sumsF L = ((a : Int), (b : Int)) := hf
      have Hres := Lib.hid hres
      have i1 := f64Int _ (a : Int) (flt_toInt a (by omega))
      have i2 := f64Int _ (b : Int) (flt_toInt b (by omega))
      clear hf hres
      go_wp2
      go_ret2
      exact ⟨by rw [Hres.out]; rfl, rfl⟩

end Go.Proofs.Ytmjjmkdjjfmhhaa
