/-
  Sums by Fletcher: the program's way.
-/
import Derived.Laws.ComplexArith
import Derived.Test.YtmjjmkdjjfmhhaaFltExact
import Derived.Test.YtmjjmkdjjfmhhaaFletP
import Derived.Test.YtmjjmkdjjfmhhaaLsClone
namespace Go.Proofs.Ytmjjmkdjjfmhhaa
open Go.RowKit

theorem held_em (n : Int) : (n.tmod 255 + 255) % 255 = n % 255 := by
  rcases Int.le_total 0 n with hp | hp
  · rw [Int.tmod_eq_emod_of_nonneg hp]
    omega
  · have e : n.tmod 255 = -((-n) % 255) := by
      rw [← Int.tmod_eq_emod_of_nonneg (show 0 ≤ -n by omega), Int.neg_tmod, Int.neg_neg]
    rw [e]
    omega
theorem tmod_small (n : Int) : -255 < n.tmod 255 ∧ n.tmod 255 < 255 := by
  rcases Int.le_total 0 n with hp | hp
  · rw [Int.tmod_eq_emod_of_nonneg hp]; omega
  · have e : n.tmod 255 = -((-n) % 255) := by
      rw [← Int.tmod_eq_emod_of_nonneg (show 0 ≤ -n by omega), Int.neg_tmod, Int.neg_neg]
    rw [e]; omega
set_option maxHeartbeats 1000000 in
theorem held_v (n : Int) {m : Int} (hm : n % 255 = m) (w : World) : Calls Try.prog 164 #[.int .i64 n] w fun r w' => r = .returned (.int .i64 m) ∧ w = w' := by
  obtain ⟨t1, t2⟩ := tmod_small n
  have hm : (n.tmod 255 + 255) % 255 = m := (held_em n).trans hm
  have Hm := Lib.hid hm
  clear hm
  go_enter Try.func164, Try.ntmps164
  go_wp2
  go_ret
  refine ⟨?_, rfl⟩
  show Ending.returned (.int .i64 ((n.tmod 255 + 255) % 255)) = _
  rw [Hm.out]
theorem f64Int (b : Nat) (n : Int) (h : floatToIntVal .f64 b .i64 = some n) (w : World) : (convert 165 3 (.float .f64 b)).run Try.prog w = .ok (.int .i64 n) w :=
  run_convert_float_int w 165 3 .f64 .i64 b n (by rw [Try.underlying165]; rfl) Try.underlying3 h
theorem cAdd (T : TypeId) (a b c d : Nat) (h1 : a + c < 2 ^ 53) (h2 : b + d < 2 ^ 53) (w : World) : (binOp .add T (.complex .f64 (flt a) (flt b)) (.complex .f64 (flt c) (flt d))).run Try.prog w = .ok (.complex .f64 (flt (a + c)) (flt (b + d))) w := by
  refine run_complex_sum w .add (.inl rfl) T .f64 _ _ _ _ _ _ ?_
  unfold cSumBits
  rw [flt_add _ _ h1, flt_add _ _ h2]
  rfl
theorem flt_zero : flt 0 = 0 := by rw [flt_eq 0 (by omega)]; rfl
def byteOk (x : Int) : Prop := 0 ≤ x ∧ x < 256
theorem row_byte {w : World} {B : Nat} {A : Option Addr} {l : List Int} (h : RowsAt 1 bcell w B A l) (k : Nat) (hk : k < l.length) :
    ∃ b o, A = some ⟨b, o, none⟩ ∧ b < B ∧ w.cell? ⟨b, o + k, none⟩ = some (.int .u8 l[k]) := by
  obtain ⟨b, o, e, hb, hc⟩ := h (by omega)
  exact ⟨b, o, e, hb, by simpa using hc k hk 0 _ (by omega) rfl⟩

set_option maxHeartbeats 4000000 in
set_option maxRecDepth 100000 in
theorem Sums_any (A : Option Addr) (c : Nat) (L : List Int) (w : World) (B : Nat) (hL : RowsAt 1 bcell w B A L) (hB : B ≤ w.heap.size) (hbs : ∀ x ∈ L, byteOk x) (hm : L.length ≤ 2 ^ 30) (n : Nat) (hn : n = L.length) :
    Calls Try.prog 163 #[.slice A n c] w fun r w' => r = .returned (.tuple #[.int .i64 (sumsF L).1, .int .i64 (sumsF L).2]) ∧ w = w' := by
  subst hn
  have HL := Lib.hid (hL.more hB)
  have Hbs := Lib.hid hbs
  have f0 := flt_zero
  clear hL hB hbs
  go_enter Try.func163, Try.ntmps163
  go_wp2
  go_loopw [4, 9] (fun cv i wr => ∃ (k a b : Nat), i = .int .i64 k ∧ cv = .complex .f64 (flt a) (flt b) ∧ k ≤ L.length ∧ a < 255 ∧ b < 255 ∧ (L.take k).foldl stepF (0, 0) = ((a : Int), (b : Int)) ∧ wr = w) (fun _ i _ => L.length - (intOf i).toNat)
  case atStart => exact ⟨0, 0, 0, rfl, by rw [f0], Nat.zero_le _, by omega, by omega, rfl, rfl⟩
  case round =>
    obtain ⟨k, a, b, rfl, rfl, hk, ha, hb, hf, rfl⟩ := hrel
    clear f0
    by_cases hlt : k < L.length
    · obtain ⟨g, o, rfl, -, z0⟩ := row_byte HL.out k hlt
      have hkl : (k : Int) < (L.length : Int) := by omega
      obtain ⟨x, hx, hx2⟩ : ∃ x : Nat, L[k] = (x : Int) ∧ x < 256 := by
        have := Hbs.out L[k] (List.getElem_mem hlt)
        exact ⟨L[k].toNat, by have := this.1; omega, by have := this.2; have := this; omega⟩
      have hs : (L.take (k + 1)).foldl stepF (0, 0) = ((((a + x) % 255 : Nat) : Int), (((b + (a + x)) % 255 : Nat) : Int)) := by
        rw [List.take_succ_eq_append_getElem hlt, List.foldl_append, hf, hx]
        simp [stepF]
      rw [hx] at z0
      have Hs := Lib.hid hs
      clear hs hx hf
      have fx := flt_int x
      have c1 := fun T w => cAdd T a b x 0 (by omega) (by omega) w
      have c2 := fun T w => cAdd T (a + x) b 0 (a + x) (by omega) (by omega) w
      rw [flt_zero] at c1 c2
      obtain ⟨m1, hm1⟩ : ∃ m1 : Int, ((a + x : Nat) : Int) = m1 := ⟨_, rfl⟩
      obtain ⟨m2, hm2⟩ : ∃ m2 : Int, ((b + (a + x) : Nat) : Int) = m2 := ⟨_, rfl⟩
      have i1 := f64Int _ m1 (by rw [← hm1]; exact flt_toInt (a + x) (by omega))
      have i2 := f64Int _ m2 (by rw [← hm2]; exact flt_toInt (b + (a + x)) (by omega))
      obtain ⟨r1, hr1⟩ : ∃ r1 : Nat, (a + x) % 255 = r1 := ⟨_, rfl⟩
      obtain ⟨r2, hr2⟩ : ∃ r2 : Nat, (b + (a + x)) % 255 = r2 := ⟨_, rfl⟩
      have G1 := Lib.hid (show m1 % 255 = (r1 : Int) by rw [← hm1, ← hr1]; omega)
      have G2 := Lib.hid (show m2 % 255 = (r2 : Int) by rw [← hm2, ← hr2]; omega)
      have fr1 := flt_int r1
      have fr2 := flt_int r2
      rw [hr1, hr2] at Hs
      have L1 := Lib.hid (show r1 < 255 ∧ r2 < 255 by omega)
      clear hm1 hm2 hr1 hr2
      go_wp2_with (first
        | (go_at_call 164; (with_reducible refine Calls.mono (held_v m1 G1.out _) ?_); rintro r w2 ⟨rfl, rfl⟩)
        | (go_at_call 164; (with_reducible refine Calls.mono (held_v m2 G2.out _) ?_); rintro r w2 ⟨rfl, rfl⟩))
      go_roundw
      case measure => simp [intOf]; omega
      case rel => exact ⟨k + 1, r1, r2, by go_num, rfl, hlt, L1.out.1, L1.out.2, Hs.out, trivial⟩
    · have hkk : k = L.length := by omega
      subst hkk
      rw [List.take_length] at hf
      have hres : sumsF L = ((a : Int), (b : Int)) := hf
      have Hres := Lib.hid hres
      have i1 := f64Int _ (a : Int) (flt_toInt a (by omega))
      have i2 := f64Int _ (b : Int) (flt_toInt b (by omega))
      clear hf hres
      go_wp2
      go_ret2
      exact ⟨by rw [Hres.out]; rfl, rfl⟩

end Go.Proofs.Ytmjjmkdjjfmhhaa

/-
  Two bytes that make sums nothing: the program's way.
-/
namespace Go.Proofs.Ytmjjmkdjjfmhhaa
open Go.RowKit

theorem set_flatB (l : List Int) (k : Nat) (x : Int) : (l.set k x).flatMap bcell = (l.flatMap bcell).set k (.int .u8 x) := by
  induction l generalizing k with
  | nil => simp
  | cons d l ih =>
    cases k with
    | zero => simp [bcell]
    | succ k => simp only [List.set_cons_succ, List.flatMap_cons, ih k, bcell, List.cons_append, List.nil_append]
section
variable {w : World} {B g cap n : Nat} {l : List Int}
theorem OwnB.set1 (h : OwnB w B (.slice (some ⟨g, 0, none⟩) n cap) l) (hn : n = l.length) (k : Nat) (x : Int) : OwnB (w.setCell ⟨g, k, none⟩ (.int .u8 x)) B (.slice (some ⟨g, 0, none⟩) n cap) (l.set k x) := by
  subst hn
  unfold OwnB OwnR
  rw [set_flatB, List.length_set]
  exact (World.ownsRow.stored h k (.int .u8 x)).1
theorem OwnB.at_ (h : OwnB w B (.slice (some ⟨g, 0, none⟩) n cap) l) (k : Nat) (hk : k < l.length) : w.cell? ⟨g, k, none⟩ = some (.int .u8 l[k]) ∧ w.frozen? ⟨g, k, none⟩ = false := by
  obtain ⟨b, o, e, -, z⟩ := row_byte (OwnR.rows (C := 1) (cells := bcell) (fun _ => rfl) h).2 k hk
  injection e with e
  injection e with e1 e2
  subst e1 e2
  refine ⟨by simpa using z, ?_⟩
  rcases h.2 with ⟨hv, -⟩ | ⟨g', cap', cur, hv, -, hb, -⟩
  · cases hv
  · simp only [Value.slice.injEq, Option.some.injEq, Addr.mk.injEq, and_true] at hv
    obtain ⟨rfl, -, -⟩ := hv
    simp [World.frozen?, hb]
theorem OwnB.lt (h : OwnB w B (.slice (some ⟨g, 0, none⟩) n cap) l) : B ≤ g ∧ g < w.heap.size := h.block g rfl
end
theorem own_pair {w : World} {B n : Nat} {v : Value} {L : List Int} (h : OwnR 5 1 bcell w B v ([] ++ L)) (hn : n = L.length) (h16 : 16 ≤ n) :
    ∃ g c a b, v = .slice (some ⟨g, 0, none⟩) n c ∧ OwnB w B (.slice (some ⟨g, 0, none⟩) n c) L ∧ w.cell? ⟨g, 14, none⟩ = some (.int .u8 a) ∧ w.frozen? ⟨g, 14, none⟩ = false ∧ w.cell? ⟨g, 15, none⟩ = some (.int .u8 b) ∧ w.frozen? ⟨g, 15, none⟩ = false := by
  rw [List.nil_append] at h
  subst hn
  rcases h.shape2 with ⟨-, h0⟩ | ⟨g, c5, rfl, hc5⟩
  · rw [h0] at h16; simp at h16
  · exact ⟨g, c5, _, _, rfl, h, (OwnB.at_ h 14 (by omega)).1, (OwnB.at_ h 14 (by omega)).2, (OwnB.at_ h 15 (by omega)).1, (OwnB.at_ h 15 (by omega)).2⟩
def zero2 (bs : List Int) : List Int := (bs.set 14 0).set 15 0
def bytA (bs : List Int) : Int := fillA ((bs.length : Int) - 14) (sumsF (zero2 bs)).1 (sumsF (zero2 bs)).2
def bytB (bs : List Int) : Int := fillB ((bs.length : Int) - 14) (sumsF (zero2 bs)).1 (sumsF (zero2 bs)).2
def fillL (bs : List Int) : List Int := ((zero2 bs).set 14 (bytA bs)).set 15 (bytB bs)
theorem sumsF_lt (bs : List Int) : 0 ≤ (sumsF bs).1 ∧ (sumsF bs).1 < 255 ∧ 0 ≤ (sumsF bs).2 ∧ (sumsF bs).2 < 255 := by
  rw [sums_eq]
  simp only
  omega
theorem zero2_ok {bs : List Int} (h : ∀ x ∈ bs, byteOk x) : ∀ x ∈ zero2 bs, byteOk x := by
  intro x hx
  unfold zero2 at hx
  rcases List.mem_or_eq_of_mem_set hx with hx | rfl
  · rcases List.mem_or_eq_of_mem_set hx with hx | rfl
    · exact h x hx
    · exact ⟨by omega, by omega⟩
  · exact ⟨by omega, by omega⟩

set_option maxHeartbeats 4000000 in
set_option maxRecDepth 100000 in
theorem Fill_any (A : Option Addr) (c : Nat) (L : List Int) (w : World) (B : Nat) (hL : RowsAt 1 bcell w B A L) (hB : B ≤ w.heap.size) (hbs : ∀ x ∈ L, byteOk x) (h16 : 16 ≤ L.length) (hm : L.length ≤ 2 ^ 20) (n : Nat) (hn : n = L.length) :
    Calls Try.prog 127 #[.slice A n c, .int .i64 14] w fun r w' => ∃ v, r = .returned (.tuple #[v, .bool true]) ∧ OwnB w' w.heap.size v (fillL L) ∧ Below w.heap.size w w' := by
  have HL := Lib.hid (hL.more hB)
  have Hbs := Lib.hid hbs
  have HE := Lib.hid (OwnR.nil (e := 5) (C := 1) (cells := bcell) w w.heap.size)
  have hnl : ¬(n : Int) - 2 < 14 := by omega
  have Hn := Lib.hid hn
  have hn2 : 16 ≤ n := by omega
  have hm2 : n ≤ 2 ^ 20 := by omega
  clear hL hB hbs hn h16 hm
  go_enter Try.func127, Try.ntmps127
  go_wp2_with (at_builtin; (refine app_rows (e := 5) bcell (fun _ => rfl) (by decide) (bytes := 1) (by decide) infoB rfl Try.underlying116 onesB (by rfl) _ _ (by rfl) w.heap.size _ [] (by rfl) HE.out A c n L Hn.out (by rfl) HL.out (by have := Hn.out; simp; omega) (Nat.le_refl _) ?_); intro v5 w5 hown5 hg5 hor5; have Hb5 := Lib.hid ((Below.refl w.heap.size w).grown hg5 (Nat.le_refl _) (fun j hj => (HE.out.block j hj).1)); obtain ⟨g, c5, a0, b0, rfl, hown6, z1, q1, z2, q2⟩ := own_pair hown5 Hn.out hn2; have Hown5 := Lib.hid hown6; clear hown5 hg5 hor5 hown6)
  have hown7 := (Hown5.out.set1 Hn.out 14 0).set1 (by rw [List.length_set]; exact Hn.out) 15 0
  have hgl := Hown5.out.lt
  have hb7 := (Hb5.out.setCell (p := ⟨g, 14, none⟩) hgl.1 (.int .u8 0)).setCell (p := ⟨g, 15, none⟩) hgl.1 (.int .u8 0)
  obtain ⟨w7, hW7⟩ : ∃ w7, (w5.setCell ⟨g, 14, none⟩ (.int .u8 0)).setCell ⟨g, 15, none⟩ (.int .u8 0) = w7 := ⟨_, rfl⟩
  rw [hW7] at hown7 hb7 ⊢
  have hzl : n = (zero2 L).length := by unfold zero2; rw [List.length_set, List.length_set]; exact Hn.out
  have hown7 : OwnB w7 w.heap.size (.slice (some ⟨g, 0, none⟩) n c5) (zero2 L) := hown7
  obtain ⟨a2, z3, q3⟩ : ∃ a2, w7.cell? ⟨g, 14, none⟩ = some (.int .u8 a2) ∧ w7.frozen? ⟨g, 14, none⟩ = false := ⟨_, hown7.at_ 14 (by omega)⟩
  obtain ⟨b2, z4, q4⟩ : ∃ b2, w7.cell? ⟨g, 15, none⟩ = some (.int .u8 b2) ∧ w7.frozen? ⟨g, 15, none⟩ = false := ⟨_, hown7.at_ 15 (by omega)⟩
  have hS := Sums_any (some ⟨g, 0, none⟩) c5 (zero2 L) w7 w7.heap.size (OwnR.rows (C := 1) (cells := bcell) (fun _ => rfl) hown7).2 (Nat.le_refl _) (zero2_ok Hbs.out) (by omega) n hzl
  obtain ⟨l1, l2, l3, l4⟩ := sumsF_lt (zero2 L)
  obtain ⟨x, hx⟩ : ∃ x, (sumsF (zero2 L)).1 = x := ⟨_, rfl⟩
  obtain ⟨y, hy⟩ : ∃ y, (sumsF (zero2 L)).2 = y := ⟨_, rfl⟩
  rw [hx, hy] at hS
  rw [hx] at l1 l2
  rw [hy] at l3 l4
  have hA : bytA L = ((((n : Int) - 14) - 1) * x - y) % 255 := by unfold bytA fillA; rw [hx, hy, Hn.out]
  have hBB : bytB L = (y - ((n : Int) - 14) * x) % 255 := by unfold bytB fillB; rw [hx, hy, Hn.out]
  have k1 : (0 : Int) ≤ ((n : Int) - 14 - 1) * x := Int.mul_nonneg (by omega) l1
  have k2 : ((n : Int) - 14 - 1) * x ≤ 2 ^ 20 * 255 := Int.mul_le_mul (by omega) (by omega) l1 (by omega)
  have k3 : (0 : Int) ≤ ((n : Int) - 14) * x := Int.mul_nonneg (by omega) l1
  have k4 : ((n : Int) - 14) * x ≤ 2 ^ 20 * 255 := Int.mul_le_mul (by omega) (by omega) l1 (by omega)
  have HS := Lib.hid hS
  have Hown7 := Lib.hid hown7
  have Hb7 := Lib.hid hb7
  have HA := Lib.hid hA
  have HBB := Lib.hid hBB
  clear hS hown7 hb7 hA hBB hx hy hW7 z1 q1 z2 q2 hzl hgl
  obtain ⟨a1, ha1⟩ : ∃ a1, bytA L = a1 := ⟨_, rfl⟩
  obtain ⟨b1, hb1⟩ : ∃ b1, bytB L = b1 := ⟨_, rfl⟩
  have Ha1 := Lib.hid ha1
  have Hb1 := Lib.hid hb1
  have e1 : a1 % 256 = a1 := by rw [← ha1, HA.out]; omega
  have e2 : b1 % 256 = b1 := by rw [← hb1, HBB.out]; omega
  clear ha1 hb1
  go_wp2_with fail
  with_reducible refine Calls.mono HS.out ?_
  rintro r w8 ⟨rfl, rfl⟩
  have HH1 := Lib.hid (fun w => held_v (((n : Int) - 14 - 1) * x - y) (m := a1) (by rw [← Ha1.out, HA.out]) w)
  have HH2 := Lib.hid (fun w => held_v (y - ((n : Int) - 14) * x) (m := b1) (by rw [← Hb1.out, HBB.out]) w)
  go_wp2_with (first
    | (go_at_call 164; (with_reducible refine Calls.mono (HH1.out _) ?_); rintro r w2 ⟨rfl, rfl⟩)
    | (go_at_call 164; (with_reducible refine Calls.mono (HH2.out _) ?_); rintro r w2 ⟨rfl, rfl⟩))
  go_ret2
  refine ⟨_, rfl, ?_, ?_⟩
  · have h1 := (Hown7.out.set1 (by unfold zero2; rw [List.length_set, List.length_set]; exact Hn.out) 14 a1).set1 (by unfold zero2; rw [List.length_set, List.length_set, List.length_set]; exact Hn.out) 15 b1
    unfold fillL
    rw [Ha1.out, Hb1.out]
    exact h1
  · exact (Hb7.out.setCell (p := ⟨g, 14, none⟩) (Hown7.out.lt).1 _).setCell (p := ⟨g, 15, none⟩) (Hown7.out.lt).1 _

end Go.Proofs.Ytmjjmkdjjfmhhaa
