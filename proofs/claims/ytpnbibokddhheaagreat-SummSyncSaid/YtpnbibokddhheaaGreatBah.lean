/-
  The document's numbers as bytes: its way.
-/
import Derived.Test.YtpnbibokddhheaaGreatBab
import Derived.Test.YtpnbibokddhheaaGreatBac
import Derived.Test.YtpnbibokddhheaaGreatBad
import Derived.Test.YtpnbibokddhheaaGreatBae
import Derived.Test.YtpnbibokddhheaaGreatBaf
namespace Go.Proofs.YtpnbibokddhheaaGreat
open Go.RowKit

set_option maxHeartbeats 1000000 in
theorem refWide_v (k : Nat) (h1 : 1 ≤ k) (h4 : k ≤ 4) (w : World) : Calls Tryz.prog 208 #[.int .i64 k] w fun r w' => r = .returned (.int .i64 k) ∧ w = w' := by
  have g1 : ¬ (k : Int) < 1 := by omega
  have g2 : ¬ (4 : Int) < k := by omega
  go_enter Tryz.func208, Tryz.ntmps208
  go_wp2
  go_ret
  exact ⟨rfl, rfl⟩
def sh8 (u : Int) : Nat → Int
  | 0 => u
  | q + 1 => sh8 u q / 256
theorem sh8_nn {u : Int} (h : 0 ≤ u) (q : Nat) : 0 ≤ sh8 u q := by
  induction q with
  | zero => exact h
  | succ q ih => unfold sh8; omega
theorem sh8_le {u : Int} (h : 0 ≤ u) (q : Nat) : sh8 u q ≤ u := by
  induction q with
  | zero => exact Int.le_refl _
  | succ q ih => have := sh8_nn h q; unfold sh8; omega
theorem sh8_byte (n : Int) : sh8 (n % 18446744073709551616) 0 % 256 = byteI n 0 ∧ sh8 (n % 18446744073709551616) 1 % 256 = byteI n 1 ∧ sh8 (n % 18446744073709551616) 2 % 256 = byteI n 2 ∧ sh8 (n % 18446744073709551616) 3 % 256 = byteI n 3 := by
  unfold sh8 sh8 sh8 sh8 byteI
  refine ⟨?_, ?_, ?_, ?_⟩
  all_goals (first | (simp; done) | (simp; omega))
def arr2 (n : Int) : Nat → Array Value
  | 0 => #[.int .u8 0, .int .u8 0]
  | 1 => #[.int .u8 0, .int .u8 (byteI n 0)]
  | _ => #[.int .u8 (byteI n 1), .int .u8 (byteI n 0)]
def arr4 (n : Int) : Nat → Array Value
  | 0 => #[.int .u8 0, .int .u8 0, .int .u8 0, .int .u8 0]
  | 1 => #[.int .u8 0, .int .u8 0, .int .u8 0, .int .u8 (byteI n 0)]
  | 2 => #[.int .u8 0, .int .u8 0, .int .u8 (byteI n 1), .int .u8 (byteI n 0)]
  | 3 => #[.int .u8 0, .int .u8 (byteI n 2), .int .u8 (byteI n 1), .int .u8 (byteI n 0)]
  | _ => #[.int .u8 (byteI n 3), .int .u8 (byteI n 2), .int .u8 (byteI n 1), .int .u8 (byteI n 0)]
theorem rows_blk {w : World} {g : Nat} {t : TypeId} {l : List Int} (h : Blk w g t (l.flatMap bcell).toArray) : RowsAt 1 bcell w w.heap.size (some ⟨g, 0, none⟩) l := by
  intro h0
  refine ⟨g, 0, rfl, h.lt, fun k hk i u hi hu => ?_⟩
  have hi0 : i = 0 := by omega
  subst hi0
  rw [h.cell]
  have e := flatR bcell 1 (fun _ => rfl) l k 0 hk (by decide)
  simp only [List.getElem?_toArray, Nat.zero_add]
  rw [e]
  exact hu
theorem wrap_u64 (z : Int) : IntKind.u64.wrap z = z % 18446744073709551616 := by simp [IntKind.wrap, IntKind.bits, IntKind.signed]
theorem bel2 (n : Int) : ((beL 2 n).flatMap bcell).toArray = arr2 n 2 := rfl
theorem bel4 (n : Int) : ((beL 4 n).flatMap bcell).toArray = arr4 n 4 := rfl
set_option maxHeartbeats 4000000 in
set_option maxRecDepth 100000 in
theorem refBytes2 (n : Int) (w : World) : Calls Tryz.prog 174 #[.int .i64 n, .int .i64 2] w fun r w' => ∃ g, r = .returned (.slice (some ⟨g, 0, none⟩) 2 2) ∧ w.heap.size ≤ g ∧ RowsAt 1 bcell w' w'.heap.size (some ⟨g, 0, none⟩) (beL 2 n) ∧ Below w.heap.size w w' := by
  have hmk : ∀ w : World, (Instr.makeSlice 24 (.int .i64 2) (.int .i64 2)).run Tryz.prog w = .ok (.slice (some ⟨w.heap.size, 0, none⟩) 2 2) (w.alloc (.cells #[.int .u8 0, .int .u8 0] 5)) := fun _ => by kernel_rfl
  obtain ⟨w1, hW1⟩ : ∃ w1, w.alloc (.cells #[.int .u8 0, .int .u8 0] 5) = w1 := ⟨_, rfl⟩
  have hk := Blk.new w 5 #[.int .u8 0, .int .u8 0]
  have hb := below_new w (.cells #[.int .u8 0, .int .u8 0] 5)
  rw [hW1] at hk hb
  have Hk := Lib.hid hk
  have Hb := Lib.hid hb
  obtain ⟨u, hu⟩ : ∃ u, IntKind.u64.wrap n = u := ⟨_, rfl⟩
  have hu9 : n % 18446744073709551616 = u := by rw [← hu, wrap_u64]
  have hu0 : 0 ≤ u := by omega
  have hu1 : u < 18446744073709551616 := by omega
  have Hby := Lib.hid (show _ ∧ _ from (by rw [← hu9]; exact sh8_byte n : sh8 u 0 % 256 = byteI n 0 ∧ sh8 u 1 % 256 = byteI n 1 ∧ sh8 u 2 % 256 = byteI n 2 ∧ sh8 u 3 % 256 = byteI n 3))
  have Hnn := Lib.hid (fun q => sh8_nn hu0 q)
  have Hle := Lib.hid (fun q => sh8_le hu0 q)
  have Hu := Lib.hid hu
  have Hlt := Lib.hid hu1
  clear hk hb hu9 hu0 hu1
  go_enter Tryz.func174, Tryz.ntmps174
  go_wp2_with (go_at_call 208; (with_reducible refine Calls.mono (refWide_v 2 (by decide) (by decide) _) ?_); rintro r w2 ⟨rfl, rfl⟩)
  clear hmk hW1
  go_loopw [6, 7] (fun v i wr => ∃ q : Nat, i = .int .i64 (1 - (q : Int)) ∧ v = .int .u64 (sh8 u q) ∧ q ≤ 2 ∧ Blk wr w.heap.size 5 (arr2 n q) ∧ Below w.heap.size w wr) (fun _ i _ => (intOf i + 1).toNat)
  case atStart => exact ⟨0, rfl, by rw [← Hu.out]; rfl, by decide, Hk.out, Hb.out⟩
  case round =>
    obtain ⟨q, rfl, rfl, hq, hk, hb⟩ := hrel
    have Hkr := Lib.hid hk
    have Hbr := Lib.hid hb
    have h1 := Hnn.out q
    have h2 := Hle.out q
    have h3 : sh8 u q < 18446744073709551616 := by have := Hlt.out; omega
    clear hu hb hk
    rcases (show q = 0 ∨ q = 1 ∨ q = 2 by omega) with rfl | rfl | rfl
    · rw [show (1 - ((0 : Nat) : Int)) = 1 from rfl]
      have z := Hkr.out.cell 1
      have zf := Hkr.out.frozen 1
      simp only [arr2, List.getElem?_toArray, List.getElem?_cons_zero, List.getElem?_cons_succ] at z
      go_wp2
      go_roundw
      case measure => simp [intOf]
      case rel => exact ⟨1, rfl, rfl, by decide, by rw [Hby.out.1]; have := Hkr.out.set_ 1 (.int .u8 (byteI n 0)); simpa [arr2] using this, Hbr.out.setCell (p := ⟨w.heap.size, 1, none⟩) (Nat.le_refl _) _⟩
    · rw [show (1 - ((1 : Nat) : Int)) = 0 from rfl]
      have z := Hkr.out.cell 0
      have zf := Hkr.out.frozen 0
      simp only [arr2, List.getElem?_toArray, List.getElem?_cons_zero] at z
      go_wp2
      go_roundw
      case measure => simp [intOf]
      case rel => exact ⟨2, rfl, rfl, by decide, by rw [Hby.out.2.1]; have := Hkr.out.set_ 0 (.int .u8 (byteI n 1)); simpa [arr2] using this, Hbr.out.setCell (p := ⟨w.heap.size, 0, none⟩) (Nat.le_refl _) _⟩
    · rw [show (1 - ((2 : Nat) : Int)) = -1 from rfl]
      go_wp2
      go_ret
      exact ⟨_, rfl, Nat.le_refl _, rows_blk (t := 5) (l := beL 2 n) (by rw [bel2]; exact Hkr.out), Hbr.out⟩
set_option maxHeartbeats 4000000 in
set_option maxRecDepth 100000 in
theorem refBytes4 (n : Int) (w : World) : Calls Tryz.prog 174 #[.int .i64 n, .int .i64 4] w fun r w' => ∃ g, r = .returned (.slice (some ⟨g, 0, none⟩) 4 4) ∧ w.heap.size ≤ g ∧ RowsAt 1 bcell w' w'.heap.size (some ⟨g, 0, none⟩) (beL 4 n) ∧ Below w.heap.size w w' := by
  have hmk : ∀ w : World, (Instr.makeSlice 24 (.int .i64 4) (.int .i64 4)).run Tryz.prog w = .ok (.slice (some ⟨w.heap.size, 0, none⟩) 4 4) (w.alloc (.cells #[.int .u8 0, .int .u8 0, .int .u8 0, .int .u8 0] 5)) := fun _ => by kernel_rfl
  obtain ⟨w1, hW1⟩ : ∃ w1, w.alloc (.cells #[.int .u8 0, .int .u8 0, .int .u8 0, .int .u8 0] 5) = w1 := ⟨_, rfl⟩
  have hk := Blk.new w 5 #[.int .u8 0, .int .u8 0, .int .u8 0, .int .u8 0]
  have hb := below_new w (.cells #[.int .u8 0, .int .u8 0, .int .u8 0, .int .u8 0] 5)
  rw [hW1] at hk hb
  have Hk := Lib.hid hk
  have Hb := Lib.hid hb
  obtain ⟨u, hu⟩ : ∃ u, IntKind.u64.wrap n = u := ⟨_, rfl⟩
  have hu9 : n % 18446744073709551616 = u := by rw [← hu, wrap_u64]
  have hu0 : 0 ≤ u := by omega
  have hu1 : u < 18446744073709551616 := by omega
  have Hby := Lib.hid (show _ ∧ _ from (by rw [← hu9]; exact sh8_byte n : sh8 u 0 % 256 = byteI n 0 ∧ sh8 u 1 % 256 = byteI n 1 ∧ sh8 u 2 % 256 = byteI n 2 ∧ sh8 u 3 % 256 = byteI n 3))
  have Hnn := Lib.hid (fun q => sh8_nn hu0 q)
  have Hle := Lib.hid (fun q => sh8_le hu0 q)
  have Hu := Lib.hid hu
  have Hlt := Lib.hid hu1
  clear hk hb hu9 hu0 hu1
  go_enter Tryz.func174, Tryz.ntmps174
  go_wp2_with (go_at_call 208; (with_reducible refine Calls.mono (refWide_v 4 (by decide) (by decide) _) ?_); rintro r w2 ⟨rfl, rfl⟩)
  clear hmk hW1
  go_loopw [6, 7] (fun v i wr => ∃ q : Nat, i = .int .i64 (3 - (q : Int)) ∧ v = .int .u64 (sh8 u q) ∧ q ≤ 4 ∧ Blk wr w.heap.size 5 (arr4 n q) ∧ Below w.heap.size w wr) (fun _ i _ => (intOf i + 1).toNat)
  case atStart => exact ⟨0, rfl, by rw [← Hu.out]; rfl, by decide, Hk.out, Hb.out⟩
  case round =>
    obtain ⟨q, rfl, rfl, hq, hk, hb⟩ := hrel
    have Hkr := Lib.hid hk
    have Hbr := Lib.hid hb
    have h1 := Hnn.out q
    have h2 := Hle.out q
    have h3 : sh8 u q < 18446744073709551616 := by have := Hlt.out; omega
    clear hu hb hk
    rcases (show q = 0 ∨ q = 1 ∨ q = 2 ∨ q = 3 ∨ q = 4 by omega) with rfl | rfl | rfl | rfl | rfl
    · rw [show (3 - ((0 : Nat) : Int)) = 3 from rfl]
      have z := Hkr.out.cell 3
      have zf := Hkr.out.frozen 3
      simp only [arr4, List.getElem?_toArray, List.getElem?_cons_zero, List.getElem?_cons_succ] at z
      go_wp2
      go_roundw
      case measure => simp [intOf]
      case rel => exact ⟨1, rfl, rfl, by decide, by rw [Hby.out.1]; have := Hkr.out.set_ 3 (.int .u8 (byteI n 0)); simpa [arr4] using this, Hbr.out.setCell (p := ⟨w.heap.size, 3, none⟩) (Nat.le_refl _) _⟩
    · rw [show (3 - ((1 : Nat) : Int)) = 2 from rfl]
      have z := Hkr.out.cell 2
      have zf := Hkr.out.frozen 2
      simp only [arr4, List.getElem?_toArray, List.getElem?_cons_zero, List.getElem?_cons_succ] at z
      go_wp2
      go_roundw
      case measure => simp [intOf]
      case rel => exact ⟨2, rfl, rfl, by decide, by rw [Hby.out.2.1]; have := Hkr.out.set_ 2 (.int .u8 (byteI n 1)); simpa [arr4] using this, Hbr.out.setCell (p := ⟨w.heap.size, 2, none⟩) (Nat.le_refl _) _⟩
    · rw [show (3 - ((2 : Nat) : Int)) = 1 from rfl]
      have z := Hkr.out.cell 1
      have zf := Hkr.out.frozen 1
      simp only [arr4, List.getElem?_toArray, List.getElem?_cons_zero, List.getElem?_cons_succ] at z
      go_wp2
      go_roundw
      case measure => simp [intOf]
      case rel => exact ⟨3, rfl, rfl, by decide, by rw [Hby.out.2.2.1]; have := Hkr.out.set_ 1 (.int .u8 (byteI n 2)); simpa [arr4] using this, Hbr.out.setCell (p := ⟨w.heap.size, 1, none⟩) (Nat.le_refl _) _⟩
    · rw [show (3 - ((3 : Nat) : Int)) = 0 from rfl]
      have z := Hkr.out.cell 0
      have zf := Hkr.out.frozen 0
      simp only [arr4, List.getElem?_toArray, List.getElem?_cons_zero] at z
      go_wp2
      go_roundw
      case measure => simp [intOf]
      case rel => exact ⟨4, rfl, rfl, by decide, by rw [Hby.out.2.2.2]; have := Hkr.out.set_ 0 (.int .u8 (byteI n 3)); simpa [arr4] using this, Hbr.out.setCell (p := ⟨w.heap.size, 0, none⟩) (Nat.le_refl _) _⟩
    · rw [show (3 - ((4 : Nat) : Int)) = -1 from rfl]
      go_wp2
      go_ret
      exact ⟨_, rfl, Nat.le_refl _, rows_blk (t := 5) (l := beL 4 n) (by rw [bel4]; exact Hkr.out), Hbr.out⟩

set_option maxHeartbeats 2000000 in
set_option maxRecDepth 100000 in
theorem refNumber2 (A : Option Addr) (c : Nat) (x y : Int) (w : World) (B : Nat) (hL : RowsAt 1 bcell w B A [x, y]) (hx : byteOk x) (hy : byteOk y) :
    Calls Tryz.prog 109 #[.slice A 2 c] w fun r w' => r = .returned (.int .i64 (x * 256 + y)) ∧ w = w' := by
  obtain ⟨g, o, rfl, -, z0⟩ := row_byte hL 0 (by simp)
  obtain ⟨g', o', e, -, z1⟩ := row_byte hL 1 (by simp)
  injection e with e
  injection e with e1 e2
  subst e1 e2
  simp only [List.getElem_cons_zero, List.getElem_cons_succ, Nat.add_zero] at z0 z1
  obtain ⟨hx1, hx2⟩ := hx
  obtain ⟨hy1, hy2⟩ := hy
  clear hL
  go_enter Tryz.func109, Tryz.ntmps109
  go_wp2
  refine wp_loop_rounds 3 ?_
  rw [rounds_succ]
  go_wp2
  rw [rounds_succ]
  go_wp2
  rw [rounds_succ]
  go_wp2
  go_ret
  exact ⟨by rw [Int.mul_comm 256]; rfl, rfl⟩

end Go.Proofs.YtpnbibokddhheaaGreat

/-
  The document's sums, and the two bytes found by a search: its way.
-/
namespace Go.Proofs.YtpnbibokddhheaaGreat
open Go.RowKit

theorem sum_bd {L : List Int} (h : ∀ x ∈ L, byteOk x) : 0 ≤ L.sum ∧ L.sum ≤ 255 * (L.length : Int) := by
  induction L with
  | nil => simp
  | cons x l ih =>
    have h1 := ih (fun y hy => h y (by simp [hy]))
    obtain ⟨h2, h3⟩ := h x (by simp)
    simp only [List.sum_cons, List.length_cons]
    omega
/-- the beginning of a sum in which each counts by how many stand from it on -/
def secT (n : Int) : List Int → Int
  | [] => 0
  | x :: l => n * x + secT (n - 1) l
theorem secT_all (L : List Int) : secT (L.length : Int) L = secW L := by
  induction L with
  | nil => rfl
  | cons x l ih =>
    simp only [secT, secW, List.length_cons]
    rw [show ((l.length + 1 : Nat) : Int) - 1 = (l.length : Int) by omega, ih]
    simp
theorem secT_snoc (l : List Int) (x : Int) : ∀ n : Int, secT n (l ++ [x]) = secT n l + (n - (l.length : Int)) * x := by
  induction l with
  | nil => intro n; simp [secT]
  | cons y l ih =>
    intro n
    simp only [List.cons_append, secT, ih, List.length_cons]
    rw [show n - 1 - (l.length : Int) = n - ((l.length + 1 : Nat) : Int) by omega]
    omega
theorem secT_bd {m : Int} (hm : 0 ≤ m) : ∀ {L : List Int} {n : Int}, (∀ x ∈ L, byteOk x) → (L.length : Int) ≤ n → n ≤ m → 0 ≤ secT n L ∧ secT n L ≤ (L.length : Int) * (m * 255)
  | [], n, _, _, _ => by simp [secT]
  | x :: l, n, h, h1, h2 => by
    simp only [List.length_cons] at h1
    obtain ⟨i1, i2⟩ := secT_bd hm (L := l) (n := n - 1) (fun y hy => h y (by simp [hy])) (by omega) (by omega)
    obtain ⟨h3, h4⟩ := h x (by simp)
    have k1 : 0 ≤ n * x := Int.mul_nonneg (by omega) h3
    have k2 : n * x ≤ m * 255 := Int.mul_le_mul h2 (by omega) h3 hm
    simp only [secT, List.length_cons]
    rw [show ((l.length + 1 : Nat) : Int) * (m * 255) = (l.length : Int) * (m * 255) + m * 255 by rw [Int.natCast_add, Int.add_mul]; simp]
    omega

set_option maxHeartbeats 2000000 in
set_option maxRecDepth 100000 in
theorem refFirst_any (A : Option Addr) (c : Nat) (L : List Int) (w : World) (B : Nat) (hL : RowsAt 1 bcell w B A L) (hbs : ∀ x ∈ L, byteOk x) (hm : L.length ≤ 2 ^ 20) (n : Nat) (hn : n = L.length) :
    Calls Tryz.prog 209 #[.slice A n c] w fun r w' => r = .returned (.int .i64 (L.sum % 255)) ∧ w = w' := by
  have HL := Lib.hid hL
  have Hbs := Lib.hid hbs
  have Hn := Lib.hid hn
  have hn2 : n ≤ 2 ^ 20 := by omega
  clear hL hbs hm hn
  go_enter Tryz.func209, Tryz.ntmps209
  go_wp2
  go_loop [3, 4] (fun v i => ∃ (k : Nat) (M : List Int), i = .int .i64 k ∧ v = .int .i64 M.sum ∧ k ≤ n ∧ M = L.take k) (fun _ i => n - (intOf i).toNat)
  case atStart => exact ⟨0, [], rfl, rfl, Nat.zero_le _, rfl⟩
  case round =>
    obtain ⟨k, M, rfl, rfl, hk, hM⟩ := hrel
    have hsb := sum_bd (L := M) (fun x hx => Hbs.out x (by rw [hM] at hx; exact List.mem_of_mem_take hx))
    have hml : M.length ≤ k := by rw [hM]; exact List.length_take_le _ _
    have HM := Lib.hid hM
    clear hM
    obtain ⟨s, hs⟩ : ∃ s, M.sum = s := ⟨_, rfl⟩
    rw [hs] at hsb ⊢
    have Hs := Lib.hid hs
    have hs0 : 0 ≤ s := hsb.1
    have hs1 : s ≤ 267386880 := by have := hsb.2; omega
    clear hs hsb hml
    by_cases hlt : k < n
    · obtain ⟨g, o, rfl, -, z0⟩ := row_byte HL.out k (by have := Hn.out; omega)
      have hb := Hbs.out (L[k]'(by have := Hn.out; omega)) (List.getElem_mem _)
      have hs := List.take_succ_eq_append_getElem (l := L) (i := k) (by have := Hn.out; omega)
      generalize L[k]'(by have := Hn.out; omega) = x at *
      obtain ⟨hb0, hb1⟩ := hb
      have HS := Lib.hid hs
      clear hs
      go_wp2
      go_round
      case measure => simp [intOf]; omega
      case rel => exact ⟨k + 1, M ++ [x], by go_num, by rw [List.sum_append, Hs.out]; simp, hlt, by rw [HS.out, HM.out]⟩
    · have hkk : k = n := by omega
      subst hkk
      go_wp2
      go_ret
      refine ⟨?_, rfl⟩
      rw [← Hs.out, HM.out, Hn.out, List.take_length]
      rfl

set_option maxHeartbeats 2000000 in
set_option maxRecDepth 100000 in
theorem refSecond_any (A : Option Addr) (c : Nat) (L : List Int) (w : World) (B : Nat) (hL : RowsAt 1 bcell w B A L) (hbs : ∀ x ∈ L, byteOk x) (hm : L.length ≤ 2 ^ 20) (n : Nat) (hn : n = L.length) :
    Calls Tryz.prog 222 #[.slice A n c] w fun r w' => r = .returned (.int .i64 (secW L % 255)) ∧ w = w' := by
  have HL := Lib.hid hL
  have Hbs := Lib.hid hbs
  have Hn := Lib.hid hn
  have hn2 : n ≤ 2 ^ 20 := by omega
  clear hL hbs hm hn
  go_enter Tryz.func222, Tryz.ntmps222
  go_wp2
  go_loop [3, 4] (fun v i => ∃ (k : Nat) (M : List Int), i = .int .i64 k ∧ v = .int .i64 (secT (n : Int) M) ∧ k ≤ n ∧ M = L.take k) (fun _ i => n - (intOf i).toNat)
  case atStart => exact ⟨0, [], rfl, rfl, Nat.zero_le _, rfl⟩
  case round =>
    obtain ⟨k, M, rfl, rfl, hk, hM⟩ := hrel
    have hml : M.length = k := by rw [hM, List.length_take]; have := Hn.out; omega
    have hsb := secT_bd (m := (2 : Int) ^ 20) (by decide) (L := M) (n := (n : Int)) (fun x hx => Hbs.out x (by rw [hM] at hx; exact List.mem_of_mem_take hx)) (by omega) (by omega)
    have HM := Lib.hid hM
    have Hml := Lib.hid hml
    rw [hml] at hsb
    clear hM hml
    obtain ⟨s, hs⟩ : ∃ s, secT (n : Int) M = s := ⟨_, rfl⟩
    rw [hs] at hsb ⊢
    have Hs := Lib.hid hs
    have hs0 : 0 ≤ s := hsb.1
    have hs1 : s ≤ 281474976710656 := by have := hsb.2; omega
    clear hs hsb
    by_cases hlt : k < n
    · obtain ⟨g, o, rfl, -, z0⟩ := row_byte HL.out k (by have := Hn.out; omega)
      have hb := Hbs.out (L[k]'(by have := Hn.out; omega)) (List.getElem_mem _)
      have hs := List.take_succ_eq_append_getElem (l := L) (i := k) (by have := Hn.out; omega)
      generalize L[k]'(by have := Hn.out; omega) = x at *
      obtain ⟨hb0, hb1⟩ := hb
      have k1 : (0 : Int) ≤ ((n : Int) - k) * x := Int.mul_nonneg (by omega) hb0
      have k2 : ((n : Int) - k) * x ≤ 2 ^ 20 * 255 := Int.mul_le_mul (by omega) (by omega) hb0 (by omega)
      have k3 : ((n : Int) - k) * x ≤ 267386880 := by omega
      have HS := Lib.hid hs
      clear hs k2
      go_wp2
      go_round
      case measure => simp [intOf]; omega
      case rel => exact ⟨k + 1, M ++ [x], by go_num, by rw [secT_snoc, Hs.out, Hml.out], hlt, by rw [HS.out, HM.out]⟩
    · have hkk : k = n := by omega
      subst hkk
      go_wp2
      go_ret
      refine ⟨?_, rfl⟩
      rw [← Hs.out, ← secT_all, HM.out, ← Hn.out, Hn.out, List.take_length]
      rfl

set_option maxHeartbeats 2000000 in
set_option maxRecDepth 100000 in
theorem refWhole_any (A : Option Addr) (c : Nat) (L : List Int) (w : World) (B : Nat) (hL : RowsAt 1 bcell w B A L) (hbs : ∀ x ∈ L, byteOk x) (hm : L.length ≤ 2 ^ 20) (n : Nat) (hn : n = L.length) (h0 : 0 < n) {t : Bool} (ht : (decide (L.sum % 255 = 0) && decide (secW L % 255 = 0)) = t) :
    Calls Tryz.prog 210 #[.slice A n c] w fun r w' => r = .returned (.bool t) ∧ w = w' := by
  have H1 := Lib.hid (refFirst_any A c L w B hL hbs hm n hn)
  have H2 := Lib.hid (refSecond_any A c L w B hL hbs hm n hn)
  obtain ⟨x, hx⟩ : ∃ x, L.sum % 255 = x := ⟨_, rfl⟩
  obtain ⟨y, hy⟩ : ∃ y, secW L % 255 = y := ⟨_, rfl⟩
  rw [hx, hy] at ht
  rw [hx] at H1
  rw [hy] at H2
  have g0 : (0 : Int) < (n : Int) := by omega
  clear hL hbs hm hn h0 hx hy
  by_cases hx : x = 0
  · subst hx
    by_cases hy : y = 0
    all_goals
      have ht2 := ht
      simp only [hy, decide_true, decide_false, Bool.and_true, Bool.and_false] at ht2
      subst ht2
      clear ht
      go_enter Tryz.func210, Tryz.ntmps210
      go_wp2_with (first
        | (go_at_call 209; (with_reducible refine Calls.mono H1.out ?_); rintro r w2 ⟨rfl, rfl⟩)
        | (go_at_call 222; (with_reducible refine Calls.mono H2.out ?_); rintro r w2 ⟨rfl, rfl⟩))
      go_ret
      refine ⟨?_, rfl⟩
      first
        | rfl
        | (show Ending.returned (.bool (y == 0)) = _; simp [hy])
  · simp only [hx, decide_false, Bool.false_and] at ht
    subst ht
    go_enter Tryz.func210, Tryz.ntmps210
    go_wp2_with (first
      | (go_at_call 209; (with_reducible refine Calls.mono H1.out ?_); rintro r w2 ⟨rfl, rfl⟩)
      | (go_at_call 222; (with_reducible refine Calls.mono H2.out ?_); rintro r w2 ⟨rfl, rfl⟩))
    go_ret
    exact ⟨rfl, rfl⟩

/-- a list with two others at the fourteenth and fifteenth place -/
def tw (L : List Int) (a b : Int) : List Int := L.take 14 ++ a :: b :: L.drop 16
theorem tw_len {L : List Int} (h : 16 ≤ L.length) (a b : Int) : (tw L a b).length = L.length := by
  simp only [tw, List.length_append, List.length_cons, List.length_take, List.length_drop]
  omega
theorem tw_of {L : List Int} (h : 16 ≤ L.length) (a b : Int) : (L.set 14 a).set 15 b = tw L a b := by
  apply List.ext_getElem?
  intro j
  unfold tw
  have hl : (L.take 14).length = 14 := by rw [List.length_take]; omega
  by_cases h1 : j < 14
  · rw [List.getElem?_append_left (by omega), List.getElem?_set_ne (by omega), List.getElem?_set_ne (by omega), List.getElem?_take_of_lt h1]
  · rw [List.getElem?_append_right (by omega), hl]
    by_cases h2 : j = 14
    · subst h2
      rw [List.getElem?_set_ne (by omega)]
      simp [List.getElem?_set]
      omega
    · by_cases h3 : j = 15
      · subst h3
        simp [List.getElem?_set]
        omega
      · rw [List.getElem?_set_ne (by omega), List.getElem?_set_ne (by omega)]
        obtain ⟨d, rfl⟩ : ∃ d, j = 16 + d := ⟨j - 16, by omega⟩
        rw [show 16 + d - 14 = d + 2 by omega]
        simp
theorem tw_tw {L : List Int} (h : 16 ≤ L.length) (a b a' b' : Int) : ((tw L a b).set 14 a').set 15 b' = tw L a' b' := by
  rw [tw_of (by rw [tw_len h]; exact h)]
  unfold tw
  have hl : (L.take 14).length = 14 := by rw [List.length_take]; omega
  have e1 : (L.take 14 ++ a :: b :: L.drop 16).take 14 = L.take 14 := by
    rw [List.take_append_of_le_length (by omega), List.take_take]
    simp
  have e2 : (L.take 14 ++ a :: b :: L.drop 16).drop 16 = L.drop 16 := by
    rw [List.drop_append, hl]
    simp
    omega
  rw [e1, e2]
theorem tw_ok {L : List Int} (h : ∀ x ∈ L, byteOk x) {a b : Int} (ha : byteOk a) (hb : byteOk b) : ∀ x ∈ tw L a b, byteOk x := by
  intro x hx
  unfold tw at hx
  rcases List.mem_append.1 hx with hx | hx
  · exact h x (List.mem_of_mem_take hx)
  · rcases List.mem_cons.1 hx with rfl | hx
    · exact ha
    · rcases List.mem_cons.1 hx with rfl | hx
      · exact hb
      · exact h x (List.mem_of_mem_drop hx)
theorem zero2_tw {L : List Int} (h : 16 ≤ L.length) : zero2 L = tw L 0 0 := tw_of h 0 0
theorem fillL_tw {L : List Int} (h : 16 ≤ L.length) : fillL L = tw L (bytA L) (bytB L) := by
  unfold fillL
  rw [zero2_tw h, tw_tw h]
theorem byt_is {L : List Int} (h : 16 ≤ L.length) {x : Int} (hx : (zero2 L).sum % 255 = x) :
    (0 ≤ bytA L ∧ bytA L < 255) ∧ bytB L = (510 - x - bytA L) % 255 ∧ ∀ i : Int, 0 ≤ i → i < 255 → (decide ((tw L i ((510 - x - i) % 255)).sum % 255 = 0) && decide (secW (tw L i ((510 - x - i) % 255)) % 255 = 0)) = decide (i = bytA L) := by
  have hd : (((L.drop 16).length : Int) + 2) = (L.length : Int) - 14 := by rw [List.length_drop]; omega
  have ha : bytA L = fillA (((L.drop 16).length : Int) + 2) ((L.take 14 ++ 0 :: 0 :: L.drop 16).sum % 255) (secW (L.take 14 ++ 0 :: 0 :: L.drop 16) % 255) := by
    unfold bytA
    rw [sums_eq, zero2_tw h, hd]
    rfl
  have hb : bytB L = fillB (((L.drop 16).length : Int) + 2) ((L.take 14 ++ 0 :: 0 :: L.drop 16).sum % 255) (secW (L.take 14 ++ 0 :: 0 :: L.drop 16) % 255) := by
    unfold bytB
    rw [sums_eq, zero2_tw h, hd]
    rfl
  have hx' : (L.take 14 ++ 0 :: 0 :: L.drop 16).sum % 255 = x := by rw [zero2_tw h] at hx; exact hx
  refine ⟨?_, ?_, fun i h0 h1 => ?_⟩
  · rw [ha]
    unfold fillA
    omega
  · rw [hb, ha, hx', fill_b]
  · have hf := fill_iff (L.take 14) (L.drop 16) i h0 h1
    rw [← ha, hx'] at hf
    unfold wholeP at hf
    rw [Bool.eq_iff_iff, Bool.and_eq_true, decide_eq_true_eq, decide_eq_true_eq, decide_eq_true_eq]
    exact hf
theorem own_pair2 {w : World} {B g c n : Nat} {L : List Int} (h : OwnB w B (.slice (some ⟨g, 0, none⟩) n c) L) (hn : n = L.length) (h16 : 16 ≤ n) :
    ∃ a b, w.cell? ⟨g, 14, none⟩ = some (.int .u8 a) ∧ w.frozen? ⟨g, 14, none⟩ = false ∧ w.cell? ⟨g, 15, none⟩ = some (.int .u8 b) ∧ w.frozen? ⟨g, 15, none⟩ = false :=
  ⟨_, _, (OwnB.at_ h 14 (by omega)).1, (OwnB.at_ h 14 (by omega)).2, (OwnB.at_ h 15 (by omega)).1, (OwnB.at_ h 15 (by omega)).2⟩

set_option maxHeartbeats 4000000 in
set_option maxRecDepth 100000 in
theorem refFill_any (A : Option Addr) (c : Nat) (L : List Int) (w : World) (B : Nat) (hL : RowsAt 1 bcell w B A L) (hB : B ≤ w.heap.size) (hbs : ∀ x ∈ L, byteOk x) (h16 : 16 ≤ L.length) (hm : L.length ≤ 2 ^ 20) (n : Nat) (hn : n = L.length) :
    Calls Tryz.prog 176 #[.slice A n c, .int .i64 14] w fun r w' => ∃ v, r = .returned v ∧ OwnB w' w.heap.size v (fillL L) ∧ Below w.heap.size w w' := by
  have HL := Lib.hid (hL.more hB)
  have Hbs := Lib.hid hbs
  have HE := Lib.hid (OwnR.nil (e := 5) (C := 1) (cells := bcell) w w.heap.size)
  have Hn := Lib.hid hn
  have hn2 : 16 ≤ n := by omega
  have hm2 : n ≤ 2 ^ 20 := by omega
  obtain ⟨x, hx⟩ : ∃ x, (zero2 L).sum % 255 = x := ⟨_, rfl⟩
  obtain ⟨⟨ha0, ha1⟩, hbb, hit⟩ := byt_is h16 hx
  obtain ⟨a1, hA⟩ : ∃ a1, bytA L = a1 := ⟨_, rfl⟩
  rw [hA] at ha0 ha1 hbb hit
  have hx0 : 0 ≤ x ∧ x < 255 := by omega
  obtain ⟨hx0, hx1⟩ := hx0
  have Hx := Lib.hid hx
  have HA := Lib.hid hA
  have Hbb := Lib.hid hbb
  have Hit := Lib.hid hit
  have H16 := Lib.hid h16
  clear hL hB hbs hn h16 hm hx hA hbb hit
  go_enter Tryz.func176, Tryz.ntmps176
  go_wp2_with (at_builtin; (refine app_rows (e := 5) bcell (fun _ => rfl) (by decide) (bytes := 1) (by decide) infoB rfl Tryz.underlying24 onesB (by rfl) _ _ (by rfl) w.heap.size _ [] (by rfl) HE.out A c n L Hn.out (by rfl) HL.out (by have := Hn.out; simp; omega) (Nat.le_refl _) ?_); intro v5 w5 hown5 hg5 hor5; have Hb5 := Lib.hid ((Below.refl w.heap.size w).grown hg5 (Nat.le_refl _) (fun j hj => (HE.out.block j hj).1)); obtain ⟨g, c5, a0, b0, rfl, hown6, z1, q1, z2, q2⟩ := own_pair hown5 Hn.out hn2; have Hown5 := Lib.hid hown6; clear hown5 hg5 hor5 hown6)
  have hown7 := (Hown5.out.set1 Hn.out 14 0).set1 (by rw [List.length_set]; exact Hn.out) 15 0
  have hgl := Hown5.out.lt
  have hb7 := (Hb5.out.setCell (p := ⟨g, 14, none⟩) hgl.1 (.int .u8 0)).setCell (p := ⟨g, 15, none⟩) hgl.1 (.int .u8 0)
  obtain ⟨w7, hW7⟩ : ∃ w7, (w5.setCell ⟨g, 14, none⟩ (.int .u8 0)).setCell ⟨g, 15, none⟩ (.int .u8 0) = w7 := ⟨_, rfl⟩
  rw [hW7] at hown7 hb7 ⊢
  rw [tw_of H16.out] at hown7
  have hS := refFirst_any (some ⟨g, 0, none⟩) c5 (tw L 0 0) w7 w7.heap.size (OwnR.rows (C := 1) (cells := bcell) (fun _ => rfl) (by have := Hn.out; subst this; rw [← tw_len H16.out 0 0] at hown7; exact hown7)).2 (tw_ok Hbs.out ⟨by omega, by omega⟩ ⟨by omega, by omega⟩) (by rw [tw_len H16.out, ← Hn.out]; exact hm2) n (by rw [tw_len H16.out]; exact Hn.out)
  rw [← zero2_tw H16.out, Hx.out] at hS
  have HS := Lib.hid hS
  have Hown7 := Lib.hid hown7
  have Hb7 := Lib.hid hb7
  have Hgl := Lib.hid hgl
  clear hS hown7 hb7 hW7 z1 q1 z2 q2 hgl
  go_wp2_with (go_at_call 209; (with_reducible refine Calls.mono HS.out ?_); rintro r w8 ⟨rfl, rfl⟩)
  go_loopw [7] (fun iv wr => ∃ (i : Nat) (a b : Int), iv = .int .i64 i ∧ (i : Int) ≤ a1 ∧ OwnB wr w.heap.size (.slice (some ⟨g, 0, none⟩) n c5) (tw L a b) ∧ Below w.heap.size w wr) (fun iv _ => 255 - (intOf iv).toNat)
  case atStart => exact ⟨0, 0, 0, rfl, ha0, Hown7.out, Hb7.out⟩
  case round =>
    obtain ⟨i, a, b, rfl, hi, hown, hb⟩ := hrel
    have hnt : n = (tw L a b).length := by rw [tw_len H16.out]; exact Hn.out
    obtain ⟨p0, p1, z1, q1, z2, q2⟩ := own_pair2 hown hnt hn2
    obtain ⟨b1, hb1⟩ : ∃ b1, (510 - x - (i : Int)) % 255 = b1 := ⟨_, rfl⟩
    have hown9 := (hown.set1 hnt 14 i).set1 (by rw [List.length_set]; exact hnt) 15 b1
    rw [tw_tw H16.out] at hown9
    have hb9 := (hb.setCell (p := ⟨g, 14, none⟩) Hgl.out.1 (.int .u8 i)).setCell (p := ⟨g, 15, none⟩) Hgl.out.1 (.int .u8 b1)
    obtain ⟨w9, hw9⟩ : ∃ w9, (wr.setCell ⟨g, 14, none⟩ (.int .u8 i)).setCell ⟨g, 15, none⟩ (.int .u8 b1) = w9 := ⟨_, rfl⟩
    rw [hw9] at hown9 hb9
    have hi2 : (i : Int) < 255 := by omega
    have ht := Hit.out i (by omega) hi2
    rw [hb1] at ht
    have hb10 : 0 ≤ b1 ∧ b1 < 255 := by omega
    have HW := Lib.hid (fun t ht => refWhole_any (some ⟨g, 0, none⟩) c5 (tw L i b1) w9 w9.heap.size (OwnR.rows (C := 1) (cells := bcell) (fun _ => rfl) (by have h9 := hown9; rw [Hn.out, ← tw_len H16.out i b1] at h9; exact h9)).2 (tw_ok Hbs.out ⟨by omega, by omega⟩ ⟨by omega, by omega⟩) (by rw [tw_len H16.out, ← Hn.out]; exact hm2) n (by rw [tw_len H16.out]; exact Hn.out) (by omega) (t := t) ht)
    have Hown9 := Lib.hid hown9
    have Hb9 := Lib.hid hb9
    have Hb1 := Lib.hid hb1
    have e1 : (i : Int) % 256 = i := by omega
    have e2 : b1 % 256 = b1 := by omega
    have e3 : (0 : Int) ≤ 510 - x - i := by omega
    have Hw9 := Lib.hid hw9
    clear hown9 hb9 hown hb hnt hb10 hw9 hb1
    by_cases hia : (i : Int) = a1
    · rw [decide_eq_true hia] at ht
      have HW1 := Lib.hid (HW.out true ht)
      have Hia := Lib.hid hia
      clear ht hia
      go_wp2_with fail
      rw [Hb1.out, Hw9.out]
      with_reducible refine Calls.mono HW1.out ?_
      rintro r w10 ⟨rfl, rfl⟩
      clear z1 q1 z2 q2
      go_wp2
      go_ret
      refine ⟨_, rfl, ?_, Hb9.out⟩
      have hfin : fillL L = tw L i b1 := by rw [fillL_tw H16.out, HA.out, Hia.out, ← Hb1.out, Hia.out, ← Hbb.out, ← HA.out]
      rw [hfin]
      have h9 := Hown9.out
      rw [Hn.out, ← tw_len H16.out i b1] at h9
      rw [Hn.out, ← tw_len H16.out i b1]
      exact h9
    · rw [decide_eq_false hia] at ht
      have HW1 := Lib.hid (HW.out false ht)
      have hi3 : (i : Int) + 1 ≤ a1 := by omega
      clear ht hia
      go_wp2_with fail
      rw [Hb1.out, Hw9.out]
      with_reducible refine Calls.mono HW1.out ?_
      rintro r w10 ⟨rfl, rfl⟩
      clear z1 q1 z2 q2
      go_wp2
      go_roundw
      case measure => simp [intOf]; omega
      case rel => exact ⟨i + 1, i, b1, by go_num, by simpa using hi3, Hown9.out, Hb9.out⟩
end Go.Proofs.YtpnbibokddhheaaGreat

/-
  The document's bytes of a head: its way.
-/
namespace Go.Proofs.YtpnbibokddhheaaGreat
open Go.RowKit

/-- append of bytes behind bytes that the call made itself, with all that is kept -/
theorem app_bytes {w0 W : World} {ops : Array Oper} {rest : List Oper} {o : Oper} {a : Act} {Q : Exit → Act → World → Prop} (hgd : o.guard = none) (s x : Operand)
    (ho : o.op = .call { callee := .builtin .append, args := #[s, x], argTypes := #[24, 24] })
    (v : Value) (L : List Int) (hs : a.eval s = v) (hown : OwnB W w0.heap.size v L) (hb : Below w0.heap.size w0 W) (A : Option Addr) (c m : Nat) (M : List Int) (hm : m = M.length) (hx : a.eval x = .slice A m c) (hM : RowsAt 1 bcell W W.heap.size A M) (k : Nat) (hk : (L ++ M).length = k) (hk2 : k ≤ 2 ^ 30)
    (h : ∀ A' c' W', OwnB W' w0.heap.size (.slice A' k c') (L ++ M) → Below w0.heap.size w0 W' → (∀ g, g < W.heap.size → v.ownBlock ≠ some g → W'.heap[g]? = W.heap[g]? ∧ (Value.slice A' k c').ownBlock ≠ some g) → wpList Tryz.prog ops Q rest (a.put o.dst (.slice A' k c')) W') : wpList Tryz.prog ops Q (o :: rest) a W := by
  refine app_rows (e := 5) bcell (fun _ => rfl) (by decide) (bytes := 1) (by decide) infoB rfl Tryz.underlying24 onesB hgd s x ho w0.heap.size v L hs hown A c m M hm hx hM (by rw [List.length_append] at hk; omega) hb.size ?_
  intro v' W' h1 h2 h3
  obtain ⟨A', c', rfl⟩ := h1.shape
  rw [hk] at h1 h3 ⊢
  refine h A' c' W' h1 (hb.grown h2 hb.size (fun j hj => (hown.block j hj).1)) (fun g hg hne => ⟨h2.block g hg (fun e => hne e.symm), fun e => ?_⟩)
  rcases h3 with h3 | h3
  · rw [h3] at e; exact hne e
  · rw [h3] at e; injection e with e; omega
theorem kind_byte (n : Int) : IntKind.u64.wrap n % 256 = byteI n 0 ∧ 0 ≤ IntKind.u64.wrap n ∧ byteI n 0 % 256 = byteI n 0 := by
  have h : IntKind.u64.wrap n % 256 = byteI n 0 := by
    rw [wrap_u64]
    exact (sh8_byte n).1
  exact ⟨h, by rw [wrap_u64]; omega, by rw [← h]; omega⟩
theorem one_byte (n : Int) : beL 1 n = [byteI n 0] := rfl
theorem headL_is (y1 y2 y3 y4 y5 y6 y7 : Int) : (((((([] ++ beL 2 y1) ++ [0, byteI y2 0]) ++ beL 4 y3) ++ beL 4 y4) ++ beL 4 y5) ++ beL 2 y6) ++ beL 2 y7 = headL ⟨y1, y2, y3, y4, y5, y6, y7⟩ := by
  unfold headL head1
  simp only [List.flatMap_cons, List.flatMap_nil, List.append_nil, List.nil_append, List.append_assoc, one_byte, List.cons_append]
  rfl

set_option maxHeartbeats 8000000 in
set_option maxRecDepth 100000 in
theorem refHeadBytes (y1 y2 y3 y4 y5 y6 y7 : Int) (w : World) :
    Calls Tryz.prog 175 #[.agg #[.int .i64 y1, .int .i64 y2, .int .i64 y3, .int .i64 y4, .int .i64 y5, .int .i64 y6, .int .i64 y7]] w fun r w' => ∃ A c, r = .returned (.slice A 20 c) ∧ OwnB w' w.heap.size (.slice A 20 c) (headL ⟨y1, y2, y3, y4, y5, y6, y7⟩) ∧ Below w.heap.size w w' := by
  obtain ⟨w1, hW1⟩ : ∃ w1, w.alloc (.cells #[.int .i64 y1, .int .i64 y2, .int .i64 y3, .int .i64 y4, .int .i64 y5, .int .i64 y6, .int .i64 y7] 27) = w1 := ⟨_, rfl⟩
  have hk := Blk.new w 27 #[.int .i64 y1, .int .i64 y2, .int .i64 y3, .int .i64 y4, .int .i64 y5, .int .i64 y6, .int .i64 y7]
  have hb := below_new w (.cells #[.int .i64 y1, .int .i64 y2, .int .i64 y3, .int .i64 y4, .int .i64 y5, .int .i64 y6, .int .i64 y7] 27)
  rw [hW1] at hk hb
  have FW := Lib.hid (fun W (hW : Below w1.heap.size w1 W) => (hk.below hW hk.lt).both7)
  have Hb := Lib.hid hb
  have hsz := hb.size
  have Hb1 := Lib.hid (Below.refl w1.heap.size w1)
  have Hown1 := Lib.hid (OwnR.nil (e := 5) (C := 1) (cells := bcell) w1 w1.heap.size)
  have Hkb := Lib.hid (kind_byte y2)
  obtain ⟨x0, x1, x2, x3, x4, x5, x6, -⟩ := FW.out w1 (Below.refl _ _)
  clear hk hb
  go_enter Tryz.func175, Tryz.ntmps175
  go_wp2_with fail
  with_reducible refine Calls.mono (refBytes2 y1 _) ?_
  rintro r v2 ⟨g2, rfl, -, hr2, hb2⟩
  have Hr2 := Lib.hid hr2
  have Ha2 := Lib.hid hb2
  clear hr2 hb2
  go_wp2_with (first
    | (at_builtin; (refine app_bytes (w0 := w1) (by rfl) _ _ (by rfl) _ L2 (by rfl) (Hown2.out.below Ha3.out) (below_trans Hb2.out Hb2.out.size Ha3.out) (some ⟨w2.heap.size, 0, none⟩) 2 2 [0, byteI y2 0] (by rfl) (by rfl) Hk3.out 4 (by rw [List.length_append, Hl2.out]; rfl) (by decide) ?_); intro A3 c3 w3 hown3 hb3 _; have Hown3' := Lib.hid hown3; have Hb3 := Lib.hid hb3; clear hown3 hb3 x0 x1 x2 x3 x4 x5 x6; obtain ⟨x0, x1, x2, x3, x4, x5, x6, -⟩ := FW.out w3 Hb3.out; obtain ⟨L3, hL3⟩ : ∃ L3, L2 ++ [0, byteI y2 0] = L3 := ⟨_, rfl⟩; have Hown3 := Lib.hid (show OwnB w3 w1.heap.size (.slice A3 4 c3) L3 by rw [← hL3]; exact Hown3'.out); have Hl3 := Lib.hid (show L3.length = 4 by rw [← hL3, List.length_append, Hl2.out]; rfl); have HL3 := Lib.hid hL3; clear hL3 Hown3'; clear kb kb0 kb2)
    | (at_builtin; (refine app_bytes (w0 := w1) (by rfl) _ _ (by rfl) _ ([] : List Int) (by rfl) (Hown1.out.below Ha2.out) (below_trans Hb1.out Hb1.out.size Ha2.out) (some ⟨g2, 0, none⟩) 2 2 (beL 2 y1) (by rw [beL_len]) (by rfl) Hr2.out 2 (by rw [List.length_append, List.length_nil, beL_len]) (by decide) ?_); intro A2 c2 w2 hown2 hb2 _; have Hown2' := Lib.hid hown2; have Hb2 := Lib.hid hb2; clear hown2 hb2 x0 x1 x2 x3 x4 x5 x6; obtain ⟨x0, x1, x2, x3, x4, x5, x6, -⟩ := FW.out w2 Hb2.out; obtain ⟨L2, hL2⟩ : ∃ L2, ([] : List Int) ++ beL 2 y1 = L2 := ⟨_, rfl⟩; have Hown2 := Lib.hid (show OwnB w2 w1.heap.size (.slice A2 2 c2) L2 by rw [← hL2]; exact Hown2'.out); have Hl2 := Lib.hid (show L2.length = 2 by rw [← hL2, List.length_append, List.length_nil]; rw [beL_len]); have HL2 := Lib.hid hL2; clear hL2 Hown2'; have Hk3 := Lib.hid (rows_blk (t := 5) (l := [0, byteI y2 0]) (Blk.new w2 5 #[.int .u8 0, .int .u8 (byteI y2 0)])); have Ha3 := Lib.hid (below_new w2 (.cells #[.int .u8 0, .int .u8 (byteI y2 0)] 5)); obtain ⟨kb, kb0, kb2⟩ := Hkb.out))
  go_wp2_with fail
  with_reducible refine Calls.mono (refBytes4 y3 _) ?_
  rintro r v4 ⟨g4, rfl, -, hr4, hb4⟩
  have Hr4 := Lib.hid hr4
  have Ha4 := Lib.hid hb4
  clear hr4 hb4
  go_wp2_with (at_builtin; (refine app_bytes (w0 := w1) (by rfl) _ _ (by rfl) _ L3 (by rfl) (Hown3.out.below Ha4.out) (below_trans Hb3.out Hb3.out.size Ha4.out) (some ⟨g4, 0, none⟩) 4 4 (beL 4 y3) (by rw [beL_len]) (by rfl) Hr4.out 8 (by rw [List.length_append, Hl3.out, beL_len]) (by decide) ?_); intro A4 c4 w4 hown4 hb4 _; have Hown4' := Lib.hid hown4; have Hb4 := Lib.hid hb4; clear hown4 hb4 x0 x1 x2 x3 x4 x5 x6; obtain ⟨x0, x1, x2, x3, x4, x5, x6, -⟩ := FW.out w4 Hb4.out; obtain ⟨L4, hL4⟩ : ∃ L4, L3 ++ beL 4 y3 = L4 := ⟨_, rfl⟩; have Hown4 := Lib.hid (show OwnB w4 w1.heap.size (.slice A4 8 c4) L4 by rw [← hL4]; exact Hown4'.out); have Hl4 := Lib.hid (show L4.length = 8 by rw [← hL4, List.length_append, Hl3.out]; rw [beL_len]); have HL4 := Lib.hid hL4; clear hL4 Hown4')
  go_wp2_with fail
  with_reducible refine Calls.mono (refBytes4 y4 _) ?_
  rintro r v5 ⟨g5, rfl, -, hr5, hb5⟩
  have Hr5 := Lib.hid hr5
  have Ha5 := Lib.hid hb5
  clear hr5 hb5
  go_wp2_with (at_builtin; (refine app_bytes (w0 := w1) (by rfl) _ _ (by rfl) _ L4 (by rfl) (Hown4.out.below Ha5.out) (below_trans Hb4.out Hb4.out.size Ha5.out) (some ⟨g5, 0, none⟩) 4 4 (beL 4 y4) (by rw [beL_len]) (by rfl) Hr5.out 12 (by rw [List.length_append, Hl4.out, beL_len]) (by decide) ?_); intro A5 c5 w5 hown5 hb5 _; have Hown5' := Lib.hid hown5; have Hb5 := Lib.hid hb5; clear hown5 hb5 x0 x1 x2 x3 x4 x5 x6; obtain ⟨x0, x1, x2, x3, x4, x5, x6, -⟩ := FW.out w5 Hb5.out; obtain ⟨L5, hL5⟩ : ∃ L5, L4 ++ beL 4 y4 = L5 := ⟨_, rfl⟩; have Hown5 := Lib.hid (show OwnB w5 w1.heap.size (.slice A5 12 c5) L5 by rw [← hL5]; exact Hown5'.out); have Hl5 := Lib.hid (show L5.length = 12 by rw [← hL5, List.length_append, Hl4.out]; rw [beL_len]); have HL5 := Lib.hid hL5; clear hL5 Hown5')
  go_wp2_with fail
  with_reducible refine Calls.mono (refBytes4 y5 _) ?_
  rintro r v6 ⟨g6, rfl, -, hr6, hb6⟩
  have Hr6 := Lib.hid hr6
  have Ha6 := Lib.hid hb6
  clear hr6 hb6
  go_wp2_with (at_builtin; (refine app_bytes (w0 := w1) (by rfl) _ _ (by rfl) _ L5 (by rfl) (Hown5.out.below Ha6.out) (below_trans Hb5.out Hb5.out.size Ha6.out) (some ⟨g6, 0, none⟩) 4 4 (beL 4 y5) (by rw [beL_len]) (by rfl) Hr6.out 16 (by rw [List.length_append, Hl5.out, beL_len]) (by decide) ?_); intro A6 c6 w6 hown6 hb6 _; have Hown6' := Lib.hid hown6; have Hb6 := Lib.hid hb6; clear hown6 hb6 x0 x1 x2 x3 x4 x5 x6; obtain ⟨x0, x1, x2, x3, x4, x5, x6, -⟩ := FW.out w6 Hb6.out; obtain ⟨L6, hL6⟩ : ∃ L6, L5 ++ beL 4 y5 = L6 := ⟨_, rfl⟩; have Hown6 := Lib.hid (show OwnB w6 w1.heap.size (.slice A6 16 c6) L6 by rw [← hL6]; exact Hown6'.out); have Hl6 := Lib.hid (show L6.length = 16 by rw [← hL6, List.length_append, Hl5.out]; rw [beL_len]); have HL6 := Lib.hid hL6; clear hL6 Hown6')
  go_wp2_with fail
  with_reducible refine Calls.mono (refBytes2 y6 _) ?_
  rintro r v7 ⟨g7, rfl, -, hr7, hb7⟩
  have Hr7 := Lib.hid hr7
  have Ha7 := Lib.hid hb7
  clear hr7 hb7
  go_wp2_with (at_builtin; (refine app_bytes (w0 := w1) (by rfl) _ _ (by rfl) _ L6 (by rfl) (Hown6.out.below Ha7.out) (below_trans Hb6.out Hb6.out.size Ha7.out) (some ⟨g7, 0, none⟩) 2 2 (beL 2 y6) (by rw [beL_len]) (by rfl) Hr7.out 18 (by rw [List.length_append, Hl6.out, beL_len]) (by decide) ?_); intro A7 c7 w7 hown7 hb7 _; have Hown7' := Lib.hid hown7; have Hb7 := Lib.hid hb7; clear hown7 hb7 x0 x1 x2 x3 x4 x5 x6; obtain ⟨x0, x1, x2, x3, x4, x5, x6, -⟩ := FW.out w7 Hb7.out; obtain ⟨L7, hL7⟩ : ∃ L7, L6 ++ beL 2 y6 = L7 := ⟨_, rfl⟩; have Hown7 := Lib.hid (show OwnB w7 w1.heap.size (.slice A7 18 c7) L7 by rw [← hL7]; exact Hown7'.out); have Hl7 := Lib.hid (show L7.length = 18 by rw [← hL7, List.length_append, Hl6.out]; rw [beL_len]); have HL7 := Lib.hid hL7; clear hL7 Hown7')
  go_wp2_with fail
  with_reducible refine Calls.mono (refBytes2 y7 _) ?_
  rintro r v8 ⟨g8, rfl, -, hr8, hb8⟩
  have Hr8 := Lib.hid hr8
  have Ha8 := Lib.hid hb8
  clear hr8 hb8
  go_wp2_with (at_builtin; (refine app_bytes (w0 := w1) (by rfl) _ _ (by rfl) _ L7 (by rfl) (Hown7.out.below Ha8.out) (below_trans Hb7.out Hb7.out.size Ha8.out) (some ⟨g8, 0, none⟩) 2 2 (beL 2 y7) (by rw [beL_len]) (by rfl) Hr8.out 20 (by rw [List.length_append, Hl7.out, beL_len]) (by decide) ?_); intro A8 c8 w8 hown8 hb8 _; have Hown8' := Lib.hid hown8; have Hb8 := Lib.hid hb8; clear hown8 hb8 x0 x1 x2 x3 x4 x5 x6; obtain ⟨x0, x1, x2, x3, x4, x5, x6, -⟩ := FW.out w8 Hb8.out; obtain ⟨L8, hL8⟩ : ∃ L8, L7 ++ beL 2 y7 = L8 := ⟨_, rfl⟩; have Hown8 := Lib.hid (show OwnB w8 w1.heap.size (.slice A8 20 c8) L8 by rw [← hL8]; exact Hown8'.out); have Hl8 := Lib.hid (show L8.length = 20 by rw [← hL8, List.length_append, Hl7.out]; rw [beL_len]); have HL8 := Lib.hid hL8; clear hL8 Hown8')
  go_ret
  refine ⟨_, _, rfl, ?_, Hb.out.trans (Hb8.out.mono hsz)⟩
  rw [← headL_is, HL2.out, HL3.out, HL4.out, HL5.out, HL6.out, HL7.out, HL8.out]
  exact OwnR.lower Hown8.out hsz

end Go.Proofs.YtpnbibokddhheaaGreat

/-
  The document's bytes of a description: its way.
-/
namespace Go.Proofs.YtpnbibokddhheaaGreat
open Go.RowKit

def refBodyL (kind : Int) (ls : List Lnk) (ms : List Int) : List Int := (if kind = 1 then routerL ls else []) ++ ms.flatMap (beL 4)
theorem refBody_is {kind : Int} {ls : List Lnk} {ms : List Int} (h : kind = 1 → ms = []) : refBodyL kind ls ms = bodyL kind ls ms := by
  unfold refBodyL bodyL
  by_cases hk : kind = 1
  · rw [if_pos hk, if_pos hk, h hk]
    simp
  · rw [if_neg hk, if_neg hk]
    simp
theorem refBody_len (kind : Int) (ls : List Lnk) (ms : List Int) (hl : ls.length ≤ 1000) (hm : ms.length ≤ 1000) : (refBodyL kind ls ms).length ≤ 20000 := by
  unfold refBodyL
  rw [List.length_append, flat_len _ _ (beL_len 4)]
  split
  · rw [routerL_len]; omega
  · simp; omega
theorem refBody_ok (kind : Int) (ls : List Lnk) (ms : List Int) : ∀ y ∈ refBodyL kind ls ms, byteOk y := by
  refine app_ok ?_ (flatB_ok _ _)
  split
  · refine app_ok (flatB_ok _ _) (fun x hx => ?_)
    obtain ⟨y, -, hy⟩ := List.mem_flatMap.1 hx
    exact lnkL_ok y x hy
  · simp
theorem byte_lo (n : Int) : n % 256 = byteI n 0 ∧ byteI n 0 % 256 = byteI n 0 := by
  have h : n % 256 = byteI n 0 := by unfold byteI; simp
  exact ⟨h, by rw [← h]; omega⟩
theorem lnkL_is (x : Lnk) (M : List Int) : (((M ++ beL 4 x.id) ++ beL 4 x.data) ++ [byteI x.kind 0, 0]) ++ beL 2 x.cost = M ++ lnkL x := by
  unfold lnkL
  simp only [List.flatMap_cons, List.flatMap_nil, List.append_nil, List.append_assoc, one_byte, List.cons_append, List.nil_append]
  rfl
/-- a block that a row of the call's own is not -/
def LB (W : World) (v : Value) (g : Nat) (cs : Array Value) : Prop := Blk W g 152 cs ∧ v.ownBlock ≠ some g
theorem own_len {w : World} {B n c : Nat} {A : Option Addr} {L : List Int} (h : OwnB w B (.slice A n c) L) (hn : L.length = n) : OwnB w B (.slice A L.length c) L := by rw [hn]; exact h
theorem lb_below {W W' : World} {v : Value} {g : Nat} {cs : Array Value} (h : LB W v g cs) (hb : Below W.heap.size W W') : LB W' v g cs := ⟨h.1.below hb h.1.lt, h.2⟩
theorem lb_keep {W W' : World} {v v' : Value} {g : Nat} {cs : Array Value} (h : LB W v g cs) (hk : ∀ g, g < W.heap.size → v.ownBlock ≠ some g → W'.heap[g]? = W.heap[g]? ∧ v'.ownBlock ≠ some g) : LB W' v' g cs :=
  ⟨(hk g h.1.lt h.2).1.trans h.1, (hk g h.1.lt h.2).2⟩
theorem lb_new {W : World} {B : Nat} {v : Value} {L : List Int} (h : OwnB W B v L) (o : Obj) {cs : Array Value} (hk : Blk (W.alloc o) W.heap.size 152 cs) : LB (W.alloc o) v W.heap.size cs :=
  ⟨hk, fun e => by have := (h.block _ e).2; omega⟩

set_option maxHeartbeats 8000000 in
set_option maxRecDepth 100000 in
theorem refBytes_any (y1 y2 y3 y4 y5 y6 y7 : Int) (ka : Option Addr) (kc : Nat) (ls : List Lnk) (ma : Option Addr) (mc : Nat) (ms : List Int) (w : World) (B : Nat) (hl : RowsAt 4 Lnk.cells w B ka ls) (hm : RowsAt 1 icell w B ma ms) (hB : B ≤ w.heap.size) (hlm : ls.length ≤ 1000) (hmm : ms.length ≤ 1000) (nl nm : Nat) (hnl : nl = ls.length) (hnm : nm = ms.length) (h1m : y2 = 1 → ms = []) (N : Nat) (hN : N = (bytesL ⟨y1, y2, y3, y4, y5, y6, y7⟩ ls ms).length) :
    Calls Tryz.prog 108 #[.agg #[.int .i64 y1, .int .i64 y2, .int .i64 y3, .int .i64 y4, .int .i64 y5, .int .i64 y6, .int .i64 y7, .slice ka nl kc, .slice ma nm mc]] w fun r w' => ∃ A c, r = .returned (.slice A N c) ∧ OwnB w' w.heap.size (.slice A N c) (bytesL ⟨y1, y2, y3, y4, y5, y6, y7⟩ ls ms) ∧ Below w.heap.size w w' := by
  obtain ⟨w1, hW1⟩ : ∃ w1, w.alloc (.cells #[.int .i64 y1, .int .i64 y2, .int .i64 y3, .int .i64 y4, .int .i64 y5, .int .i64 y6, .int .i64 y7, .slice ka nl kc, .slice ma nm mc] 31) = w1 := ⟨_, rfl⟩
  have hk := Blk.new w 31 #[.int .i64 y1, .int .i64 y2, .int .i64 y3, .int .i64 y4, .int .i64 y5, .int .i64 y6, .int .i64 y7, .slice ka nl kc, .slice ma nm mc]
  have hb := below_new w (.cells #[.int .i64 y1, .int .i64 y2, .int .i64 y3, .int .i64 y4, .int .i64 y5, .int .i64 y6, .int .i64 y7, .slice ka nl kc, .slice ma nm mc] 31)
  rw [hW1] at hk hb
  have FW := Lib.hid (fun W (hW : Below w1.heap.size w1 W) => blk9 (hk.below hW hk.lt))
  have Hb := Lib.hid hb
  have HL := Lib.hid (rows_keep (hl.more hB) hb)
  have HM := Lib.hid (rows_keep (hm.more hB) hb)
  have hsz := hb.size
  have Hnl := Lib.hid hnl
  have Hnm := Lib.hid hnm
  have hnl2 : nl ≤ 1000 := by omega
  have hnm2 : nm ≤ 1000 := by omega
  have HN := Lib.hid hN
  have H1m := Lib.hid h1m
  have Hb1 := Lib.hid (Below.refl w1.heap.size w1)
  have Hown1 := Lib.hid (OwnR.nil (e := 5) (C := 1) (cells := bcell) w1 w1.heap.size)
  clear hk hb hl hm hB hnl hnm hlm hmm hN h1m
  go_enter Tryz.func108, Tryz.ntmps108
  have z := FW.out w1 (Below.refl _ _)
  obtain ⟨z0, z1, z2, z3, z4, z5, z6, z7, z8, zf⟩ := z
  go_upto_if 13 with fail
  go_cut [3] (fun v wx => ∃ A M c, v = .slice A M.length c ∧ M = (if y2 = 1 then routerL ls else []) ∧ OwnB wx w1.heap.size v M ∧ Below w1.heap.size w1 wx)
  case first =>
    skip
    by_cases hk1 : y2 = 1
    · subst hk1
      obtain ⟨L1, hL1⟩ : ∃ L1 : List Int, L1 = [] := ⟨_, rfl⟩
      obtain ⟨k1, hk1⟩ : ∃ k1 : Nat, k1 = 0 := ⟨_, rfl⟩
      have Hl1 := Lib.hid (show L1.length = k1 by rw [hL1, hk1]; rfl)
      rw [← hL1] at Hown1
      have HL1 := Lib.hid hL1
      have hkb1 : k1 ≤ 0 := by omega
      clear hL1 hk1
      go_wp2_with fail
      with_reducible refine Calls.mono (refBytes4 (nl : Int) _) ?_
      rintro r v2 ⟨g2, rfl, -, hr2, hb2⟩
      have Hr2 := Lib.hid hr2
      have Ha2 := Lib.hid hb2
      clear hr2 hb2
      obtain ⟨k2, hk2⟩ : ∃ k, k = k1 + 4 := ⟨_, rfl⟩
      have HK2 := Lib.hid hk2
      have hkb2 : k2 ≤ k1 + 4 := by omega
      clear hk2
      go_wp2_with (at_builtin; (refine app_bytes (w0 := w1) (by rfl) _ _ (by rfl) _ L1 (by rfl) (Hown1.out.below Ha2.out) (below_trans Hb1.out Hb1.out.size Ha2.out) (some ⟨g2, 0, none⟩) 4 4 (beL 4 (nl : Int)) (by rw [beL_len]) (by rfl) Hr2.out k2 (by rw [List.length_append, Hl1.out, beL_len, HK2.out]) (by omega) ?_); intro A2 c2 w2 hown2 hb2 hkp2; have Hown2' := Lib.hid hown2; have Hb2 := Lib.hid hb2; clear hown2 hb2 hkp2 z0 z1 z2 z3 z4 z5 z6 z7 z8 zf; obtain ⟨z0, z1, z2, z3, z4, z5, z6, z7, z8, zf⟩ := FW.out w2 Hb2.out; obtain ⟨L2, hL2⟩ : ∃ L2, L1 ++ beL 4 (nl : Int) = L2 := ⟨_, rfl⟩; have Hown2 := Lib.hid (show OwnB w2 w1.heap.size (.slice A2 k2 c2) L2 by rw [← hL2]; exact Hown2'.out); have Hl2 := Lib.hid (show L2.length = k2 by rw [← hL2, List.length_append, Hl1.out, HK2.out]; (first | rfl | rw [beL_len])); have HL2 := Lib.hid hL2; clear hL2 Hown2')
      go_loopw [3, 4] (fun o i wr => ∃ (j : Nat) (A : Option Addr) (M : List Int) (c m : Nat), o = .slice A m c ∧ i = .int .i64 j ∧ j ≤ ls.length ∧ M = L2 ++ (ls.take j).flatMap lnkL ∧ M.length = m ∧ m = 4 + 12 * j ∧ OwnB wr w1.heap.size o M ∧ Below w1.heap.size w1 wr) (fun _ i _ => ls.length - (intOf i).toNat)
      case atStart => exact ⟨0, A2, L2, c2, k2, rfl, rfl, Nat.zero_le _, by simp, Hl2.out, by have := HK2.out; omega, Hown2.out, Hb2.out⟩
      case round =>
        obtain ⟨j, A3, L3, c3, k3, rfl, rfl, hj, hM, hMl, hk3, hown, hbr⟩ := hrel
        obtain ⟨w3, hw3⟩ : ∃ w3, wr = w3 := ⟨_, rfl⟩
        subst hw3
        obtain ⟨w3, rfl⟩ : ∃ w3 : World, w3 = wr := ⟨_, rfl⟩
        have HMr := Lib.hid hM
        have Hown3 := Lib.hid hown
        have Hb3 := Lib.hid hbr
        have Hl3 := Lib.hid hMl
        have Hk3 := Lib.hid hk3
        have hk3b : k3 ≤ 4 + 12 * j := by omega
        clear z0 z1 z2 z3 z4 z5 z6 z7 z8 zf
        obtain ⟨z0, z1, z2, z3, z4, z5, z6, z7, z8, zf⟩ := FW.out _ hbr
        by_cases hlt : j < ls.length
        · obtain ⟨g, o, rfl, -, x0, x1, x2, x3⟩ := row_lnk (HL.out.below hbr) j hlt
          have hjl : (j : Int) < (nl : Int) := by have := Hnl.out; omega
          have hj3 : j ≤ 1000 := by have := Hnl.out; omega
          have HS := Lib.hid (List.take_succ_eq_append_getElem hlt)
          generalize ls[j] = x at *
          obtain ⟨e1, e2, e3, e4⟩ := x
          simp only at x0 x1 x2 x3
          have Hj := Lib.hid hlt
          have Hlb3 := Lib.hid (lb_new hown (.cells #[.int .i64 e1, .int .i64 e2, .int .i64 e3, .int .i64 e4] 152) (show Blk _ _ 152 #[.int .i64 e1, .int .i64 e2, .int .i64 e3, .int .i64 e4] from Blk.new w3 _ _))
          have Hbn := Lib.hid (below_new w3 (.cells #[.int .i64 e1, .int .i64 e2, .int .i64 e3, .int .i64 e4] 152))
          clear hM hbr hown hMl hk3
          go_upto_region 8 with fail
          obtain ⟨gl, hgl⟩ : ∃ gl, w3.heap.size = gl := ⟨_, rfl⟩
          obtain ⟨w4, hw4⟩ : ∃ w4, w3.alloc (.cells #[.int .i64 e1, .int .i64 e2, .int .i64 e3, .int .i64 e4] 152) = w4 := ⟨_, rfl⟩
          have Hown4 := Lib.hid (Hown3.out.below Hbn.out)
          have Hb4 := Lib.hid (below_trans Hb3.out Hb3.out.size Hbn.out)
          rw [hw4] at Hown4 Hb4 Hlb3 ⊢
          rw [hgl] at Hlb3 ⊢
          obtain ⟨L4, rfl⟩ : ∃ L4, L4 = L3 := ⟨_, rfl⟩
          obtain ⟨k4, rfl⟩ : ∃ k4, k4 = k3 := ⟨_, rfl⟩
          have Hl4 := Hl3
          have Hlb4 := Hlb3
          clear hw4 hgl Hlb3 Hbn z0 z1 z2 z3 z4 z5 z6 z7 z8 zf x0 x1 x2 x3
          obtain ⟨x0, x1, x2, x3, xf⟩ := blk4 Hlb4.out.1
          go_wp2_with fail
          with_reducible refine Calls.mono (refBytes4 e2 _) ?_
          rintro r v5 ⟨g5, rfl, -, hr5, hb5⟩
          have Hr5 := Lib.hid hr5
          have Ha5 := Lib.hid hb5
          clear hr5 hb5
          obtain ⟨k5, hk5⟩ : ∃ k, k = k4 + 4 := ⟨_, rfl⟩
          have HK5 := Lib.hid hk5
          have hkb5 : k5 ≤ k4 + 4 := by omega
          clear hk5
          go_wp2_with (at_builtin; (refine app_bytes (w0 := w1) (by rfl) _ _ (by rfl) _ L4 (by rfl) (Hown4.out.below Ha5.out) (below_trans Hb4.out Hb4.out.size Ha5.out) (some ⟨g5, 0, none⟩) 4 4 (beL 4 e2) (by rw [beL_len]) (by rfl) Hr5.out k5 (by rw [List.length_append, Hl4.out, beL_len, HK5.out]) (by omega) ?_); intro A5 c5 w5 hown5 hb5 hkp5; have Hown5' := Lib.hid hown5; have Hb5 := Lib.hid hb5; have Hlb5 := Lib.hid (lb_keep (lb_below Hlb4.out Ha5.out) hkp5); clear hown5 hb5 hkp5 x0 x1 x2 x3 xf; obtain ⟨x0, x1, x2, x3, xf⟩ := blk4 Hlb5.out.1; obtain ⟨L5, hL5⟩ : ∃ L5, L4 ++ beL 4 e2 = L5 := ⟨_, rfl⟩; have Hown5 := Lib.hid (show OwnB w5 w1.heap.size (.slice A5 k5 c5) L5 by rw [← hL5]; exact Hown5'.out); have Hl5 := Lib.hid (show L5.length = k5 by rw [← hL5, List.length_append, Hl4.out, HK5.out]; (first | rfl | rw [beL_len])); have HL5 := Lib.hid hL5; clear hL5 Hown5')
          go_wp2_with fail
          with_reducible refine Calls.mono (refBytes4 e3 _) ?_
          rintro r v6 ⟨g6, rfl, -, hr6, hb6⟩
          have Hr6 := Lib.hid hr6
          have Ha6 := Lib.hid hb6
          clear hr6 hb6
          obtain ⟨k6, hk6⟩ : ∃ k, k = k5 + 4 := ⟨_, rfl⟩
          have HK6 := Lib.hid hk6
          have hkb6 : k6 ≤ k5 + 4 := by omega
          clear hk6
          obtain ⟨k7, hk7⟩ : ∃ k, k = k6 + 2 := ⟨_, rfl⟩
          have HK7 := Lib.hid hk7
          have hkb7 : k7 ≤ k6 + 2 := by omega
          clear hk7
          go_wp2_with (first
            | (at_builtin; (refine app_bytes (w0 := w1) (by rfl) _ _ (by rfl) _ L6 (by rfl) (Hown6.out.below Ha7.out) (below_trans Hb6.out Hb6.out.size Ha7.out) (some ⟨w6.heap.size, 0, none⟩) 2 2 [byteI e1 0, 0] (by rfl) (by rfl) Hr7.out k7 (by rw [List.length_append, Hl6.out, HK7.out]; rfl) (by omega) ?_); intro A7 c7 w7 hown7 hb7 hkp7; have Hown7' := Lib.hid hown7; have Hb7 := Lib.hid hb7; have Hlb7 := Lib.hid (lb_keep (lb_below Hlb6.out Ha7.out) hkp7); clear hown7 hb7 hkp7 x0 x1 x2 x3 xf; obtain ⟨x0, x1, x2, x3, xf⟩ := blk4 Hlb7.out.1; obtain ⟨L7, hL7⟩ : ∃ L7, L6 ++ [byteI e1 0, 0] = L7 := ⟨_, rfl⟩; have Hown7 := Lib.hid (show OwnB w7 w1.heap.size (.slice A7 k7 c7) L7 by rw [← hL7]; exact Hown7'.out); have Hl7 := Lib.hid (show L7.length = k7 by rw [← hL7, List.length_append, Hl6.out, HK7.out]; (first | rfl | rw [beL_len])); have HL7 := Lib.hid hL7; clear hL7 Hown7'; clear kb kb2)
            | (at_builtin; (refine app_bytes (w0 := w1) (by rfl) _ _ (by rfl) _ L5 (by rfl) (Hown5.out.below Ha6.out) (below_trans Hb5.out Hb5.out.size Ha6.out) (some ⟨g6, 0, none⟩) 4 4 (beL 4 e3) (by rw [beL_len]) (by rfl) Hr6.out k6 (by rw [List.length_append, Hl5.out, beL_len, HK6.out]) (by omega) ?_); intro A6 c6 w6 hown6 hb6 hkp6; have Hown6' := Lib.hid hown6; have Hb6 := Lib.hid hb6; have Hlb6 := Lib.hid (lb_keep (lb_below Hlb5.out Ha6.out) hkp6); clear hown6 hb6 hkp6 x0 x1 x2 x3 xf; obtain ⟨x0, x1, x2, x3, xf⟩ := blk4 Hlb6.out.1; obtain ⟨L6, hL6⟩ : ∃ L6, L5 ++ beL 4 e3 = L6 := ⟨_, rfl⟩; have Hown6 := Lib.hid (show OwnB w6 w1.heap.size (.slice A6 k6 c6) L6 by rw [← hL6]; exact Hown6'.out); have Hl6 := Lib.hid (show L6.length = k6 by rw [← hL6, List.length_append, Hl5.out, HK6.out]; (first | rfl | rw [beL_len])); have HL6 := Lib.hid hL6; clear hL6 Hown6'; have Hr7 := Lib.hid (rows_blk (t := 5) (l := [byteI e1 0, 0]) (Blk.new w6 5 #[.int .u8 (byteI e1 0), .int .u8 0])); have Ha7 := Lib.hid (below_new w6 (.cells #[.int .u8 (byteI e1 0), .int .u8 0] 5)); obtain ⟨kb, kb2⟩ := byte_lo e1))
          go_wp2_with fail
          with_reducible refine Calls.mono (refBytes2 e4 _) ?_
          rintro r v8 ⟨g8, rfl, -, hr8, hb8⟩
          have Hr8 := Lib.hid hr8
          have Ha8 := Lib.hid hb8
          clear hr8 hb8
          obtain ⟨k8, hk8⟩ : ∃ k, k = k7 + 2 := ⟨_, rfl⟩
          have HK8 := Lib.hid hk8
          have hkb8 : k8 ≤ k7 + 2 := by omega
          clear hk8
          go_wp2_with (at_builtin; (refine app_bytes (w0 := w1) (by rfl) _ _ (by rfl) _ L7 (by rfl) (Hown7.out.below Ha8.out) (below_trans Hb7.out Hb7.out.size Ha8.out) (some ⟨g8, 0, none⟩) 2 2 (beL 2 e4) (by rw [beL_len]) (by rfl) Hr8.out k8 (by rw [List.length_append, Hl7.out, beL_len, HK8.out]) (by omega) ?_); intro A8 c8 w8 hown8 hb8 hkp8; have Hown8' := Lib.hid hown8; have Hb8 := Lib.hid hb8; have Hlb8 := Lib.hid (lb_keep (lb_below Hlb7.out Ha8.out) hkp8); clear hown8 hb8 hkp8 x0 x1 x2 x3 xf; obtain ⟨x0, x1, x2, x3, xf⟩ := blk4 Hlb8.out.1; obtain ⟨L8, hL8⟩ : ∃ L8, L7 ++ beL 2 e4 = L8 := ⟨_, rfl⟩; have Hown8 := Lib.hid (show OwnB w8 w1.heap.size (.slice A8 k8 c8) L8 by rw [← hL8]; exact Hown8'.out); have Hl8 := Lib.hid (show L8.length = k8 by rw [← hL8, List.length_append, Hl7.out, HK8.out]; (first | rfl | rw [beL_len])); have HL8 := Lib.hid hL8; clear hL8 Hown8')
          have Hres := Lib.hid (show L8 = L2 ++ (ls.take (j + 1)).flatMap lnkL by
            have h9 := lnkL_is ⟨e1, e2, e3, e4⟩ L4
            simp only at h9
            rw [HL5.out, HL6.out, HL7.out, HL8.out] at h9
            rw [h9, HS.out, HMr.out, List.flatMap_append, List.append_assoc]
            simp)
          go_roundw
          case measure => have := Hj.out; simp [intOf]; omega
          case rel => exact ⟨j + 1, A8, L8, c8, k8, rfl, by go_num, Hj.out, Hres.out, Hl8.out, by have := Hk3.out; have := HK5.out; have := HK6.out; have := HK7.out; have := HK8.out; omega, Hown8.out, Hb8.out⟩
        · have hjl : ¬ (j : Int) < (nl : Int) := by have := Hnl.out; omega
          have hMM : L3 = (if (1 : Int) = 1 then routerL ls else []) := by
            have hj' : j = ls.length := by omega
            rw [hM, hj', List.take_length, ← HL2.out, HL1.out, if_pos rfl, Hnl.out]
            simp [routerL]
          have HMM := Lib.hid hMM
          clear hMM hM hbr hown hMl hk3
          go_wp2
          go_meet
          case rel => exact ⟨A3, L3, c3, by rw [Hl3.out], HMM.out, Hown3.out, Hb3.out⟩
    · go_wp2
      go_meet
      case rel => exact ⟨none, [], 0, rfl, by rw [if_neg hk1], Hown1.out, Hb1.out⟩
  case rest =>
    obtain ⟨A1, L1, c1, rfl, hL1, hown, hbx⟩ := hcut
    have hl1 : L1.length ≤ 12004 := by
      rw [hL1]
      split
      · rw [routerL_len]; have := Hnl.out; omega
      · simp
    have HL1 := Lib.hid hL1
    have HownB := Lib.hid hown
    have HbB := Lib.hid hbx
    obtain ⟨w2, rfl⟩ : ∃ w2 : World, w2 = wc := ⟨_, rfl⟩
    clear hL1 hown z0 z1 z2 z3 z4 z5 z6 z7 z8 zf
    obtain ⟨z0, z1, z2, z3, z4, z5, z6, z7, z8, zf⟩ := FW.out _ hbx
    clear hbx
    go_wp2
    go_loopw [3, 6] (fun o i wr => ∃ (j : Nat) (A : Option Addr) (M : List Int) (c m : Nat), o = .slice A m c ∧ i = .int .i64 j ∧ j ≤ ms.length ∧ M = L1 ++ (ms.take j).flatMap (beL 4) ∧ M.length = m ∧ m ≤ 12004 + 4 * j ∧ OwnB wr w1.heap.size o M ∧ Below w1.heap.size w1 wr) (fun _ i _ => ms.length - (intOf i).toNat)
    case atStart => exact ⟨0, A1, L1, c1, L1.length, rfl, rfl, Nat.zero_le _, by simp, rfl, by omega, HownB.out, HbB.out⟩
    case round =>
      obtain ⟨j, A3, L3, c3, k3, rfl, rfl, hj, hM, hMl, hk3, hown, hbr⟩ := hrel
      have HMr := Lib.hid hM
      have Hown3 := Lib.hid hown
      have Hb3 := Lib.hid hbr
      have Hl3 := Lib.hid hMl
      obtain ⟨w3, rfl⟩ : ∃ w3 : World, w3 = wr := ⟨_, rfl⟩
      clear z0 z1 z2 z3 z4 z5 z6 z7 z8 zf hl1
      obtain ⟨z0, z1, z2, z3, z4, z5, z6, z7, z8, zf⟩ := FW.out _ hbr
      have hjm : j ≤ 1000 := by have := Hnm.out; omega
      by_cases hlt : j < ms.length
      · obtain ⟨g, o, rfl, -, x0⟩ := row_int (HM.out.below hbr) j hlt
        have hjl : (j : Int) < (nm : Int) := by have := Hnm.out; omega
        have HS := Lib.hid (List.take_succ_eq_append_getElem hlt)
        generalize ms[j] = x at *
        have Hj := Lib.hid hlt
        clear hM hbr hown hMl
        go_wp2_with fail
        with_reducible refine Calls.mono (refBytes4 x _) ?_
        rintro r v5 ⟨g5, rfl, -, hr5, hb5⟩
        have Hr5 := Lib.hid hr5
        have Ha5 := Lib.hid hb5
        clear hr5 hb5
        obtain ⟨k5, hk5⟩ : ∃ k, k = k3 + 4 := ⟨_, rfl⟩
        have HK5 := Lib.hid hk5
        have hkb5 : k5 ≤ k3 + 4 := by omega
        clear hk5
        go_wp2_with (at_builtin; (refine app_bytes (w0 := w1) (by rfl) _ _ (by rfl) _ L3 (by rfl) (Hown3.out.below Ha5.out) (below_trans Hb3.out Hb3.out.size Ha5.out) (some ⟨g5, 0, none⟩) 4 4 (beL 4 x) (by rw [beL_len]) (by rfl) Hr5.out k5 (by rw [List.length_append, Hl3.out, beL_len, HK5.out]) (by omega) ?_); intro A5 c5 w5 hown5 hb5 hkp5; have Hown5' := Lib.hid hown5; have Hb5 := Lib.hid hb5; clear hown5 hb5 hkp5 x0 z0 z1 z2 z3 z4 z5 z6 z7 z8 zf; obtain ⟨L5, hL5⟩ : ∃ L5, L3 ++ beL 4 x = L5 := ⟨_, rfl⟩; have Hown5 := Lib.hid (show OwnB w5 w1.heap.size (.slice A5 k5 c5) L5 by rw [← hL5]; exact Hown5'.out); have Hl5 := Lib.hid (show L5.length = k5 by rw [← hL5, List.length_append, Hl3.out, HK5.out]; (first | rfl | rw [beL_len])); have HL5 := Lib.hid hL5; clear hL5 Hown5')
        have Hres := Lib.hid (show L5 = L1 ++ (ms.take (j + 1)).flatMap (beL 4) by
          rw [← HL5.out, HS.out, HMr.out, List.flatMap_append, List.append_assoc]
          simp)
        go_roundw
        case measure => have := Hj.out; simp [intOf]; omega
        case rel => exact ⟨j + 1, A5, L5, c5, k5, rfl, by go_num, Hj.out, Hres.out, Hl5.out, by have := HK5.out; omega, Hown5.out, Hb5.out⟩
      · have hjl : ¬ (j : Int) < (nm : Int) := by have := Hnm.out; omega
        have hbd : L3 = bodyL y2 ls ms := by
          have hj' : j = ms.length := by omega
          rw [hM, hj', List.take_length, ← refBody_is H1m.out]
          unfold refBodyL
          rw [HL1.out]
        obtain ⟨b, rfl⟩ : ∃ b, b = L3 := ⟨_, rfl⟩
        have hbl : k3 ≤ 20000 := by rw [← hMl, hbd]; exact bodyL_len _ _ _ (by have := Hnl.out; omega) (by have := Hnm.out; omega)
        have hbo : ∀ x ∈ b, byteOk x := by rw [hbd]; exact bodyL_ok _ _ _
        have Hgoal : Hid (bytesL ⟨y1, y2, y3, y4, y5, y6, y7⟩ ls ms = sealL (rawL ⟨y1, y2, y3, y4, y5, y6, y7⟩ b)) := Lib.hid (by unfold bytesL; rw [hbd])
        have hN2 : N = 20 + k3 := by rw [HN.out, Hgoal.out, sealL_len _ (by rw [rawL_len]; omega), rawL_len, hMl]
        have HR := Lib.hid (OwnR.rows (C := 1) (cells := bcell) (fun _ => rfl) hown).2
        have Hbo := Lib.hid hbo
        have HN2 := Lib.hid hN2
        have hN3 : N ≤ 20020 := by omega
        have hN4 : 20 ≤ N := by omega
        clear hbd hM hbr hown hMl hbo hN2 hk3 hj hjm hlt HMr Hown3
        go_upto_region 12 with fail
        obtain ⟨w12, hw12⟩ : ∃ w12, w3.alloc (.cells #[.int .i64 y1, .int .i64 y2, .int .i64 y3, .int .i64 y4, .int .i64 y5, .int .i64 0, .int .i64 (20 + (k3 : Int))] 27) = w12 := ⟨_, rfl⟩
        have hb12 := below_new w3 (.cells #[.int .i64 y1, .int .i64 y2, .int .i64 y3, .int .i64 y4, .int .i64 y5, .int .i64 0, .int .i64 (20 + (k3 : Int))] 27)
        rw [hw12] at hb12 ⊢
        obtain ⟨hd, hhd⟩ : ∃ hd, headL ⟨y1, y2, y3, y4, y5, 0, 20 + (k3 : Int)⟩ = hd := ⟨_, rfl⟩
        have hPH := refHeadBytes y1 y2 y3 y4 y5 0 (20 + (k3 : Int)) w12
        rw [hhd] at hPH
        have hd0 : hd.length = 20 := by rw [← hhd]; exact headL_len _
        have hraw : rawL ⟨y1, y2, y3, y4, y5, y6, y7⟩ b = hd ++ b := by rw [← hhd, ← Hl3.out]; rfl
        have hrl : (hd ++ b).length = N := by rw [List.length_append, hd0, Hl3.out, HN2.out]
        have hro : ∀ x ∈ hd ++ b, byteOk x := by rw [← hraw]; exact rawL_ok _ _ Hbo.out
        have HPH := Lib.hid hPH
        have Hraw := Lib.hid hraw
        have Hrl := Lib.hid hrl
        have Hro := Lib.hid hro
        have Hb12 := Lib.hid (below_trans Hb3.out Hb3.out.size hb12)
        have HR12 := Lib.hid (rows_keep HR.out hb12)
        clear hw12 hb12 hhd hd0 hPH hraw hrl hro z0 z1 z2 z3 z4 z5 z6 z7 z8 zf
        with_reducible refine Calls.mono HPH.out ?_
        rintro r w13 ⟨A2, c2, rfl, hown, hb13⟩
        have HR13 := Lib.hid (rows_keep HR12.out hb13)
        have Hown13 := Lib.hid hown
        have Hb13 := Lib.hid hb13
        clear hown hb13
        go_wp2_with (first
          | (at_builtin; (refine app_bytes (w0 := w14) (by rfl) _ _ (by rfl) _ [] (by rfl) HN14.out (Below.refl _ _) (some ⟨g, 0, none⟩) c5 2 ((hd ++ b).take 2) Ht2.out (by rfl) HT14.out 2 Ht3.out (by decide) ?_); intro A15 c15 w15 hown15 hb15 _; have Hown15 := Lib.hid hown15; have Hb15 := Lib.hid hb15; clear hown15 hb15)
          | (at_builtin; (refine app_bytes (w0 := w12) (by rfl) _ _ (by rfl) _ hd (by rfl) Hown13.out Hb13.out A3 c3 k3 b Hl3.out.symm (by rfl) HR13.out N Hrl.out (by omega) ?_); intro A5 c5 w14 hown14 hb14 _; obtain ⟨g, c6, hc6, hv6⟩ := own_some hown14 Hrl.out (by omega); injection hv6 with hA hn hc; subst hA hc; clear hn; have HO := Lib.hid hown14; have Hb14 := Lib.hid hb14; have HT14 := Lib.hid (rows_take (OwnR.rows (C := 1) (cells := bcell) (fun _ => rfl) (own_len hown14 Hrl.out)).2 2); have HN14 := Lib.hid (OwnR.nil (e := 5) (C := 1) (cells := bcell) w14 w14.heap.size); have Ht2 := Lib.hid (show 2 = ((hd ++ b).take 2).length by rw [List.length_take, Hrl.out]; omega); have Ht3 := Lib.hid (show ([] ++ (hd ++ b).take 2).length = 2 by rw [List.nil_append, ← Ht2.out]); clear hown14 hb14))
        have hF := refFill_any (some ⟨g, 2, none⟩) (c5 - 2) ((hd ++ b).drop 2) w15 w15.heap.size (by have := rows_drop (OwnR.rows (C := 1) (cells := bcell) (fun _ => rfl) (own_len (HO.out.below Hb15.out) Hrl.out)).2 2 (by rw [Hrl.out]; omega) (by rw [Hrl.out]; omega); exact this) (Nat.le_refl _) (fun x hx => Hro.out x (List.mem_of_mem_drop hx)) (by rw [List.length_drop, Hrl.out]; omega) (by rw [List.length_drop, Hrl.out]; omega) (N - 2) (by rw [List.length_drop, Hrl.out])
        with_reducible refine Calls.mono hF ?_
        rintro r w16 ⟨v16, rfl, hown16, hb16⟩
        have hfl : (fillL ((hd ++ b).drop 2)).length = N - 2 := by rw [fillL_len, List.length_drop, Hrl.out]
        obtain ⟨A16, c16, hv16⟩ := hown16.shape
        rw [hfl] at hv16
        subst hv16
        have HR16 := Lib.hid (OwnR.rows (C := 1) (cells := bcell) (fun _ => rfl) (own_len hown16 hfl)).2
        have Hfl := Lib.hid hfl
        have Hb16 := Lib.hid hb16
        clear hF hfl hown16 hb16
        go_wp2_with (at_builtin; (refine app_bytes (w0 := w14) (by rfl) _ _ (by rfl) _ ([] ++ (hd ++ b).take 2) (by rfl) (Hown15.out.below Hb16.out) (below_trans Hb15.out Hb15.out.size Hb16.out) A16 c16 (N - 2) (fillL ((hd ++ b).drop 2)) Hfl.out.symm (by rfl) HR16.out N (by rw [List.length_append, Ht3.out, Hfl.out]; omega) (by omega) ?_); intro A17 c17 w17 hown17 hb17 _; have Hown17 := Lib.hid hown17; have Hb17 := Lib.hid hb17; clear hown17 hb17)
        go_ret
        have hbz := below_trans Hb12.out Hb12.out.size (below_trans Hb14.out Hb14.out.size Hb17.out)
        refine ⟨A17, c17, rfl, ?_, below_trans Hb.out hsz hbz⟩
        have hfin : [] ++ (hd ++ b).take 2 ++ fillL ((hd ++ b).drop 2) = bytesL ⟨y1, y2, y3, y4, y5, y6, y7⟩ ls ms := by
          rw [Hgoal.out, Hraw.out]
          rfl
        rw [← hfin]
        exact OwnR.lower Hown17.out (Nat.le_trans hsz (below_trans Hb12.out Hb12.out.size Hb14.out).size)


end Go.Proofs.YtpnbibokddhheaaGreat

/-
  The document's sealed description: its way; it is the program's.
-/
namespace Go.Proofs.YtpnbibokddhheaaGreat
open Go.RowKit

theorem fillL_far {r : List Int} {k : Nat} (h : 16 ≤ k) : (fillL r)[k]? = r[k]? := by
  unfold fillL zero2
  rw [List.getElem?_set_ne (by omega), List.getElem?_set_ne (by omega), List.getElem?_set_ne (by omega), List.getElem?_set_ne (by omega)]
theorem headL_split (h : Hd) : ∃ X, X.length = 18 ∧ headL h = X ++ beL 2 h.long :=
  ⟨(head1 h.age h.kind ++ [h.id, h.adv, h.seq].flatMap (beL 4)) ++ beL 2 h.sum, by simp [head1_len, beL_len], by unfold headL; simp [List.append_assoc]⟩
theorem bytesL_two (h : Hd) (ls : List Lnk) (ms : List Int) (hl : ls.length ≤ 1000) (hm : ms.length ≤ 1000) : (bytesL h ls ms)[18]?.getD 0 * 256 + (bytesL h ls ms)[19]?.getD 0 = ((bytesL h ls ms).length : Int) := by
  obtain ⟨hlo, hhi⟩ := bytesL_len h ls ms hl hm
  have hbl := bodyL_len h.kind ls ms hl hm
  have hlen : ((bytesL h ls ms).length : Int) = 20 + ((bodyL h.kind ls ms).length : Int) := by
    have h1 := rawL_len h (bodyL h.kind ls ms)
    have h3 := sealL_len (rawL h (bodyL h.kind ls ms)) (by omega)
    unfold bytesL
    rw [h3, h1]
    omega
  obtain ⟨X, hX, hXe⟩ := headL_split { h with sum := 0, long := 20 + ((bodyL h.kind ls ms).length : Int) }
  have hraw : rawL h (bodyL h.kind ls ms) = X ++ (beL 2 (20 + ((bodyL h.kind ls ms).length : Int)) ++ bodyL h.kind ls ms) := by
    unfold rawL
    rw [hXe, List.append_assoc]
  have hr2 : ∀ k, 18 ≤ k → (bytesL h ls ms)[k]? = (rawL h (bodyL h.kind ls ms))[k]? := by
    intro k hk
    have ht : ((rawL h (bodyL h.kind ls ms)).take 2).length = 2 := by rw [List.length_take, rawL_len]; omega
    unfold bytesL sealL
    rw [List.getElem?_append_right (by omega), ht, fillL_far (by omega), List.getElem?_drop]
    congr 1
    omega
  have h18 : (bytesL h ls ms)[18]? = some (byteI (20 + ((bodyL h.kind ls ms).length : Int)) 1) := by
    rw [hr2 18 (by omega), hraw, List.getElem?_append_right (by omega), hX]
    rfl
  have h19 : (bytesL h ls ms)[19]? = some (byteI (20 + ((bodyL h.kind ls ms).length : Int)) 0) := by
    rw [hr2 19 (by omega), hraw, List.getElem?_append_right (by omega), hX]
    rfl
  rw [h18, h19, hlen]
  simp only [Option.getD_some]
  unfold byteI
  simp
  omega
theorem sealed_long (h : Hd) (ls : List Lnk) (ms : List Int) (hl : ls.length ≤ 1000) (hm : ms.length ≤ 1000) : (sealedH h ls ms).long = ((bytesL h ls ms).length : Int) := bytesL_two h ls ms hl hm
theorem rows_two {w : World} {g o : Nat} {x y : Int} (h0 : w.cell? ⟨g, o, none⟩ = some (.int .u8 x)) (h1 : w.cell? ⟨g, o + 1, none⟩ = some (.int .u8 y)) : RowsAt 1 bcell w (g + 1) (some ⟨g, o, none⟩) [x, y] := by
  intro _
  refine ⟨g, o, rfl, by omega, fun k hk i u hi hu => ?_⟩
  have hi0 : i = 0 := by omega
  subst hi0
  match k, hk with
  | 0, _ => simp [bcell] at hu; subst hu; simpa using h0
  | 1, _ => simp [bcell] at hu; subst hu; simpa using h1
  | (k + 2), hk => exact absurd hk (by simp)
theorem below_none {w w' : World} (h : w.grownBy w' none) : Below w.heap.size w w' := (Below.refl w.heap.size w).grown h (Nat.le_refl _) (fun j hj => by cases hj)

/-- behind the two lists -/
structure S6 (w2 : World) (k g : Nat) (cs : Array Value) (x0 x1 : Int) (va : Value) (ls : List Lnk) (W : World) : Prop where
  blk : Blk W k 31 cs
  oa : OwnR 152 4 Lnk.cells W w2.heap.size va ls
  na : va.ownBlock ≠ some k
  c0 : W.cell? ⟨g, 16, none⟩ = some (.int .u8 x0)
  c1 : W.cell? ⟨g, 17, none⟩ = some (.int .u8 x1)
  bel : Below w2.heap.size w2 W
  gk : g < k
  k2 : w2.heap.size ≤ k
theorem cell_set {w : World} {k g i j : Nat} {u v : Value} (h : w.cell? ⟨g, j, none⟩ = some v) (hne : g < k) : (w.setCell ⟨k, i, none⟩ u).cell? ⟨g, j, none⟩ = some v :=
  (World.cell?_of_block (w := w) (a := ⟨g, j, none⟩) (Below.heap_setCell w ⟨k, i, none⟩ u g (by simpa using Nat.ne_of_lt hne))).trans h
theorem sealed_one {w2 wc w5 : World} {k g nl : Nat} {a1 a2 a3 a4 a5 a6 a7 : Value} {x0 x1 : Int} {ls : List Lnk} {v : Value} (hown : OwnR 152 4 Lnk.cells w5 wc.heap.size v ([] ++ ls)) (hg : wc.grownBy w5 (Value.slice none 0 0).ownBlock)
    (hk : Blk wc k 31 #[a1, a2, a3, a4, a5, a6, a7, .slice none 0 0, .slice none 0 0]) (hb : Below w2.heap.size w2 wc) (h0 : wc.cell? ⟨g, 16, none⟩ = some (.int .u8 x0)) (h1 : wc.cell? ⟨g, 17, none⟩ = some (.int .u8 x1)) (hgk : g < k) (hk2 : w2.heap.size ≤ k) (hn : nl = ls.length) :
    ∃ w6 A c, v = .slice A nl c ∧ (w5.cell? ⟨k, 7, none⟩ = some (.slice none 0 0) ∧ w5.frozen? ⟨k, 7, none⟩ = false) ∧ w5.setCell ⟨k, 7, none⟩ (.slice A nl c) = w6 ∧ S6 w2 k g #[a1, a2, a3, a4, a5, a6, a7, .slice A nl c, .slice none 0 0] x0 x1 (.slice A nl c) ls w6 := by
  rw [List.nil_append] at hown
  have hb5 : Below wc.heap.size wc w5 := below_none hg
  obtain ⟨A, c, hv⟩ := hown.shape
  rw [← hn] at hv
  subst hv
  have hne : (Value.slice A nl c).ownBlock ≠ some k := fun e => by have := (OwnR.block hown _ e).1; have := hk.lt; omega
  have hb0 : g < wc.heap.size := Nat.lt_trans hgk hk.lt
  refine ⟨_, A, c, rfl, ⟨(hk.below hb5 hk.lt).cell 7, (hk.below hb5 hk.lt).frozen 7⟩, rfl, ⟨?_, OwnR.lower (own_far hown hne 7 _) hb.size, hne, cell_set ((hb5.cell (p := ⟨g, 16, none⟩) hb0).trans h0) hgk, cell_set ((hb5.cell (p := ⟨g, 17, none⟩) hb0).trans h1) hgk, (below_trans hb hb.size hb5).setCell (p := ⟨k, 7, none⟩) hk2 _, hgk, hk2⟩⟩
  have := (hk.below hb5 hk.lt).set_ 7 (.slice A nl c)
  simpa using this
structure S8 (w2 : World) (k g : Nat) (cs : Array Value) (x0 x1 : Int) (va vb : Value) (ls : List Lnk) (ms : List Int) (W : World) : Prop where
  blk : Blk W k 31 cs
  oa : OwnR 152 4 Lnk.cells W w2.heap.size va ls
  na : va.ownBlock ≠ some k
  ob : OwnR 3 1 icell W w2.heap.size vb ms
  nb : vb.ownBlock ≠ some k
  c0 : W.cell? ⟨g, 16, none⟩ = some (.int .u8 x0)
  c1 : W.cell? ⟨g, 17, none⟩ = some (.int .u8 x1)
  bel : Below w2.heap.size w2 W
  k2 : w2.heap.size ≤ k
theorem sealed_two {w2 w6 w7 : World} {k g nm : Nat} {a1 a2 a3 a4 a5 a6 a7 va : Value} {x0 x1 : Int} {ls : List Lnk} {ms : List Int} {v : Value} (hown : OwnR 3 1 icell w7 w6.heap.size v ([] ++ ms)) (hg : w6.grownBy w7 (Value.slice none 0 0).ownBlock)
    (h : S6 w2 k g #[a1, a2, a3, a4, a5, a6, a7, va, .slice none 0 0] x0 x1 va ls w6) (hn : nm = ms.length) :
    ∃ w8 A c, v = .slice A nm c ∧ (w7.cell? ⟨k, 8, none⟩ = some (.slice none 0 0) ∧ w7.frozen? ⟨k, 8, none⟩ = false) ∧ w7.setCell ⟨k, 8, none⟩ (.slice A nm c) = w8 ∧ S8 w2 k g #[a1, a2, a3, a4, a5, a6, a7, va, .slice A nm c] x0 x1 va (.slice A nm c) ls ms w8 := by
  rw [List.nil_append] at hown
  have hb5 : Below w6.heap.size w6 w7 := below_none hg
  obtain ⟨A, c, hv⟩ := hown.shape
  rw [← hn] at hv
  subst hv
  have hne : (Value.slice A nm c).ownBlock ≠ some k := fun e => by have := (OwnR.block hown _ e).1; have := h.blk.lt; omega
  have hb0 : g < w6.heap.size := Nat.lt_trans h.gk h.blk.lt
  refine ⟨_, A, c, rfl, ⟨(h.blk.below hb5 h.blk.lt).cell 8, (h.blk.below hb5 h.blk.lt).frozen 8⟩, rfl, ⟨?_, own_far (h.oa.below hb5) h.na 8 _, h.na, OwnR.lower (own_far hown hne 8 _) h.bel.size, hne, cell_set ((hb5.cell (p := ⟨g, 16, none⟩) hb0).trans h.c0) h.gk, cell_set ((hb5.cell (p := ⟨g, 17, none⟩) hb0).trans h.c1) h.gk, (below_trans h.bel h.bel.size hb5).setCell (p := ⟨k, 8, none⟩) h.k2 _, h.k2⟩⟩
  have := (h.blk.below hb5 h.blk.lt).set_ 8 (.slice A nm c)
  simpa using this

set_option maxHeartbeats 8000000 in
set_option maxRecDepth 100000 in
theorem refSealed_any (y1 y2 y3 y4 y5 y6 y7 : Int) (ka : Option Addr) (kc : Nat) (ls : List Lnk) (ma : Option Addr) (mc : Nat) (ms : List Int) (w : World) (B : Nat) (hl : RowsAt 4 Lnk.cells w B ka ls) (hm : RowsAt 1 icell w B ma ms) (hB : B ≤ w.heap.size) (hlm : ls.length ≤ 1000) (hmm : ms.length ≤ 1000) (nl nm : Nat) (hnl : nl = ls.length) (hnm : nm = ms.length) (h1m : y2 = 1 → ms = [])
    {s1 s2 : Int} (hs1 : (sealedH ⟨y1, y2, y3, y4, y5, y6, y7⟩ ls ms).sum = s1) (hs2 : (sealedH ⟨y1, y2, y3, y4, y5, y6, y7⟩ ls ms).long = s2) :
    Calls Tryz.prog 77 #[.agg #[.int .i64 y1, .int .i64 y2, .int .i64 y3, .int .i64 y4, .int .i64 y5, .int .i64 y6, .int .i64 y7, .slice ka nl kc, .slice ma nm mc]] w fun r w' => ∃ Aa ca Ab cb, r = .returned (.agg #[.int .i64 y1, .int .i64 y2, .int .i64 y3, .int .i64 y4, .int .i64 y5, .int .i64 s1, .int .i64 s2, .slice Aa nl ca, .slice Ab nm cb]) ∧ OwnR 152 4 Lnk.cells w' w.heap.size (.slice Aa nl ca) ls ∧ OwnR 3 1 icell w' w.heap.size (.slice Ab nm cb) ms ∧ Below w.heap.size w w' := by
  obtain ⟨N, hN⟩ : ∃ N, N = (bytesL ⟨y1, y2, y3, y4, y5, y6, y7⟩ ls ms).length := ⟨_, rfl⟩
  have hs2N : s2 = (N : Int) := by rw [← hs2, sealed_long _ _ _ hlm hmm, hN]
  subst hs2N
  obtain ⟨hN1, hN2⟩ := bytesL_len ⟨y1, y2, y3, y4, y5, y6, y7⟩ ls ms hlm hmm
  rw [← hN] at hN1 hN2
  have hbo := bytesL_ok ⟨y1, y2, y3, y4, y5, y6, y7⟩ ls ms
  obtain ⟨x0, x1, hx0, hx1, ho0, ho1, hsum⟩ : ∃ x0 x1, (bytesL ⟨y1, y2, y3, y4, y5, y6, y7⟩ ls ms)[16]? = some x0 ∧ (bytesL ⟨y1, y2, y3, y4, y5, y6, y7⟩ ls ms)[17]? = some x1 ∧ byteOk x0 ∧ byteOk x1 ∧ x0 * 256 + x1 = s1 := by
    have e0 := List.getElem?_eq_getElem (l := bytesL ⟨y1, y2, y3, y4, y5, y6, y7⟩ ls ms) (i := 16) (by omega)
    have e1 := List.getElem?_eq_getElem (l := bytesL ⟨y1, y2, y3, y4, y5, y6, y7⟩ ls ms) (i := 17) (by omega)
    refine ⟨_, _, e0, e1, hbo _ (List.getElem_mem _), hbo _ (List.getElem_mem _), ?_⟩
    rw [← hs1]
    unfold sealedH
    rw [e0, e1]
    rfl
  obtain ⟨w2, hW2⟩ : ∃ w2, (w.alloc (.cells #[.int .i64 y1, .int .i64 y2, .int .i64 y3, .int .i64 y4, .int .i64 y5, .int .i64 y6, .int .i64 y7, .slice ka nl kc, .slice ma nm mc] 31)).alloc (.cells #[.int .i64 0, .int .i64 0, .int .i64 0, .int .i64 0, .int .i64 0, .int .i64 0, .int .i64 0, .slice none 0 0, .slice none 0 0] 31) = w2 := ⟨_, rfl⟩
  have hk : Blk w2 w.heap.size 31 #[.int .i64 y1, .int .i64 y2, .int .i64 y3, .int .i64 y4, .int .i64 y5, .int .i64 y6, .int .i64 y7, .slice ka nl kc, .slice ma nm mc] := by rw [← hW2]; exact (Blk.new w _ _).alloc _
  have hq : Blk w2 (w.heap.size + 1) 31 #[.int .i64 0, .int .i64 0, .int .i64 0, .int .i64 0, .int .i64 0, .int .i64 0, .int .i64 0, .slice none 0 0, .slice none 0 0] := by rw [← hW2]; exact Blk.size (by simp)
  have hb : Below w.heap.size w w2 := by rw [← hW2]; exact ((Below.refl w.heap.size w).alloc (Nat.le_refl _) _).alloc (by simp) _
  have FW := Lib.hid (fun W (hW : Below w2.heap.size w2 W) => blk9 (hk.below hW hk.lt))
  have FQ := Lib.hid (fun W (hW : Below w2.heap.size w2 W) => hq.below hW hq.lt)
  have hq2 : w.heap.size + 1 < w2.heap.size := hq.lt
  have hl2 := (hl.below (hb.mono hB)).more (Nat.le_trans hB hb.size)
  have hm2 := (hm.below (hb.mono hB)).more (Nat.le_trans hB hb.size)
  have HB := Lib.hid (refBytes_any y1 y2 y3 y4 y5 y6 y7 ka kc ls ma mc ms w2 w2.heap.size hl2 hm2 (Nat.le_refl _) hlm hmm nl nm hnl hnm h1m N hN)
  have HL := Lib.hid hl2
  have HM := Lib.hid hm2
  have Hb := Lib.hid hb
  have Hnl := Lib.hid hnl
  have Hnm := Lib.hid hnm
  have hnl2 : nl ≤ 1000 := by omega
  have hnm2 : nm ≤ 1000 := by omega
  have HX := Lib.hid (show _ ∧ _ from ⟨hx0, hx1⟩)
  have HO := Lib.hid (show _ ∧ _ from ⟨ho0, ho1⟩)
  have Hsum := Lib.hid hsum
  have HN := Lib.hid hN
  clear hk hq hb hl hm hB hlm hmm hnl hnm h1m hl2 hm2 hx0 hx1 ho0 ho1 hsum hs1 hs2 hbo hN
  obtain ⟨z0, z1, z2, z3, z4, z5, z6, z7, z8, zf⟩ := FW.out w2 (Below.refl _ _)
  go_enter Tryz.func77, Tryz.ntmps77
  go_wp2_with fail
  with_reducible refine Calls.mono HB.out ?_
  rintro r w3 ⟨A3, c3, rfl, hown, hb3⟩
  obtain ⟨g3, c4, hc3, hv3⟩ := own_some hown HN.out.symm (by omega)
  injection hv3 with hA hn hc
  subst hA hc
  clear hn
  have hg3 := OwnB.lt hown
  have hg3a := hg3.1
  have hg3b := hg3.2
  have HC := Lib.hid (show _ ∧ _ from ⟨own_at hown HX.out.1, own_at hown HX.out.2⟩)
  obtain ⟨wc, hwc⟩ : ∃ wc, w3.alloc (.cells #[.int .i64 y1, .int .i64 y2, .int .i64 y3, .int .i64 y4, .int .i64 y5, .int .i64 y6, .int .i64 y7, .slice none 0 0, .slice none 0 0] 31) = wc := ⟨_, rfl⟩
  have hkc : Blk wc w3.heap.size 31 #[.int .i64 y1, .int .i64 y2, .int .i64 y3, .int .i64 y4, .int .i64 y5, .int .i64 y6, .int .i64 y7, .slice none 0 0, .slice none 0 0] := by rw [← hwc]; exact Blk.new w3 _ _
  have hbc : Below w3.heap.size w3 wc := by rw [← hwc]; exact below_new _ _
  obtain ⟨k, hk⟩ : ∃ k, w3.heap.size = k := ⟨_, rfl⟩
  rw [hk] at hkc
  have hkw : k < wc.heap.size := hkc.lt
  have hk2 : w2.heap.size ≤ k := by rw [← hk]; exact hb3.size
  have hg3k : g3 < k := by rw [← hk]; exact hg3b
  have hbw := below_trans hb3 hb3.size hbc
  have Hb3 := Lib.hid hb3
  have Hkc := Lib.hid hkc
  have Hbw := Lib.hid hbw
  have HCc := Lib.hid (show _ ∧ _ from ⟨(hbc.cell (p := ⟨g3, 16, none⟩) hg3b).trans HC.out.1, (hbc.cell (p := ⟨g3, 17, none⟩) hg3b).trans HC.out.2⟩)
  have HLc := Lib.hid (rows_keep HL.out hbw)
  have Hw2c := Lib.hid hbw.size
  clear z0 z1 z2 z3 z4 z5 z6 z7 z8 zf hown hb3 hg3 hg3a hg3b hbc hbw HC
  obtain ⟨a0, a1, a2, a3, a4, a5, a6, a7, a8, af⟩ := FW.out w3 Hb3.out
  have Hwc := Lib.hid hwc
  clear hwc
  go_upto_region 3 with fail
  rw [Hwc.out]
  obtain ⟨z0, z1, z2, z3, z4, z5, z6, z7, z8, zf⟩ := FW.out wc Hbw.out
  obtain ⟨p0, p1, p2, p3, p4, p5, p6, p7, p8, pf⟩ := blk9 hkc
  clear hkc
  go_wp2_with (first
    | (at_builtin; (refine app_rows (e := 3) icell (fun _ => rfl) (by decide) (bytes := 8) (by decide) infoInt' rfl Tryz.underlying29 onesI (by rfl) _ _ (by rfl) w6.heap.size _ [] (by rfl) (OwnR.nil w6 _) ma mc nm ms Hnm.out (by rfl) HM6.out (by have := Hnm.out; simp; omega) (Nat.le_refl _) ?_); intro v7 w7 hown7 hg7 _; obtain ⟨w8, Ab, cb, hv7, ⟨st8, sf8⟩, hw8, h8⟩ := sealed_two hown7 hg7 Hs6.out Hnm.out; subst hv7; have Hs8 := Lib.hid h8; clear hown7 hg7 h8 p0 z0 p1 z1 p2 z2 p3 z3 p4 z4 p5 z5 p6 z6 p7 z7 p8 z8 pf zf; obtain ⟨z0, z1, z2, z3, z4, z5, z6, z7, z8, zf⟩ := FW.out w8 Hs8.out.bel; obtain ⟨p0, p1, p2, p3, p4, p5, p6, p7, p8, pf⟩ := blk9 Hs8.out.blk)
    | (at_builtin; (refine app_rows (e := 152) Lnk.cells (fun _ => rfl) (by decide) (bytes := 32) (by decide) infoLnk rfl Tryz.underlying28 onesL (by rfl) _ _ (by rfl) wc.heap.size _ [] (by rfl) (OwnR.nil wc _) ka kc nl ls Hnl.out (by rfl) HLc.out (by have := Hnl.out; simp; omega) (Nat.le_refl _) ?_); intro v5 w5 hown5 hg5 _; obtain ⟨w6, Aa, ca, hv5, ⟨st6, sf6⟩, hw6, h6⟩ := sealed_one hown5 hg5 Hkc.out Hbw.out HCc.out.1 HCc.out.2 hg3k hk2 Hnl.out; subst hv5; have Hs6 := Lib.hid h6; have HM6 := Lib.hid (rows_keep HM.out h6.bel); clear hown5 hg5 h6 p0 z0 p1 z1 p2 z2 p3 z3 p4 z4 p5 z5 p6 z6 p7 z7 p8 z8 pf zf; obtain ⟨z0, z1, z2, z3, z4, z5, z6, z7, z8, zf⟩ := FW.out w6 Hs6.out.bel; obtain ⟨p0, p1, p2, p3, p4, p5, p6, p7, p8, pf⟩ := blk9 Hs6.out.blk))
  have hNm := refNumber2 (some ⟨g3, 16, none⟩) (c3 - 16) x0 x1 w8 (g3 + 1) (rows_two Hs8.out.c0 Hs8.out.c1) HO.out.1 HO.out.2
  rw [Hsum.out] at hNm
  with_reducible refine Calls.mono hNm ?_
  rintro r w9 ⟨rfl, rfl⟩
  go_upto_region 7 with fail
  obtain ⟨w10, hw10⟩ : ∃ w10, (w8.setCell ⟨k, 5, none⟩ (.int .i64 s1)).setCell ⟨k, 6, none⟩ (.int .i64 (N : Int)) = w10 := ⟨_, rfl⟩
  have hk10 : Blk w10 k 31 #[.int .i64 y1, .int .i64 y2, .int .i64 y3, .int .i64 y4, .int .i64 y5, .int .i64 s1, .int .i64 (N : Int), .slice Aa nl ca, .slice Ab nm cb] := by
    rw [← hw10]
    have := (Hs8.out.blk.set_ 5 (.int .i64 s1)).set_ 6 (.int .i64 (N : Int))
    simpa using this
  have hb10 : Below w2.heap.size w2 w10 := by rw [← hw10]; exact (Hs8.out.bel.setCell (p := ⟨k, 5, none⟩) Hs8.out.k2 _).setCell (p := ⟨k, 6, none⟩) Hs8.out.k2 _
  have Oa := Lib.hid (show OwnR 152 4 Lnk.cells w10 w2.heap.size (.slice Aa nl ca) ls by rw [← hw10]; exact own_far (own_far Hs8.out.oa Hs8.out.na 5 _) Hs8.out.na 6 _)
  have Ob := Lib.hid (show OwnR 3 1 icell w10 w2.heap.size (.slice Ab nm cb) ms by rw [← hw10]; exact own_far (own_far Hs8.out.ob Hs8.out.nb 5 _) Hs8.out.nb 6 _)
  have Hb10 := Lib.hid hb10
  rw [hw10]
  clear hw10 z0 z1 z2 z3 z4 z5 z6 z7 z8 zf p0 p1 p2 p3 p4 p5 p6 p7 p8 pf a0 a1 a2 a3 a4 a5 a6 a7 a8 af hk
  obtain ⟨p0, p1, p2, p3, p4, p5, p6, p7, p8, pf⟩ := blk9 hk10
  obtain ⟨q0, q1, q2, q3, q4, q5, q6, q7, q8, qf⟩ := blk9 (FQ.out w10 hb10)
  clear hk10 hb10
  have hna : (Value.slice Aa nl ca).ownBlock ≠ some (w.heap.size + 1) := fun e => by have := (OwnR.block Oa.out _ e).1; omega
  have hnb : (Value.slice Ab nm cb).ownBlock ≠ some (w.heap.size + 1) := fun e => by have := (OwnR.block Ob.out _ e).1; omega
  have Hna := Lib.hid hna
  have Hnb := Lib.hid hnb
  clear hna hnb
  go_wp2
  refine bodyPost_named (v := .agg #[.int .i64 y1, .int .i64 y2, .int .i64 y3, .int .i64 y4, .int .i64 y5, .int .i64 s1, .int .i64 (N : Int), .slice Aa nl ca, .slice Ab nm cb]) (fun W => Blk W (w.heap.size + 1) 31 #[.int .i64 y1, .int .i64 y2, .int .i64 y3, .int .i64 y4, .int .i64 y5, .int .i64 s1, .int .i64 (N : Int), .slice Aa nl ca, .slice Ab nm cb]) (Blk.set9 (FQ.out w10 Hb10.out) _ _ _ _ _ _ _ _ _) (fun W hB => by
    obtain ⟨e0, e1, e2, e3, e4, e5, e6, e7, e8, -⟩ := blk9 hB
    simp [results, Tryz.results77, go_sem, e0, e1, e2, e3, e4, e5, e6, e7, e8]) rfl ?_
  exact ⟨_, _, _, _, rfl, OwnR.lower (own_far9 Oa.out Hna.out _ _ _ _ _ _ _ _ _) Hb.out.size, OwnR.lower (own_far9 Ob.out Hnb.out _ _ _ _ _ _ _ _ _) Hb.out.size, below_set9 (below_trans Hb.out Hb.out.size Hb10.out) (by omega) _ _ _ _ _ _ _ _ _⟩
theorem fld_lsa (y1 y2 y3 y4 y5 y6 y7 : Int) (A : Option Addr) (n c : Nat) (A' : Option Addr) (n' c' : Nat) : ∀ W, (Instr.field 31 (.agg #[.int .i64 y1, .int .i64 y2, .int .i64 y3, .int .i64 y4, .int .i64 y5, .int .i64 y6, .int .i64 y7, .slice A n c, .slice A' n' c']) 0).run Tryz.prog W = .ok (.agg #[.int .i64 y1, .int .i64 y2, .int .i64 y3, .int .i64 y4, .int .i64 y5, .int .i64 y6, .int .i64 y7]) W := fun W => by kernel_rfl
theorem right_head {h : Hd} {ka : Option Addr} {kc : Nat} {ls : List Lnk} {ma : Option Addr} {mc : Nat} {ms : List Int} (hr : rightB ⟨h, ka, kc, ls, ma, mc, ms⟩ = true) : (0 ≤ h.age ∧ h.age ≤ 60) ∧ (-2147483647 ≤ h.seq ∧ h.seq ≤ 2147483647) ∧ (h.kind = 1 → ms = []) ∧ ls.length ≤ 1000 ∧ ms.length ≤ 1000 := by
  have hc := hr
  unfold rightB at hr
  rw [Bool.and_eq_true] at hr
  obtain ⟨h1, h2⟩ := hr
  have hh := h1
  unfold headB at h1
  simp only [Bool.and_eq_true, inB_iff] at h1
  refine ⟨h1.1.1.1, h1.2, ?_, ?_⟩
  · intro hk
    simp only at h2
    rw [if_pos (by simpa using hk)] at h2
    simp only [Bool.and_eq_true, decide_eq_true_eq] at h2
    exact List.eq_nil_of_length_eq_zero h2.1.2
  · simp only at h2
    split at h2
    · simp only [linksB, Bool.and_eq_true, decide_eq_true_eq] at h2
      omega
    · simp only [membersB, Bool.and_eq_true, decide_eq_true_eq] at h2
      have : ∀ {l : List Int} {last : Int}, last ≤ 15 → memC last l = true → (l.length : Int) + last ≤ 15 := by
        intro l
        induction l with
        | nil => intro last h _; simpa using h
        | cons x l ih =>
          intro last _ hm
          unfold memC at hm
          rw [Bool.and_eq_true] at hm
          have hx := inB_iff.1 hm.1
          have := ih hx.2 hm.2
          simp only [List.length_cons]
          omega
      have := this (by decide) h2.2.1
      omega

end Go.Proofs.YtpnbibokddhheaaGreat
