/-
  The document's numbers as bytes: its way.
-/
import Derived.Test.YtmjjmkdjjfmhhaaLsFlet
import Derived.Test.YtmjjmkdjjfmhhaaRegionP
namespace Go.Proofs.Ytmjjmkdjjfmhhaa
open Go.RowKit

set_option maxHeartbeats 1000000 in
theorem refWide_v (k : Nat) (h1 : 1 ≤ k) (h4 : k ≤ 4) (w : World) : Calls Try.prog 130 #[.int .i64 k] w fun r w' => r = .returned (.int .i64 k) ∧ w = w' := by
  have g1 : ¬ (k : Int) < 1 := by omega
  have g2 : ¬ (4 : Int) < k := by omega
  go_enter Try.func130, Try.ntmps130
  go_wp2
  go_ret
  exact ⟨rfl, rfl⟩
def sh8 (u : Int) : Nat → Int
  | 0 => u
  | q + 1 => sh8 u q / 256
theorem sh8_nn {u : Int} (h : 0 ≤ u) (q : Nat) : 0 ≤ sh8 u q := by
  induction q with
  | zero => exact h
  | succ q ih => unfold sh8; omega
theorem sh8_le {u : Int} (h : 0 ≤ u) (q : Nat) : sh8 u q ≤ u := by
  induction q with
  | zero => exact Int.le_refl _
  | succ q ih => have := sh8_nn h q; unfold sh8; omega
theorem sh8_byte (n : Int) : sh8 (n % 18446744073709551616) 0 % 256 = byteI n 0 ∧ sh8 (n % 18446744073709551616) 1 % 256 = byteI n 1 ∧ sh8 (n % 18446744073709551616) 2 % 256 = byteI n 2 ∧ sh8 (n % 18446744073709551616) 3 % 256 = byteI n 3 := by
  unfold sh8 sh8 sh8 sh8 byteI
  refine ⟨?_, ?_, ?_, ?_⟩
  all_goals (first | (simp; done) | (simp; omega))
def arr2 (n : Int) : Nat → Array Value
  | 0 => #[.int .u8 0, .int .u8 0]
  | 1 => #[.int .u8 0, .int .u8 (byteI n 0)]
  | _ => #[.int .u8 (byteI n 1), .int .u8 (byteI n 0)]
def arr4 (n : Int) : Nat → Array Value
  | 0 => #[.int .u8 0, .int .u8 0, .int .u8 0, .int .u8 0]
  | 1 => #[.int .u8 0, .int .u8 0, .int .u8 0, .int .u8 (byteI n 0)]
  | 2 => #[.int .u8 0, .int .u8 0, .int .u8 (byteI n 1), .int .u8 (byteI n 0)]
  | 3 => #[.int .u8 0, .int .u8 (byteI n 2), .int .u8 (byteI n 1), .int .u8 (byteI n 0)]
  | _ => #[.int .u8 (byteI n 3), .int .u8 (byteI n 2), .int .u8 (byteI n 1), .int .u8 (byteI n 0)]
theorem rows_blk {w : World} {g : Nat} {t : TypeId} {l : List Int} (h : Blk w g t (l.flatMap bcell).toArray) : RowsAt 1 bcell w w.heap.size (some ⟨g, 0, none⟩) l := by
  intro h0
  refine ⟨g, 0, rfl, h.lt, fun k hk i u hi hu => ?_⟩
  have hi0 : i = 0 := by omega
  subst hi0
  rw [h.cell]
  have e := flatR bcell 1 (fun _ => rfl) l k 0 hk (by decide)
  simp only [List.getElem?_toArray, Nat.zero_add]
  rw [e]
  exact hu
theorem wrap_u64 (z : Int) : IntKind.u64.wrap z = z % 18446744073709551616 := by simp [IntKind.wrap, IntKind.bits, IntKind.signed]
theorem bel2 (n : Int) : ((beL 2 n).flatMap bcell).toArray = arr2 n 2 := rfl
theorem bel4 (n : Int) : ((beL 4 n).flatMap bcell).toArray = arr4 n 4 := rfl
set_option maxHeartbeats 4000000 in
set_option maxRecDepth 100000 in
theorem refBytes2 (n : Int) (w : World) : Calls Try.prog 104 #[.int .i64 n, .int .i64 2] w fun r w' => ∃ g, r = .returned (.slice (some ⟨g, 0, none⟩) 2 2) ∧ w.heap.size ≤ g ∧ RowsAt 1 bcell w' w'.heap.size (some ⟨g, 0, none⟩) (beL 2 n) ∧ Below w.heap.size w w' := by
  have hmk : ∀ w : World, (Instr.makeSlice 116 (.int .i64 2) (.int .i64 2)).run Try.prog w = .ok (.slice (some ⟨w.heap.size, 0, none⟩) 2 2) (w.alloc (.cells #[.int .u8 0, .int .u8 0] 5)) := fun _ => by kernel_rfl
  obtain ⟨w1, hW1⟩ : ∃ w1, w.alloc (.cells #[.int .u8 0, .int .u8 0] 5) = w1 := ⟨_, rfl⟩
  have hk := Blk.new w 5 #[.int .u8 0, .int .u8 0]
  have hb := below_new w (.cells #[.int .u8 0, .int .u8 0] 5)
  rw [hW1] at hk hb
  have Hk := Lib.hid hk
  have Hb := Lib.hid hb
  obtain ⟨u, hu⟩ : ∃ u, IntKind.u64.wrap n = u := ⟨_, rfl⟩
  have hu9 : n % 18446744073709551616 = u := by rw [← hu, wrap_u64]
  have hu0 : 0 ≤ u := by omega
  have hu1 : u < 18446744073709551616 := by omega
  have Hby := Lib.hid (show _ ∧ _ from (by rw [← hu9]; exact sh8_byte n : sh8 u 0 % 256 = byteI n 0 ∧ sh8 u 1 % 256 = byteI n 1 ∧ sh8 u 2 % 256 = byteI n 2 ∧ sh8 u 3 % 256 = byteI n 3))
  have Hnn := Lib.hid (fun q => sh8_nn hu0 q)
  have Hle := Lib.hid (fun q => sh8_le hu0 q)
  have Hu := Lib.hid hu
  have Hlt := Lib.hid hu1
  clear hk hb hu9 hu0 hu1
  go_enter Try.func104, Try.ntmps104
  go_wp2_with (go_at_call 130; (with_reducible refine Calls.mono (refWide_v 2 (by decide) (by decide) _) ?_); rintro r w2 ⟨rfl, rfl⟩)
  clear hmk hW1
  go_loopw [6, 7] (fun v i wr => ∃ q : Nat, i = .int .i64 (1 - (q : Int)) ∧ v = .int .u64 (sh8 u q) ∧ q ≤ 2 ∧ Blk wr w.heap.size 5 (arr2 n q) ∧ Below w.heap.size w wr) (fun _ i _ => (intOf i + 1).toNat)
  case atStart => exact ⟨0, rfl, by rw [← Hu.out]; rfl, by decide, Hk.out, Hb.out⟩
  case round =>
    obtain ⟨q, rfl, rfl, hq, hk, hb⟩ := hrel
    have Hkr := Lib.hid hk
    have Hbr := Lib.hid hb
    have h1 := Hnn.out q
    have h2 := Hle.out q
    have h3 : sh8 u q < 18446744073709551616 := by have := Hlt.out; omega
    clear hu hb hk
    rcases (show q = 0 ∨ q = 1 ∨ q = 2 by omega) with rfl | rfl | rfl
    · rw [show (1 - ((0 : Nat) : Int)) = 1 from rfl]
      have z := Hkr.out.cell 1
      have zf := Hkr.out.frozen 1
      simp only [arr2, List.getElem?_toArray, List.getElem?_cons_zero, List.getElem?_cons_succ] at z
      go_wp2
      go_roundw
      case measure => simp [intOf]
      case rel => exact ⟨1, rfl, rfl, by decide, by rw [Hby.out.1]; have := Hkr.out.set_ 1 (.int .u8 (byteI n 0)); simpa [arr2] using this, Hbr.out.setCell (p := ⟨w.heap.size, 1, none⟩) (Nat.le_refl _) _⟩
    · rw [show (1 - ((1 : Nat) : Int)) = 0 from rfl]
      have z := Hkr.out.cell 0
      have zf := Hkr.out.frozen 0
      simp only [arr2, List.getElem?_toArray, List.getElem?_cons_zero] at z
      go_wp2
      go_roundw
      case measure => simp [intOf]
      case rel => exact ⟨2, rfl, rfl, by decide, by rw [Hby.out.2.1]; have := Hkr.out.set_ 0 (.int .u8 (byteI n 1)); simpa [arr2] using this, Hbr.out.setCell (p := ⟨w.heap.size, 0, none⟩) (Nat.le_refl _) _⟩
    · rw [show (1 - ((2 : Nat) : Int)) = -1 from rfl]
      go_wp2
      go_ret
      exact ⟨_, rfl, Nat.le_refl _, rows_blk (t := 5) (l := beL 2 n) (by rw [bel2]; exact Hkr.out), Hbr.out⟩
set_option maxHeartbeats 4000000 in
set_option maxRecDepth 100000 in
theorem refBytes4 (n : Int) (w : World) : Calls Try.prog 104 #[.int .i64 n, .int .i64 4] w fun r w' => ∃ g, r = .returned (.slice (some ⟨g, 0, none⟩) 4 4) ∧ w.heap.size ≤ g ∧ RowsAt 1 bcell w' w'.heap.size (some ⟨g, 0, none⟩) (beL 4 n) ∧ Below w.heap.size w w' := by
  have hmk : ∀ w : World, (Instr.makeSlice 116 (.int .i64 4) (.int .i64 4)).run Try.prog w = .ok (.slice (some ⟨w.heap.size, 0, none⟩) 4 4) (w.alloc (.cells #[.int .u8 0, .int .u8 0, .int .u8 0, .int .u8 0] 5)) := fun _ => by kernel_rfl
  obtain ⟨w1, hW1⟩ : ∃ w1, w.alloc (.cells #[.int .u8 0, .int .u8 0, .int .u8 0, .int .u8 0] 5) = w1 := ⟨_, rfl⟩
  have hk := Blk.new w 5 #[.int .u8 0, .int .u8 0, .int .u8 0, .int .u8 0]
  have hb := below_new w (.cells #[.int .u8 0, .int .u8 0, .int .u8 0, .int .u8 0] 5)
  rw [hW1] at hk hb
  have Hk := Lib.hid hk
  have Hb := Lib.hid hb
  obtain ⟨u, hu⟩ : ∃ u, IntKind.u64.wrap n = u := ⟨_, rfl⟩
  have hu9 : n % 18446744073709551616 = u := by rw [← hu, wrap_u64]
  have hu0 : 0 ≤ u := by omega
  have hu1 : u < 18446744073709551616 := by omega
  have Hby := Lib.hid (show _ ∧ _ from (by rw [← hu9]; exact sh8_byte n : sh8 u 0 % 256 = byteI n 0 ∧ sh8 u 1 % 256 = byteI n 1 ∧ sh8 u 2 % 256 = byteI n 2 ∧ sh8 u 3 % 256 = byteI n 3))
  have Hnn := Lib.hid (fun q => sh8_nn hu0 q)
  have Hle := Lib.hid (fun q => sh8_le hu0 q)
  have Hu := Lib.hid hu
  have Hlt := Lib.hid hu1
  clear hk hb hu9 hu0 hu1
  go_enter Try.func104, Try.ntmps104
  go_wp2_with (go_at_call 130; (with_reducible refine Calls.mono (refWide_v 4 (by decide) (by decide) _) ?_); rintro r w2 ⟨rfl, rfl⟩)
  clear hmk hW1
  go_loopw [6, 7] (fun v i wr => ∃ q : Nat, i = .int .i64 (3 - (q : Int)) ∧ v = .int .u64 (sh8 u q) ∧ q ≤ 4 ∧ Blk wr w.heap.size 5 (arr4 n q) ∧ Below w.heap.size w wr) (fun _ i _ => (intOf i + 1).toNat)
  case atStart => exact ⟨0, rfl, by rw [← Hu.out]; rfl, by decide, Hk.out, Hb.out⟩
  case round =>
    obtain ⟨q, rfl, rfl, hq, hk, hb⟩ := hrel
    have Hkr := Lib.hid hk
    have Hbr := Lib.hid hb
    have h1 := Hnn.out q
    have h2 := Hle.out q
    have h3 : sh8 u q < 18446744073709551616 := by have := Hlt.out; omega
    clear hu hb hk
    rcases (show q = 0 ∨ q = 1 ∨ q = 2 ∨ q = 3 ∨ q = 4 by omega) with rfl | rfl | rfl | rfl | rfl
    · rw [show (3 - ((0 : Nat) : Int)) = 3 from rfl]
      have z := Hkr.out.cell 3
      have zf := Hkr.out.frozen 3
      simp only [arr4, List.getElem?_toArray, List.getElem?_cons_zero, List.getElem?_cons_succ] at z
      go_wp2
      go_roundw
      case measure => simp [intOf]
      case rel => exact ⟨1, rfl, rfl, by decide, by rw [Hby.out.1]; have := Hkr.out.set_ 3 (.int .u8 (byteI n 0)); simpa [arr4] using this, Hbr.out.setCell (p := ⟨w.heap.size, 3, none⟩) (Nat.le_refl _) _⟩
    · rw [show (3 - ((1 : Nat) : Int)) = 2 from rfl]
      have z := Hkr.out.cell 2
      have zf := Hkr.out.frozen 2
      simp only [arr4, List.getElem?_toArray, List.getElem?_cons_zero, List.getElem?_cons_succ] at z
      go_wp2
      go_roundw
      case measure => simp [intOf]
      case rel => exact ⟨2, rfl, rfl, by decide, by rw [Hby.out.2.1]; have := Hkr.out.set_ 2 (.int .u8 (byteI n 1)); simpa [arr4] using this, Hbr.out.setCell (p := ⟨w.heap.size, 2, none⟩) (Nat.le_refl _) _⟩
    · rw [show (3 - ((2 : Nat) : Int)) = 1 from rfl]
      have z := Hkr.out.cell 1
      have zf := Hkr.out.frozen 1
      simp only [arr4, List.getElem?_toArray, List.getElem?_cons_zero, List.getElem?_cons_succ] at z
      go_wp2
      go_roundw
      case measure => simp [intOf]
      case rel => exact ⟨3, rfl, rfl, by decide, by rw [Hby.out.2.2.1]; have := Hkr.out.set_ 1 (.int .u8 (byteI n 2)); simpa [arr4] using this, Hbr.out.setCell (p := ⟨w.heap.size, 1, none⟩) (Nat.le_refl _) _⟩
    · rw [show (3 - ((3 : Nat) : Int)) = 0 from rfl]
      have z := Hkr.out.cell 0
      have zf := Hkr.out.frozen 0
      simp only [arr4, List.getElem?_toArray, List.getElem?_cons_zero] at z
      go_wp2
      go_roundw
      case measure => simp [intOf]
      case rel => exact ⟨4, rfl, rfl, by decide, by rw [Hby.out.2.2.2]; have := Hkr.out.set_ 0 (.int .u8 (byteI n 3)); simpa [arr4] using this, Hbr.out.setCell (p := ⟨w.heap.size, 0, none⟩) (Nat.le_refl _) _⟩
    · rw [show (3 - ((4 : Nat) : Int)) = -1 from rfl]
      go_wp2
      go_ret
      exact ⟨_, rfl, Nat.le_refl _, rows_blk (t := 5) (l := beL 4 n) (by rw [bel4]; exact Hkr.out), Hbr.out⟩

set_option maxHeartbeats 2000000 in
set_option maxRecDepth 100000 in
theorem refNumber2 (A : Option Addr) (c : Nat) (x y : Int) (w : World) (B : Nat) (hL : RowsAt 1 bcell w B A [x, y]) (hx : byteOk x) (hy : byteOk y) :
    Calls Try.prog 71 #[.slice A 2 c] w fun r w' => r = .returned (.int .i64 (x * 256 + y)) ∧ w = w' := by
  obtain ⟨g, o, rfl, -, z0⟩ := row_byte hL 0 (by simp)
  obtain ⟨g', o', e, -, z1⟩ := row_byte hL 1 (by simp)
  injection e with e
  injection e with e1 e2
  subst e1 e2
  simp only [List.getElem_cons_zero, List.getElem_cons_succ, Nat.add_zero] at z0 z1
  obtain ⟨hx1, hx2⟩ := hx
  obtain ⟨hy1, hy2⟩ := hy
  clear hL
  go_enter Try.func71, Try.ntmps71
  go_wp2
  refine wp_loop_rounds 3 ?_
  rw [rounds_succ]
  go_wp2
  rw [rounds_succ]
  go_wp2
  rw [rounds_succ]
  go_wp2
  go_ret
  exact ⟨by rw [Int.mul_comm 256]; rfl, rfl⟩

end Go.Proofs.Ytmjjmkdjjfmhhaa

/-
  The document's sums, and the two bytes found by a search: its way.
-/
namespace Go.Proofs.Ytmjjmkdjjfmhhaa
open Go.RowKit

theorem sum_bd {L : List Int} (h : ∀ x ∈ L, byteOk x) : 0 ≤ L.sum ∧ L.sum ≤ 255 * (L.length : Int) := by
  induction L with
  | nil => simp
  | cons x l ih =>
    have h1 := ih (fun y hy => h y (by simp [hy]))
    obtain ⟨h2, h3⟩ := h x (by simp)
    simp only [List.sum_cons, List.length_cons]
    omega
/-- the beginning of a sum in which each counts by how many stand from it on -/
def secT (n : Int) : List Int → Int
  | [] => 0
  | x :: l => n * x + secT (n - 1) l
theorem secT_all (L : List Int) : secT (L.length : Int) L = secW L := by
  induction L with
  | nil => rfl
  | cons x l ih =>
    simp only [secT, secW, List.length_cons]
    rw [show ((l.length + 1 : Nat) : Int) - 1 = (l.length : Int) by omega, ih]
    simp
theorem secT_snoc (l : List Int) (x : Int) : ∀ n : Int, secT n (l ++ [x]) = secT n l + (n - (l.length : Int)) * x := by
  induction l with
  | nil => intro n; simp [secT]
  | cons y l ih =>
    intro n
    simp only [List.cons_append, secT, ih, List.length_cons]
    rw [show n - 1 - (l.length : Int) = n - ((l.length + 1 : Nat) : Int) by omega]
    omega
theorem secT_bd {m : Int} (hm : 0 ≤ m) : ∀ {L : List Int} {n : Int}, (∀ x ∈ L, byteOk x) → (L.length : Int) ≤ n → n ≤ m → 0 ≤ secT n L ∧ secT n L ≤ (L.length : Int) * (m * 255)
  | [], n, _, _, _ => by simp [secT]
  | x :: l, n, h, h1, h2 => by
    simp only [List.length_cons] at h1
    obtain ⟨i1, i2⟩ := secT_bd hm (L := l) (n := n - 1) (fun y hy => h y (by simp [hy])) (by omega) (by omega)
    obtain ⟨h3, h4⟩ := h x (by simp)
    have k1 : 0 ≤ n * x := Int.mul_nonneg (by omega) h3
    have k2 : n * x ≤ m * 255 := Int.mul_le_mul h2 (by omega) h3 hm
    simp only [secT, List.length_cons]
    rw [show ((l.length + 1 : Nat) : Int) * (m * 255) = (l.length : Int) * (m * 255) + m * 255 by rw [Int.natCast_add, Int.add_mul]; simp]
    omega

set_option maxHeartbeats 2000000 in
set_option maxRecDepth 100000 in
theorem refFirst_any (A : Option Addr) (c : Nat) (L : List Int) (w : World) (B : Nat) (hL : RowsAt 1 bcell w B A L) (hbs : ∀ x ∈ L, byteOk x) (hm : L.length ≤ 2 ^ 20) (n : Nat) (hn : n = L.length) :
    Calls Try.prog 131 #[.slice A n c] w fun r w' => r = .returned (.int .i64 (L.sum % 255)) ∧ w = w' := by
  have HL := Lib.hid hL
  have Hbs := Lib.hid hbs
  have Hn := Lib.hid hn
  have hn2 : n ≤ 2 ^ 20 := by omega
  clear hL hbs hm hn
  go_enter Try.func131, Try.ntmps131
  go_wp2
  go_loop [3, 4] (fun v i => ∃ (k : Nat) (M : List Int), i = .int .i64 k ∧ v = .int .i64 M.sum ∧ k ≤ n ∧ M = L.take k) (fun _ i => n - (intOf i).toNat)
  case atStart => exact ⟨0, [], rfl, rfl, Nat.zero_le _, rfl⟩
  case round =>
    obtain ⟨k, M, rfl, rfl, hk, hM⟩ := hrel
    have hsb := sum_bd (L := M) (fun x hx => Hbs.out x (by rw [hM] at hx; exact List.mem_of_mem_take hx))
    have hml : M.length ≤ k := by rw [hM]; exact List.length_take_le _ _
    have HM := Lib.hid hM
    clear hM
    obtain ⟨s, hs⟩ : ∃ s, M.sum = s := ⟨_, rfl⟩
    rw [hs] at hsb ⊢
    have Hs := Lib.hid hs
    have hs0 : 0 ≤ s := hsb.1
    have hs1 : s ≤ 267386880 := by have := hsb.2; omega
    clear hs hsb hml
    by_cases hlt : k < n
    · obtain ⟨g, o, rfl, -, z0⟩ := row_byte HL.out k (by have := Hn.out; omega)
      have hb := Hbs.out (L[k]'(by have := Hn.out; omega)) (List.getElem_mem _)
      have hs := List.take_succ_eq_append_getElem (l := L) (i := k) (by have := Hn.out; omega)
      generalize L[k]'(by have := Hn.out; omega) = x at *
      obtain ⟨hb0, hb1⟩ := hb
      have HS := Lib.hid hs
      clear hs
      go_wp2
      go_round
      case measure => simp [intOf]; omega
      case rel => exact ⟨k + 1, M ++ [x], by go_num, by rw [List.sum_append, Hs.out]; simp, hlt, by rw [HS.out, HM.out]⟩
    · have hkk : k = n := by omega
      subst hkk
      go_wp2
      go_ret
      refine ⟨?_, rfl⟩
      rw [← Hs.out, HM.out, Hn.out, List.take_length]
      rfl

set_option maxHeartbeats 2000000 in
set_option maxRecDepth 100000 in
theorem refSecond_any (A : Option Addr) (c : Nat) (L : List Int) (w : World) (B : Nat) (hL : RowsAt 1 bcell w B A L) (hbs : ∀ x ∈ L, byteOk x) (hm : L.length ≤ 2 ^ 20) (n : Nat) (hn : n = L.length) :
    Calls Try.prog 166 #[.slice A n c] w fun r w' => r = .returned (.int .i64 (secW L % 255)) ∧ w = w' := by
  have HL := Lib.hid hL
  have Hbs := Lib.hid hbs
  have Hn := Lib.hid hn
  have hn2 : n ≤ 2 ^ 20 := by omega
  clear hL hbs hm hn
  go_enter Try.func166, Try.ntmps166
  go_wp2
  go_loop [3, 4] (fun v i => ∃ (k : Nat) (M : List Int), i = .int .i64 k ∧ v = .int .i64 (secT (n : Int) M) ∧ k ≤ n ∧ M = L.take k) (fun _ i => n - (intOf i).toNat)
  case atStart => exact ⟨0, [], rfl, rfl, Nat.zero_le _, rfl⟩
  case round =>
    obtain ⟨k, M, rfl, rfl, hk, hM⟩ := hrel
    have hml : M.length = k := by rw [hM, List.length_take]; have := Hn.out; omega
    have hsb := secT_bd (m := (2 : Int) ^ 20) (by decide) (L := M) (n := (n : Int)) (fun x hx => Hbs.out x (by rw [hM] at hx; exact List.mem_of_mem_take hx)) (by omega) (by omega)
    have HM := Lib.hid hM
    have Hml := Lib.hid hml
    rw [hml] at hsb
    clear hM hml
    obtain ⟨s, hs⟩ : ∃ s, secT (n : Int) M = s := ⟨_, rfl⟩
    rw [hs] at hsb ⊢
    have Hs := Lib.hid hs
    have hs0 : 0 ≤ s := hsb.1
    have hs1 : s ≤ 281474976710656 := by have := hsb.2; omega
    clear hs hsb
    by_cases hlt : k < n
    · obtain ⟨g, o, rfl, -, z0⟩ := row_byte HL.out k (by have := Hn.out; omega)
      have hb := Hbs.out (L[k]'(by have := Hn.out; omega)) (List.getElem_mem _)
      have hs := List.take_succ_eq_append_getElem (l := L) (i := k) (by have := Hn.out; omega)
      generalize L[k]'(by have := Hn.out; omega) = x at *
      obtain ⟨hb0, hb1⟩ := hb
      have k1 : (0 : Int) ≤ ((n : Int) - k) * x := Int.mul_nonneg (by omega) hb0
      have k2 : ((n : Int) - k) * x ≤ 2 ^ 20 * 255 := Int.mul_le_mul (by omega) (by omega) hb0 (by omega)
      have k3 : ((n : Int) - k) * x ≤ 267386880 := by omega
      have HS := Lib.hid hs
      clear hs k2
      go_wp2
      go_round
      case measure => simp [intOf]; omega
      case rel => exact ⟨k + 1, M ++ [x], by go_num, by rw [secT_snoc, Hs.out, Hml.out], hlt, by rw [HS.out, HM.out]⟩
    · have hkk : k = n := by omega
      subst hkk
      go_wp2
      go_ret
      refine ⟨?_, rfl⟩
      rw [← Hs.out, ← secT_all, HM.out, ← Hn.out, Hn.out, List.take_length]
      rfl

set_option maxHeartbeats 2000000 in
set_option maxRecDepth 100000 in
theorem refWhole_any (A : Option Addr) (c : Nat) (L : List Int) (w : World) (B : Nat) (hL : RowsAt 1 bcell w B A L) (hbs : ∀ x ∈ L, byteOk x) (hm : L.length ≤ 2 ^ 20) (n : Nat) (hn : n = L.length) (h0 : 0 < n) {t : Bool} (ht : (decide (L.sum % 255 = 0) && decide (secW L % 255 = 0)) = t) :
    Calls Try.prog 132 #[.slice A n c] w fun r w' => r = .returned (.bool t) ∧ w = w' := by
  have H1 := Lib.hid (refFirst_any A c L w B hL hbs hm n hn)
  have H2 := Lib.hid (refSecond_any A c L w B hL hbs hm n hn)
  obtain ⟨x, hx⟩ : ∃ x, L.sum % 255 = x := ⟨_, rfl⟩
  obtain ⟨y, hy⟩ : ∃ y, secW L % 255 = y := ⟨_, rfl⟩
  rw [hx, hy] at ht
  rw [hx] at H1
  rw [hy] at H2
  have g0 : (0 : Int) < (n : Int) := by omega
  clear hL hbs hm hn h0 hx hy
  by_cases hx : x = 0
  · subst hx
    by_cases hy : y = 0
    all_goals
      have ht2 := ht
      simp only [hy, decide_true, decide_false, Bool.and_true, Bool.and_false] at ht2
      subst ht2
      clear ht
      go_enter Try.func132, Try.ntmps132
      go_wp2_with (first
        | (go_at_call 131; (with_reducible refine Calls.mono H1.out ?_); rintro r w2 ⟨rfl, rfl⟩)
        | (go_at_call 166; (with_reducible refine Calls.mono H2.out ?_); rintro r w2 ⟨rfl, rfl⟩))
      go_ret
      refine ⟨?_, rfl⟩
      first
        | rfl
        | (show Ending.returned (.bool (y == 0)) = _; simp [hy])
  · simp only [hx, decide_false, Bool.false_and] at ht
    subst ht
    go_enter Try.func132, Try.ntmps132
    go_wp2_with (first
      | (go_at_call 131; (with_reducible refine Calls.mono H1.out ?_); rintro r w2 ⟨rfl, rfl⟩)
      | (go_at_call 166; (with_reducible refine Calls.mono H2.out ?_); rintro r w2 ⟨rfl, rfl⟩))
    go_ret
    exact ⟨rfl, rfl⟩

/-- a list with two others at the fourteenth and fifteenth place -/
def tw (L : List Int) (a b : Int) : List Int := L.take 14 ++ a :: b :: L.drop 16
theorem tw_len {L : List Int} (h : 16 ≤ L.length) (a b : Int) : (tw L a b).length = L.length := by
  simp only [tw, List.length_append, List.length_cons, List.length_take, List.length_drop]
  omega
theorem tw_of {L : List Int} (h : 16 ≤ L.length) (a b : Int) : (L.set 14 a).set 15 b = tw L a b := by
  apply List.ext_getElem?
  intro j
  unfold tw
  have hl : (L.take 14).length = 14 := by rw [List.length_take]; omega
  by_cases h1 : j < 14
  · rw [List.getElem?_append_left (by omega), List.getElem?_set_ne (by omega), List.getElem?_set_ne (by omega), List.getElem?_take_of_lt h1]
  · rw [List.getElem?_append_right (by omega), hl]
    by_cases h2 : j = 14
    · subst h2
      rw [List.getElem?_set_ne (by omega)]
      simp [List.getElem?_set]
      omega
    · by_cases h3 : j = 15
      · subst h3
        simp [List.getElem?_set]
        omega
      · rw [List.getElem?_set_ne (by omega), List.getElem?_set_ne (by omega)]
        obtain ⟨d, rfl⟩ : ∃ d, j = 16 + d := ⟨j - 16, by omega⟩
        rw [show 16 + d - 14 = d + 2 by omega]
        simp
theorem tw_tw {L : List Int} (h : 16 ≤ L.length) (a b a' b' : Int) : ((tw L a b).set 14 a').set 15 b' = tw L a' b' := by
  rw [tw_of (by rw [tw_len h]; exact h)]
  unfold tw
  have hl : (L.take 14).length = 14 := by rw [List.length_take]; omega
  have e1 : (L.take 14 ++ a :: b :: L.drop 16).take 14 = L.take 14 := by
    rw [List.take_append_of_le_length (by omega), List.take_take]
    simp
  have e2 : (L.take 14 ++ a :: b :: L.drop 16).drop 16 = L.drop 16 := by
    rw [List.drop_append, hl]
    simp
    omega
  rw [e1, e2]
theorem tw_ok {L : List Int} (h : ∀ x ∈ L, byteOk x) {a b : Int} (ha : byteOk a) (hb : byteOk b) : ∀ x ∈ tw L a b, byteOk x := by
  intro x hx
  unfold tw at hx
  rcases List.mem_append.1 hx with hx | hx
  · exact h x (List.mem_of_mem_take hx)
  · rcases List.mem_cons.1 hx with rfl | hx
    · exact ha
    · rcases List.mem_cons.1 hx with rfl | hx
      · exact hb
      · exact h x (List.mem_of_mem_drop hx)
theorem zero2_tw {L : List Int} (h : 16 ≤ L.length) : zero2 L = tw L 0 0 := tw_of h 0 0
theorem fillL_tw {L : List Int} (h : 16 ≤ L.length) : fillL L = tw L (bytA L) (bytB L) := by
  unfold fillL
  rw [zero2_tw h, tw_tw h]
theorem byt_is {L : List Int} (h : 16 ≤ L.length) {x : Int} (hx : (zero2 L).sum % 255 = x) :
    (0 ≤ bytA L ∧ bytA L < 255) ∧ bytB L = (510 - x - bytA L) % 255 ∧ ∀ i : Int, 0 ≤ i → i < 255 → (decide ((tw L i ((510 - x - i) % 255)).sum % 255 = 0) && decide (secW (tw L i ((510 - x - i) % 255)) % 255 = 0)) = decide (i = bytA L) := by
  have hd : (((L.drop 16).length : Int) + 2) = (L.length : Int) - 14 := by rw [List.length_drop]; omega
  have ha : bytA L = fillA (((L.drop 16).length : Int) + 2) ((L.take 14 ++ 0 :: 0 :: L.drop 16).sum % 255) (secW (L.take 14 ++ 0 :: 0 :: L.drop 16) % 255) := by
    unfold bytA
    rw [sums_eq, zero2_tw h, hd]
    rfl
  have hb : bytB L = fillB (((L.drop 16).length : Int) + 2) ((L.take 14 ++ 0 :: 0 :: L.drop 16).sum % 255) (secW (L.take 14 ++ 0 :: 0 :: L.drop 16) % 255) := by
    unfold bytB
    rw [sums_eq, zero2_tw h, hd]
    rfl
  have hx' : (L.take 14 ++ 0 :: 0 :: L.drop 16).sum % 255 = x := by rw [zero2_tw h] at hx; exact hx
  refine ⟨?_, ?_, fun i h0 h1 => ?_⟩
  · rw [ha]
    unfold fillA
    omega
  · rw [hb, ha, hx', fill_b]
  · have hf := fill_iff (L.take 14) (L.drop 16) i h0 h1
    rw [← ha, hx'] at hf
    unfold wholeP at hf
    rw [Bool.eq_iff_iff, Bool.and_eq_true, decide_eq_true_eq, decide_eq_true_eq, decide_eq_true_eq]
    exact hf
theorem own_pair2 {w : World} {B g c n : Nat} {L : List Int} (h : OwnB w B (.slice (some ⟨g, 0, none⟩) n c) L) (hn : n = L.length) (h16 : 16 ≤ n) :
    ∃ a b, w.cell? ⟨g, 14, none⟩ = some (.int .u8 a) ∧ w.frozen? ⟨g, 14, none⟩ = false ∧ w.cell? ⟨g, 15, none⟩ = some (.int .u8 b) ∧ w.frozen? ⟨g, 15, none⟩ = false :=
  ⟨_, _, (OwnB.at_ h 14 (by omega)).1, (OwnB.at_ h 14 (by omega)).2, (OwnB.at_ h 15 (by omega)).1, (OwnB.at_ h 15 (by omega)).2⟩

set_option maxHeartbeats 4000000 in
set_option maxRecDepth 100000 in
theorem refFill_any (A : Option Addr) (c : Nat) (L : List Int) (w : World) (B : Nat) (hL : RowsAt 1 bcell w B A L) (hB : B ≤ w.heap.size) (hbs : ∀ x ∈ L, byteOk x) (h16 : 16 ≤ L.length) (hm : L.length ≤ 2 ^ 20) (n : Nat) (hn : n = L.length) :
    Calls Try.prog 106 #[.slice A n c, .int .i64 14] w fun r w' => ∃ v, r = .returned v ∧ OwnB w' w.heap.size v (fillL L) ∧ Below w.heap.size w w' := by
  have HL := Lib.hid (hL.more hB)
  have Hbs := Lib.hid hbs
  have HE := Lib.hid (OwnR.nil (e := 5) (C := 1) (cells := bcell) w w.heap.size)
  have Hn := Lib.hid hn
  have hn2 : 16 ≤ n := by omega
  have hm2 : n ≤ 2 ^ 20 := by omega
  obtain ⟨x, hx⟩ : ∃ x, (zero2 L).sum % 255 = x := ⟨_, rfl⟩
  obtain ⟨⟨ha0, ha1⟩, hbb, hit⟩ := byt_is h16 hx
  obtain ⟨a1, hA⟩ : ∃ a1, bytA L = a1 := ⟨_, rfl⟩
  rw [hA] at ha0 ha1 hbb hit
  have hx0 : 0 ≤ x ∧ x < 255 := by omega
  obtain ⟨hx0, hx1⟩ := hx0
  have Hx := Lib.hid hx
  have HA := Lib.hid hA
  have Hbb := Lib.hid hbb
  have Hit := Lib.hid hit
  have H16 := Lib.hid h16
  clear hL hB hbs hn h16 hm hx hA hbb hit
  go_enter Try.func106, Try.ntmps106
  go_wp2_with (at_builtin; (refine app_rows (e := 5) bcell (fun _ => rfl) (by decide) (bytes := 1) (by decide) infoB rfl Try.underlying116 onesB (by rfl) _ _ (by rfl) w.heap.size _ [] (by rfl) HE.out A c n L Hn.out (by rfl) HL.out (by have := Hn.out; simp; omega) (Nat.le_refl _) ?_); intro v5 w5 hown5 hg5 hor5; have Hb5 := Lib.hid ((Below.refl w.heap.size w).grown hg5 (Nat.le_refl _) (fun j hj => (HE.out.block j hj).1)); obtain ⟨g, c5, a0, b0, rfl, hown6, z1, q1, z2, q2⟩ := own_pair hown5 Hn.out hn2; have Hown5 := Lib.hid hown6; clear hown5 hg5 hor5 hown6)
  have hown7 := (Hown5.out.set1 Hn.out 14 0).set1 (by rw [List.length_set]; exact Hn.out) 15 0
  have hgl := Hown5.out.lt
  have hb7 := (Hb5.out.setCell (p := ⟨g, 14, none⟩) hgl.1 (.int .u8 0)).setCell (p := ⟨g, 15, none⟩) hgl.1 (.int .u8 0)
  obtain ⟨w7, hW7⟩ : ∃ w7, (w5.setCell ⟨g, 14, none⟩ (.int .u8 0)).setCell ⟨g, 15, none⟩ (.int .u8 0) = w7 := ⟨_, rfl⟩
  rw [hW7] at hown7 hb7 ⊢
  rw [tw_of H16.out] at hown7
  have hS := refFirst_any (some ⟨g, 0, none⟩) c5 (tw L 0 0) w7 w7.heap.size (OwnR.rows (C := 1) (cells := bcell) (fun _ => rfl) (by have := Hn.out; subst this; rw [← tw_len H16.out 0 0] at hown7; exact hown7)).2 (tw_ok Hbs.out ⟨by omega, by omega⟩ ⟨by omega, by omega⟩) (by rw [tw_len H16.out, ← Hn.out]; exact hm2) n (by rw [tw_len H16.out]; exact Hn.out)
  rw [← zero2_tw H16.out, Hx.out] at hS
  have HS := Lib.hid hS
  have Hown7 := Lib.hid hown7
  have Hb7 := Lib.hid hb7
  have Hgl := Lib.hid hgl
  clear hS hown7 hb7 hW7 z1 q1 z2 q2 hgl
  go_wp2_with (go_at_call 131; (with_reducible refine Calls.mono HS.out ?_); rintro r w8 ⟨rfl, rfl⟩)
  go_loopw [7] (fun iv wr => ∃ (i : Nat) (a b : Int), iv = .int .i64 i ∧ (i : Int) ≤ a1 ∧ OwnB wr w.heap.size (.slice (some ⟨g, 0, none⟩) n c5) (tw L a b) ∧ Below w.heap.size w wr) (fun iv _ => 255 - (intOf iv).toNat)
  case atStart => exact ⟨0, 0, 0, rfl, ha0, Hown7.out, Hb7.out⟩
  case round =>
    obtain ⟨i, a, b, rfl, hi, hown, hb⟩ := hrel
    have hnt : n = (tw L a b).length := by rw [tw_len H16.out]; exact Hn.out
    obtain ⟨p0, p1, z1, q1, z2, q2⟩ := own_pair2 hown hnt hn2
    obtain ⟨b1, hb1⟩ : ∃ b1, (510 - x - (i : Int)) % 255 = b1 := ⟨_, rfl⟩
    have hown9 := (hown.set1 hnt 14 i).set1 (by rw [List.length_set]; exact hnt) 15 b1
    rw [tw_tw H16.out] at hown9
    have hb9 := (hb.setCell (p := ⟨g, 14, none⟩) Hgl.out.1 (.int .u8 i)).setCell (p := ⟨g, 15, none⟩) Hgl.out.1 (.int .u8 b1)
    obtain ⟨w9, hw9⟩ : ∃ w9, (wr.setCell ⟨g, 14, none⟩ (.int .u8 i)).setCell ⟨g, 15, none⟩ (.int .u8 b1) = w9 := ⟨_, rfl⟩
    rw [hw9] at hown9 hb9
    have hi2 : (i : Int) < 255 := by omega
    have ht := Hit.out i (by omega) hi2
    rw [hb1] at ht
    have hb10 : 0 ≤ b1 ∧ b1 < 255 := by omega
    have HW := Lib.hid (fun t ht => refWhole_any (some ⟨g, 0, none⟩) c5 (tw L i b1) w9 w9.heap.size (OwnR.rows (C := 1) (cells := bcell) (fun _ => rfl) (by have h9 := hown9; rw [Hn.out, ← tw_len H16.out i b1] at h9; exact h9)).2 (tw_ok Hbs.out ⟨by omega, by omega⟩ ⟨by omega, by omega⟩) (by rw [tw_len H16.out, ← Hn.out]; exact hm2) n (by rw [tw_len H16.out]; exact Hn.out) (by omega) (t := t) ht)
    have Hown9 := Lib.hid hown9
    have Hb9 := Lib.hid hb9
    have Hb1 := Lib.hid hb1
    have e1 : (i : Int) % 256 = i := by omega
    have e2 : b1 % 256 = b1 := by omega
    have e3 : (0 : Int) ≤ 510 - x - i := by omega
    have Hw9 := Lib.hid hw9
    clear hown9 hb9 hown hb hnt hb10 hw9 hb1
    by_cases hia : (i : Int) = a1
    · rw [decide_eq_true hia] at ht
      have HW1 := Lib.hid (HW.out true ht)
      have Hia := Lib.hid hia
      clear ht hia
      go_wp2_with fail
      rw [Hb1.out, Hw9.out]
      with_reducible refine Calls.mono HW1.out ?_
      rintro r w10 ⟨rfl, rfl⟩
      clear z1 q1 z2 q2
      go_wp2
      go_ret
      refine ⟨_, rfl, ?_, Hb9.out⟩
      have hfin : fillL L = tw L i b1 := by rw [fillL_tw H16.out, HA.out, Hia.out, ← Hb1.out, Hia.out, ← Hbb.out, ← HA.out]
      rw [hfin]
      have h9 := Hown9.out
      rw [Hn.out, ← tw_len H16.out i b1] at h9
      rw [Hn.out, ← tw_len H16.out i b1]
      exact h9
    · rw [decide_eq_false hia] at ht
      have HW1 := Lib.hid (HW.out false ht)
      have hi3 : (i : Int) + 1 ≤ a1 := by omega
      clear ht hia
      go_wp2_with fail
      rw [Hb1.out, Hw9.out]
      with_reducible refine Calls.mono HW1.out ?_
      rintro r w10 ⟨rfl, rfl⟩
      clear z1 q1 z2 q2
      go_wp2
      go_roundw
      case measure => simp [intOf]; omega
      case rel => exact ⟨i + 1, i, b1, by go_num, by simpa using hi3, Hown9.out, Hb9.out⟩
end Go.Proofs.Ytmjjmkdjjfmhhaa
