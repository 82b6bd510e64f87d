/-
  slices.Clone at the slices that a description has.
-/
import Derived.Test.YtbffhdlfplgccaaOwnR
import Derived.Test.YtbffhdlfplgccaaLsRight
namespace Go.Proofs.Ytbffhdlfplgccaa
open Go.RowKit

theorem own_empty {α : Type} {e : TypeId} {C : Nat} {cells : α → List Value} (w : World) : OwnR e C cells (w.alloc (.cells #[] e)) w.heap.size (.slice (some ⟨w.heap.size, 0, none⟩) 0 0) ([] : List α) := by
  exact ⟨by simp, .inr ⟨w.heap.size, 0, #[], rfl, Nat.le_refl _, Blk.new w e #[], by simp, by unfold maxLen; omega, by simp, by simp⟩⟩
theorem infoInt' : (Try.prog.info? 3).map (fun i => (i.zero, i.size, i.bytes)) = some (some (.int .i64 0), 1, 8) := by kernel_rfl
theorem onesI (x : Int) : ∀ u ∈ icell x, u.oneCell' = true := by
  intro u hu
  simp [icell] at hu
  subst hu
  rfl
theorem infoLnk : (Try.prog.info? 125).map (fun i => (i.zero, i.size, i.bytes)) = some (some (.agg #[.int .i64 0, .int .i64 0, .int .i64 0, .int .i64 0]), 4, 32) := by kernel_rfl
theorem onesL (x : Lnk) : ∀ u ∈ Lnk.cells x, u.oneCell' = true := by
  intro u hu
  simp [Lnk.cells] at hu
  rcases hu with rfl | rfl | rfl | rfl <;> rfl
set_option maxHeartbeats 2000000 in
set_option maxRecDepth 100000 in
theorem cloneInt (A : Option Addr) (c : Nat) (M : List Int) (w : World) (B : Nat) (h : RowsAt 1 icell w B A M) (hB : B ≤ w.heap.size) (hl : M.length ≤ 2 ^ 20) (n : Nat) (hn : n = M.length) :
    Calls Try.prog 83 #[.slice A n c] w fun r w' => ∃ v, r = .returned v ∧ OwnR 3 1 icell w' w.heap.size v M ∧ Below w.heap.size w w' := by
  subst hn
  cases A with
  | none =>
    have hM : M = [] := by
      rcases Nat.eq_zero_or_pos M.length with h0 | h0
      · exact List.eq_nil_of_length_eq_zero h0
      · obtain ⟨b, o, e, -⟩ := h h0
        cases e
    subst hM
    clear h
    have hnil := fun (w : World) => Lib.run_eql_slice_nil (P := Try.prog) w 30 3 none 0 c 0 0 Try.underlying30
    simp only [List.length_nil]
    go_enter Try.func83, Try.ntmps83
    go_wp2
    go_ret
    exact ⟨_, rfl, OwnR.nil _ _, Below.refl _ _⟩
  | some a =>
    have H := Lib.hid (h.more hB)
    have HE : Hid (OwnR 3 1 icell (w.alloc (.cells #[] 3)) w.heap.size (.slice (some ⟨w.heap.size, 0, none⟩) 0 0) ([] : List Int)) := Lib.hid (own_empty _)
    have hb1 := (Below.refl w.heap.size w).alloc (Nat.le_refl _) (.cells #[] 3)
    have Hb1 := Lib.hid hb1
    clear h hB hb1
    have hnil := fun (w : World) => Lib.run_eql_slice_nil (P := Try.prog) w 30 3 (some a) M.length c 0 0 Try.underlying30
    go_enter Try.func83, Try.ntmps83
    go_wp2_with (at_builtin; (refine app_rows (e := 3) icell (fun _ => rfl) (by decide) (bytes := 8) (by decide) infoInt' rfl Try.underlying30 onesI (by rfl) _ _ (by rfl) w.heap.size _ [] (by rfl) HE.out (some a) c M.length M rfl (by rfl) ((H.out.below Hb1.out).more (by simp)) (by simp; omega) (by simp) ?_); intro v5 w5 hown5 hg5 hor5; have Hown5 := Lib.hid hown5; have Hb5 := Lib.hid (Hb1.out.grown hg5 (by simp) (fun j hj => (HE.out.block j hj).1)); clear hown5 hg5 hor5)
    go_ret
    exact ⟨_, rfl, by simpa using Hown5.out, Hb5.out⟩
set_option maxHeartbeats 2000000 in
set_option maxRecDepth 100000 in
theorem cloneLnk (A : Option Addr) (c : Nat) (M : List Lnk) (w : World) (B : Nat) (h : RowsAt 4 Lnk.cells w B A M) (hB : B ≤ w.heap.size) (hl : M.length ≤ 2 ^ 20) (n : Nat) (hn : n = M.length) :
    Calls Try.prog 82 #[.slice A n c] w fun r w' => ∃ v, r = .returned v ∧ OwnR 125 4 Lnk.cells w' w.heap.size v M ∧ Below w.heap.size w w' := by
  subst hn
  cases A with
  | none =>
    have hM : M = [] := by
      rcases Nat.eq_zero_or_pos M.length with h0 | h0
      · exact List.eq_nil_of_length_eq_zero h0
      · obtain ⟨b, o, e, -⟩ := h h0
        cases e
    subst hM
    clear h
    have hnil := fun (w : World) => Lib.run_eql_slice_nil (P := Try.prog) w 29 125 none 0 c 0 0 Try.underlying29
    simp only [List.length_nil]
    go_enter Try.func82, Try.ntmps82
    go_wp2
    go_ret
    exact ⟨_, rfl, OwnR.nil _ _, Below.refl _ _⟩
  | some a =>
    have H := Lib.hid (h.more hB)
    have HE : Hid (OwnR 125 4 Lnk.cells (w.alloc (.cells #[] 125)) w.heap.size (.slice (some ⟨w.heap.size, 0, none⟩) 0 0) ([] : List Lnk)) := Lib.hid (own_empty _)
    have hb1 := (Below.refl w.heap.size w).alloc (Nat.le_refl _) (.cells #[] 125)
    have Hb1 := Lib.hid hb1
    clear h hB hb1
    have hnil := fun (w : World) => Lib.run_eql_slice_nil (P := Try.prog) w 29 125 (some a) M.length c 0 0 Try.underlying29
    go_enter Try.func82, Try.ntmps82
    go_wp2_with (at_builtin; (refine app_rows (e := 125) Lnk.cells (fun _ => rfl) (by decide) (bytes := 32) (by decide) infoLnk rfl Try.underlying29 onesL (by rfl) _ _ (by rfl) w.heap.size _ [] (by rfl) HE.out (some a) c M.length M rfl (by rfl) ((H.out.below Hb1.out).more (by simp)) (by simp; omega) (by simp) ?_); intro v5 w5 hown5 hg5 hor5; have Hown5 := Lib.hid hown5; have Hb5 := Lib.hid (Hb1.out.grown hg5 (by simp) (fun j hj => (HE.out.block j hj).1)); clear hown5 hg5 hor5)
    go_ret
    exact ⟨_, rfl, by simpa using Hown5.out, Hb5.out⟩

end Go.Proofs.Ytbffhdlfplgccaa

/-
  Numbers as bytes: the program's way.
-/
namespace Go.Proofs.Ytbffhdlfplgccaa
open Go.RowKit

def bcell (x : Int) : List Value := [.int .u8 x]
abbrev OwnB (w : World) (B : Nat) (v : Value) (l : List Int) : Prop := OwnR 5 1 bcell w B v l
theorem infoB : (Try.prog.info? 5).map (fun i => (i.zero, i.size, i.bytes)) = some (some (.int .u8 0), 1, 1) := by kernel_rfl
theorem onesB (x : Int) : ∀ u ∈ bcell x, u.oneCell' = true := by
  intro u hu
  simp [bcell] at hu
  subst hu
  rfl
def byteI (n : Int) (k : Nat) : Int := n / 2 ^ (8 * k) % 256
/-- a number's lowest bytes, the highest first -/
def beL (k : Nat) (n : Int) : List Int := (List.range k).reverse.map (byteI n)
theorem beL_len (k : Nat) (n : Int) : (beL k n).length = k := by simp [beL]
theorem beL_at (k : Nat) (n : Int) (j : Nat) (hj : j < k) : (beL k n)[j]? = some (byteI n (k - 1 - j)) := by
  unfold beL
  rw [List.getElem?_map, List.getElem?_reverse (by simpa using hj), List.length_range, List.getElem?_range (by omega)]
  rfl
theorem beL_take (k : Nat) (n : Int) (j : Nat) (hj : j < k) : (beL k n).take (j + 1) = (beL k n).take j ++ [byteI n (k - 1 - j)] := by
  have hl : j < (beL k n).length := by rw [beL_len]; exact hj
  rw [List.take_succ_eq_append_getElem hl]
  have := beL_at k n j hj
  rw [List.getElem?_eq_getElem hl] at this
  rw [Option.some.inj this]

set_option maxHeartbeats 1000000 in
theorem wide_v (k : Nat) (h1 : 1 ≤ k) (h4 : k ≤ 4) (w : World) : Calls Try.prog 124 #[.int .i64 k] w fun r w' => r = .returned (.int .i64 k) ∧ w = w' := by
  go_enter Try.func124, Try.ntmps124
  go_wp2
  go_ret
  refine ⟨?_, rfl⟩
  have e1 : max (k : Int) 1 = k := by omega
  have e2 : min (k : Int) 4 = k := by omega
  first
    | rfl
    | (show Ending.returned (.int .i64 (min (max (k : Int) 1) 4)) = _; rw [e1, e2])
theorem wrap_u8 (z : Int) : IntKind.u8.wrap z = z % 256 := by simp [IntKind.wrap, IntKind.bits, IntKind.signed]

set_option maxHeartbeats 4000000 in
set_option maxRecDepth 100000 in
theorem quadPut (A : Option Addr) (c : Nat) (L : List Int) (k : Nat) (h1 : 1 ≤ k) (h4 : k ≤ 4) (A2 : Option Addr) (c2 : Nat) (ns : List Int) (w : World) (B : Nat) (hL : RowsAt 1 bcell w B A L) (hN : RowsAt 1 icell w B A2 ns) (hB : B ≤ w.heap.size) (hll : L.length ≤ 2 ^ 20) (hnl : ns.length ≤ 2 ^ 16) (n n2 : Nat) (hn : n = L.length) (hn2 : n2 = ns.length) :
    Calls Try.prog 120 #[.slice A n c, .int .i64 k, .slice A2 n2 c2] w fun r w' => ∃ v, r = .returned v ∧ OwnB w' w.heap.size v (L ++ ns.flatMap (beL k)) ∧ Below w.heap.size w w' := by
  subst hn hn2
  have HL := Lib.hid (hL.more hB)
  have HN := Lib.hid (hN.more hB)
  have HE := Lib.hid (OwnR.nil (e := 5) (C := 1) (cells := bcell) w w.heap.size)
  clear hL hN hB
  go_enter Try.func120, Try.ntmps120
  go_wp2_with (at_builtin; (refine app_rows (e := 5) bcell (fun _ => rfl) (by decide) (bytes := 1) (by decide) infoB rfl Try.underlying155 onesB (by rfl) _ _ (by rfl) w.heap.size _ [] (by rfl) HE.out A c L.length L rfl (by rfl) HL.out (by simp; omega) (Nat.le_refl _) ?_); intro v5 w5 hown5 hg5 hor5; have Hown5 := Lib.hid hown5; have Hb5 := Lib.hid ((Below.refl w.heap.size w).grown hg5 (Nat.le_refl _) (fun j hj => (HE.out.block j hj).1)); clear hown5 hg5 hor5)
  go_loopw [7, 15] (fun o i wr => ∃ (j : Nat) (M : List Int), i = .int .i64 j ∧ j ≤ ns.length ∧ M = L ++ (ns.take j).flatMap (beL k) ∧ M.length = L.length + j * k ∧ OwnB wr w.heap.size o M ∧ Below w.heap.size w wr) (fun _ i _ => ns.length - (intOf i).toNat)
  case atStart => exact ⟨0, L, rfl, Nat.zero_le _, by simp, by simp, by simpa using Hown5.out, Hb5.out⟩
  case round =>
    obtain ⟨j, M, rfl, hj, hM, hMl, hown, hb⟩ := hrel
    have hjk : j * k ≤ 2 ^ 18 := by
      calc j * k ≤ 2 ^ 16 * 4 := Nat.mul_le_mul (by omega) h4
        _ = 2 ^ 18 := by decide
    have Hown := Lib.hid hown
    have Hb := Lib.hid hb
    have HM := Lib.hid hM
    clear hM
    by_cases hlt : j < ns.length
    · obtain ⟨g, o, rfl, -, z0⟩ := row_int (HN.out.below hb) j hlt
      have hjl : (j : Int) < (ns.length : Int) := by omega
      have hs := List.take_succ_eq_append_getElem hlt
      generalize ns[j] = y at *
      have Hs := Lib.hid hs
      clear hs hown hb
      go_wp2_with (go_at_call 124; (with_reducible refine Calls.mono (wide_v k h1 h4 _) ?_); rintro r w2 ⟨rfl, rfl⟩)
      go_loopw [7, 10] (fun o i wq => ∃ (q : Nat) (K : List Int), i = .int .i64 ((k : Int) - 1 - q) ∧ q ≤ k ∧ K = M ++ (beL k y).take q ∧ K.length = M.length + q ∧ OwnB wq w.heap.size o K ∧ Below w.heap.size w wq) (fun _ i _ => ((intOf i) + 1).toNat)
      case atStart => exact ⟨0, M, by simp, Nat.zero_le _, by simp, by simp, Hown.out, Hb.out⟩
      case round =>
        obtain ⟨wo, rfl⟩ : ∃ wo : World, wo = wr := ⟨_, rfl⟩
        obtain ⟨q, K, rfl, hq, hK, hKl, hown, hb⟩ := hrel
        obtain ⟨A6, c6, hv6⟩ := hown.shape
        rw [hKl] at hv6
        subst hv6
        have HownK := Lib.hid hown
        have Hbq := Lib.hid hb
        have HK := Lib.hid hK
        clear hK hown hb
        by_cases hqk : q < k
        · obtain ⟨i, hi⟩ : ∃ i : Nat, (k : Int) - 1 - q = i ∧ i = k - 1 - q := ⟨k - 1 - q, by omega, rfl⟩
          rw [hi.1]
          have hbt := beL_take k y q hqk
          rw [← hi.2] at hbt
          have Hbt := Lib.hid hbt
          have Hi := Lib.hid hi
          have hi3 : i ≤ 3 := by omega
          clear hbt hi
          have hKn : K.length + 1 ≤ 2 ^ 30 := by omega
          go_wp2_with (at_builtin; (refine app_row (e := 5) bcell (fun _ => rfl) (by decide) (bytes := 1) (by decide) infoB rfl Try.underlying155 onesB (by rfl) _ _ (by rfl) w.heap.size _ K (by rfl) (HownK.out.alloc _) wo.heap.size (byteI y i) (by rfl) (Blk.new _ _ _) hKn (by have := Hbq.out.size; simp; omega) ?_); intro v7 w7 hown7 hg7 hor7; have Hown7 := Lib.hid hown7; have Hb7 := Lib.hid ((Hbq.out.alloc Hbq.out.size _).grown hg7 (by have := Hbq.out.size; simp; omega) (fun j hj => (HownK.out.block j hj).1)); clear hown7 hg7 hor7)
          go_roundw
          case measure => (first | (simp [intOf]; done) | (simp [intOf]; omega))
          case rel => exact ⟨q + 1, K ++ [byteI y i], by rw [show ((k : Int) - 1 - ((q + 1 : Nat) : Int)) = (i : Int) - 1 by have := Hi.out.1; omega], hqk, by rw [Hbt.out, HK.out, List.append_assoc], by rw [List.length_append, hKl, List.length_singleton, Nat.add_assoc], Hown7.out, Hb7.out⟩
        · have hqk' : q = k := by omega
          subst hqk'
          have Hfin := Lib.hid (show K = L ++ (ns.take (j + 1)).flatMap (beL q) by
            have e : (beL q y).take q = beL q y := List.take_of_length_le (by rw [beL_len]; exact Nat.le_refl _)
            rw [HK.out, e, HM.out, Hs.out, List.flatMap_append, List.append_assoc]
            simp)
          have hneg : ((q : Int) - 1 - q) = -1 := by omega
          rw [hneg]
          clear hneg
          go_wp2
          go_roundw
          case measure => simp [intOf]; omega
          case rel => exact ⟨j + 1, K, by go_num, hlt, Hfin.out, by rw [hKl, hMl, Nat.add_mul]; omega, by rw [← hKl] at *; exact HownK.out, Hbq.out⟩
    · have hjj : j = ns.length := by omega
      subst hjj
      have Hfin := Lib.hid (show M = L ++ ns.flatMap (beL k) by rw [HM.out, List.take_length])
      obtain ⟨A6, c6, hv6⟩ := hown.shape
      subst hv6
      clear hown hb
      go_wp2
      go_ret
      exact ⟨_, rfl, by rw [← Hfin.out]; exact Hown.out, Hb.out⟩

end Go.Proofs.Ytbffhdlfplgccaa
