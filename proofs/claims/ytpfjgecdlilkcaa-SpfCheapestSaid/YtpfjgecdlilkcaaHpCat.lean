/-
  slices.Clone, slices.Grow (at nil), slices.Concat (of two) at hops.
-/
import Derived.Test.YtpfjgecdlilkcaaRowClr
import Derived.Test.YtpfjgecdlilkcaaSpHops
import Derived.Test.YtpfjgecdlilkcaaCmpTail
import Derived.Test.YtpfjgecdlilkcaaRegionP
import Derived.Lib.AppendZeros
import Derived.Shelf.SlGeneric
namespace Go.Proofs.Ytpfjgecdlilkcaa
open Go.RowKit

theorem ownE {α : Type} {e : TypeId} {C : Nat} {cells : α → List Value} (w : World) : OwnR e C cells (w.alloc (.cells #[] e)) w.heap.size (.slice (some ⟨w.heap.size, 0, none⟩) 0 0) ([] : List α) := by
  exact ⟨by simp, .inr ⟨w.heap.size, 0, #[], rfl, Nat.le_refl _, Blk.new w e #[], by simp, by unfold maxLen; omega, by simp, by simp⟩⟩
theorem infoH : (Try.prog.info? 68).map (fun i => (i.zero, i.size, i.bytes)) = some (some (.agg #[.int .i64 0, .int .i64 0]), 2, 16) := by kernel_rfl
theorem onesHp (x : Hp) : ∀ u ∈ Hp.cells x, u.oneCell' = true := by
  intro u hu
  simp [Hp.cells] at hu
  rcases hu with rfl | rfl <;> rfl
abbrev OwnH (w : World) (B : Nat) (v : Value) (l : List Hp) : Prop := OwnR 68 2 Hp.cells w B v l
abbrev RowsH (w : World) (B : Nat) (A : Option Addr) (l : List Hp) : Prop := RowsAt 2 Hp.cells w B A l
set_option maxHeartbeats 2000000 in
set_option maxRecDepth 100000 in
theorem cloneHp (A : Option Addr) (c : Nat) (M : List Hp) (w : World) (B : Nat) (h : RowsH w B A M) (hB : B ≤ w.heap.size) (hl : M.length ≤ 2 ^ 20) (n : Nat) (hn : n = M.length) :
    Calls Try.prog 61 #[.slice A n c] w fun r w' => ∃ v, r = .returned v ∧ OwnH w' w.heap.size v M ∧ Below w.heap.size w w' := by
  subst hn
  cases A with
  | none =>
    have hM : M = [] := by
      rcases Nat.eq_zero_or_pos M.length with h0 | h0
      · exact List.eq_nil_of_length_eq_zero h0
      · obtain ⟨b, o, e, -⟩ := h h0
        cases e
    subst hM
    clear h
    have hnil := fun (w : World) => Lib.run_eql_slice_nil (P := Try.prog) w 57 68 none 0 c 0 0 Try.underlying57
    simp only [List.length_nil]
    go_enter Try.func61, Try.ntmps61
    go_wp2
    go_ret
    exact ⟨_, rfl, OwnR.nil _ _, Below.refl _ _⟩
  | some a =>
    have H := Lib.hid (h.more hB)
    have HE : Hid (OwnH (w.alloc (.cells #[] 68)) w.heap.size (.slice (some ⟨w.heap.size, 0, none⟩) 0 0) ([] : List Hp)) := Lib.hid (ownE _)
    have hb1 := (Below.refl w.heap.size w).alloc (Nat.le_refl _) (.cells #[] 68)
    have Hb1 := Lib.hid hb1
    clear h hB hb1
    have hnil := fun (w : World) => Lib.run_eql_slice_nil (P := Try.prog) w 57 68 (some a) M.length c 0 0 Try.underlying57
    go_enter Try.func61, Try.ntmps61
    go_wp2_with (at_builtin; (refine app_rows (e := 68) Hp.cells (fun _ => rfl) (by decide) (bytes := 16) (by decide) infoH rfl Try.underlying57 onesHp (by rfl) _ _ (by rfl) w.heap.size _ [] (by rfl) HE.out (some a) c M.length M rfl (by rfl) ((H.out.below Hb1.out).more (by simp)) (by simp; omega) (by simp) ?_); intro v5 w5 hown5 hg5 hor5; have Hown5 := Lib.hid hown5; have Hb5 := Lib.hid (Hb1.out.grown hg5 (by simp) (fun j hj => (HE.out.block j hj).1)); clear hown5 hg5 hor5)
    go_ret
    exact ⟨_, rfl, by simpa using Hown5.out, Hb5.out⟩
set_option maxHeartbeats 2000000 in
set_option maxRecDepth 100000 in
theorem growHp (n : Nat) (hn : n ≤ 2 ^ 20) (w : World) :
    Calls Try.prog 117 #[.slice none 0 0, .int .i64 n] w fun r w' => ∃ v, r = .returned v ∧ OwnH w' w.heap.size v [] ∧ Below w.heap.size w w' := by
  have hnn : ¬ (n : Int) < 0 := by omega
  have hni : (n : Int) ≤ 1048576 := by omega
  by_cases h0 : n = 0
  · subst h0
    have hz : ¬ (0 : Int) < 0 := by omega
    go_enter Try.func117, Try.ntmps117
    go_wp2
    go_ret
    exact ⟨_, rfl, OwnR.nil _ _, Below.refl _ _⟩
  · have hpos : 0 < (n : Int) := by omega
    obtain ⟨i, hi, hz, hs, hb⟩ := info_parts infoH
    have hr := fun ty => Lib.run_append_nil_zeros (P := Try.prog) w 57 3 ty 68 i (.agg #[.int .i64 0, .int .i64 0]) .i64 .i64 Try.underlying57 Try.underlying3 hi hz n (by omega) (by rw [hs]; decide) (by omega) (by rw [hb]; omega)
    obtain ⟨c, hc⟩ : ∃ c, grownCap w n 0 68 = c := ⟨_, rfl⟩
    have hcn : n ≤ c := by rw [← hc]; exact grownCap_ge w n 0 _
    have hcm : c ≤ maxLen := by rw [← hc]; exact grownCap_le_maxLen w n 0 _ (by unfold maxLen; omega)
    rw [hc] at hr
    obtain ⟨cs, hcs⟩ : ∃ cs, Builtin.zeroCells (Value.agg #[.int .i64 0, .int .i64 0]).cells n ++ Builtin.zeroCells (Value.agg #[.int .i64 0, .int .i64 0]).cells (c - n) = cs := ⟨_, rfl⟩
    have hcz : cs.size = c * 2 := by
      rw [← hcs, Array.size_append]
      unfold Builtin.zeroCells
      simp [Value.cells]
      omega
    rw [hcs] at hr
    have hown := World.ownsRow_made w.drew cs c (base := w.heap.size) (e := 68) (size := 2) (Nat.le_refl _) hcm hcz
    have hbl := ((Below.refl w.heap.size w).drew).alloc (Nat.le_refl _) (.cells cs 68)
    obtain ⟨w2, hw2⟩ : ∃ w2, w.drew.alloc (.cells cs 68) = w2 := ⟨_, rfl⟩
    rw [hw2] at hr hown hbl
    have HR := Lib.hid hr
    have HO := Lib.hid hown
    have HB := Lib.hid hbl
    have hc0 : 0 ≤ (c : Int) := by omega
    have hcm2 : (c : Int) ≤ 9223372036854775807 := by unfold maxLen at hcm; omega
    clear hr hown hbl hc hcs hcz hw2 hi hz hs hb hcm
    go_enter Try.func117, Try.ntmps117
    go_wp2_with (at_builtin; (refine Lib.wpList_append_run _ (by rfl) _ _ 57 3 (by rfl) (.slice none 0 0) (.int .i64 n) (by rfl) (by rfl) _ _ (HR.out _) ?_))
    go_ret
    exact ⟨_, rfl, HO.out, HB.out⟩

def catH (A B : List Hp) : Nat → List Hp
  | 0 => []
  | 1 => A
  | _ => A ++ B
set_option maxHeartbeats 4000000 in
set_option maxRecDepth 100000 in
/-- one behind the other -/
theorem concatHp (A1 A2 : Option Addr) (c1 c2 : Nat) (M1 M2 : List Hp) (g : Nat) (w : World) (n1 n2 : Nat) (hn1 : n1 = M1.length) (hn2 : n2 = M2.length) (hk : Blk w g 57 #[.slice A1 n1 c1, .slice A2 n2 c2]) (h1 : RowsH w w.heap.size A1 M1) (h2 : RowsH w w.heap.size A2 M2) (hl1 : M1.length ≤ 2 ^ 18) (hl2 : M2.length ≤ 2 ^ 18) :
    Calls Try.prog 96 #[.slice (some ⟨g, 0, none⟩) 2 2] w fun r w' => ∃ v, r = .returned v ∧ OwnH w' w.heap.size v (M1 ++ M2) ∧ Below w.heap.size w w' := by
  have H1 := Lib.hid h1
  have H2 := Lib.hid h2
  have Hk := Lib.hid hk
  have Hn1 := Lib.hid hn1
  have Hn2 := Lib.hid hn2
  have hi1 : (n1 : Int) ≤ 262144 := by omega
  have hi2 : (n2 : Int) ≤ 262144 := by omega
  have hp1 : 0 ≤ (n1 : Int) := by omega
  have hp2 : 0 ≤ (n2 : Int) := by omega
  have Hl1 := Lib.hid hl1
  have Hl2 := Lib.hid hl2
  obtain ⟨k0, k1, -, -⟩ := hk.cells2
  clear h1 h2 hk hn1 hn2 hl1 hl2
  go_enter Try.func96, Try.ntmps96
  go_wp2
  go_loop [3, 11] (fun s i => (i = .int .i64 0 ∧ s = .int .i64 0) ∨ (i = .int .i64 1 ∧ s = .int .i64 n1) ∨ (i = .int .i64 2 ∧ s = .int .i64 (n1 + n2 : Nat))) (fun _ i => 2 - (intOf i).toNat)
  case atStart => exact .inl ⟨rfl, rfl⟩
  case round =>
    rcases hrel with ⟨rfl, rfl⟩ | ⟨rfl, rfl⟩ | ⟨rfl, rfl⟩
    · go_wp2
      go_round
      case measure => simp [intOf]
      case rel => exact .inr (.inl ⟨by go_num, by go_num⟩)
    · go_wp2
      go_round
      case measure => simp [intOf]
      case rel => exact .inr (.inr ⟨by go_num, by go_num⟩)
    · have hG := growHp (n1 + n2) (by have := Hn1.out; have := Hn2.out; have := Hl1.out; have := Hl2.out; omega) w
      rw [Int.natCast_add] at hG
      have HG := Lib.hid hG
      clear hG
      go_wp2_with fail
      with_reducible refine Calls.mono HG.out ?_
      rintro r w1 ⟨v, rfl, ho, hb⟩
      obtain ⟨A6, c6, hv⟩ := ho.shape
      subst hv
      have Ho := Lib.hid ho
      have Hb := Lib.hid hb
      clear k0 k1 ho hb HG
      go_wp2
      go_loopw [6, 27] (fun v i wr => ∃ k : Nat, k ≤ 2 ∧ i = .int .i64 k ∧ OwnH wr w.heap.size v (catH M1 M2 k) ∧ Below w.heap.size w wr) (fun _ i _ => 2 - (intOf i).toNat)
      case atStart => exact ⟨0, by omega, rfl, Ho.out, Hb.out⟩
      case round =>
        obtain ⟨k, hk, rfl, hown, hb⟩ := hrel
        obtain ⟨A7, c7, hv⟩ := hown.shape
        subst hv
        have Hown := Lib.hid hown
        have Hb := Lib.hid hb
        have hkr := Hk.out.below hb Hk.out.lt
        obtain ⟨k0, k1, -, -⟩ := hkr.cells2
        clear hown hb hkr
        obtain rfl | rfl | rfl : k = 0 ∨ k = 1 ∨ k = 2 := by omega
        · go_wp2_with (at_builtin; (refine app_rows (e := 68) Hp.cells (fun _ => rfl) (by decide) (bytes := 16) (by decide) infoH rfl Try.underlying57 onesHp (by rfl) _ _ (by rfl) w.heap.size _ (catH M1 M2 0) (by rfl) Hown.out A1 c1 n1 M1 Hn1.out (by rfl) ((H1.out.below Hb.out).more Hb.out.size) (by have := Hl1.out; simp [catH]; omega) Hb.out.size ?_); intro v5 w5 hown5 hg5 hor5; have Hown5 := Lib.hid (show OwnH w5 w.heap.size v5 (catH M1 M2 1) from hown5); have Hb5 := Lib.hid (Hb.out.grown hg5 Hb.out.size (fun j hj => (Hown.out.block j hj).1)); clear hown5 hg5 hor5)
          go_roundw
          case measure => simp [intOf]
          case rel => exact ⟨1, by omega, by go_num, Hown5.out, Hb5.out⟩
        · go_wp2_with (at_builtin; (refine app_rows (e := 68) Hp.cells (fun _ => rfl) (by decide) (bytes := 16) (by decide) infoH rfl Try.underlying57 onesHp (by rfl) _ _ (by rfl) w.heap.size _ (catH M1 M2 1) (by rfl) Hown.out A2 c2 n2 M2 Hn2.out (by rfl) ((H2.out.below Hb.out).more Hb.out.size) (by have := Hl1.out; have := Hl2.out; simp [catH]; omega) Hb.out.size ?_); intro v5 w5 hown5 hg5 hor5; have Hown5 := Lib.hid (show OwnH w5 w.heap.size v5 (catH M1 M2 2) from hown5); have Hb5 := Lib.hid (Hb.out.grown hg5 Hb.out.size (fun j hj => (Hown.out.block j hj).1)); clear hown5 hg5 hor5)
          go_roundw
          case measure => simp [intOf]
          case rel => exact ⟨2, by omega, by go_num, Hown5.out, Hb5.out⟩
        · go_wp2
          go_ret
          exact ⟨_, rfl, Hown.out, Hb.out⟩

end Go.Proofs.Ytpfjgecdlilkcaa
