/-
  Layer 14: two sides, of any numbers.
-/
import Derived.Test.YtfpjkeddcagfcaaBaa
import Derived.Test.YtfpjkeddcagfcaaBab
import Derived.Test.YtfpjkeddcagfcaaBaf
import Derived.Test.YtfpjkeddcagfcaaBak
namespace Go.Proofs.Ytfpjkeddcagfcaa
open Go.RowKit Go.Sort

set_option maxHeartbeats 16000000 in
set_option maxRecDepth 100000 in
theorem two_any (n0 n9 n1 n2 : Int) (A : Option Addr) (m c : Nat) (A' : Option Addr) (m' c' : Nat) (w : World) :
    Calls Try.prog 13 #[.agg #[.int .i64 n0, .int .i64 n9, .int .i64 n1, .int .i64 n2], .agg #[.slice A m c, .slice A' m' c']] w fun r w' => ∃ p1 p2 s1 s2, r = .returned (.tuple #[.pointer (some ⟨s1, 0, none⟩), .pointer (some ⟨s2, 0, none⟩)]) ∧ Blk w' p1 65 (exA n0 n9 (n1 % 4294967296) false false false false false false 0 true true true (n1 % 4294967296) (.slice none 0 0) (.pointer none)) ∧ Blk w' p2 65 (exA n9 n0 (n2 % 4294967296) false false false false false false 0 true true true (n2 % 4294967296) (.slice none 0 0) (.pointer none)) ∧
      Blk w' s1 48 #[.pointer (some ⟨p1, 0, none⟩), .slice A m c, .slice none 0 0] ∧ Blk w' s2 48 #[.pointer (some ⟨p2, 0, none⟩), .slice A' m' c', .slice none 0 0] ∧ (w.heap.size ≤ p1 ∧ w.heap.size ≤ p2 ∧ w.heap.size ≤ s1 ∧ w.heap.size ≤ s2 ∧ p1 ≠ p2 ∧ s1 ≠ s2) ∧ Below w.heap.size w w' := by
  obtain ⟨w2, hw2⟩ : ∃ w2, (w.alloc (.cells #[.int .i64 n0, .int .i64 n9, .int .i64 n1, .int .i64 n2] 38)).alloc (.cells #[.slice A m c, .slice A' m' c'] 39) = w2 := ⟨_, rfl⟩
  have ha : Blk w2 w.heap.size 38 #[.int .i64 n0, .int .i64 n9, .int .i64 n1, .int .i64 n2] := by rw [← hw2]; exact (Blk.new _ _ _).alloc _
  have hbk : Blk w2 (w.heap.size + 1) 39 #[.slice A m c, .slice A' m' c'] := by rw [← hw2]; exact Blk.size (by simp)
  have hb2 : Below w.heap.size w w2 := by rw [← hw2]; exact (below_new _ _).alloc (by simp) _
  have HA := Lib.hid (fun W (hW : Below w2.heap.size w2 W) => blk4f14 (ha.below hW ha.lt))
  have HB := Lib.hid (fun W (hW : Below w2.heap.size w2 W) => blk2f14 (hbk.below hW hbk.lt))
  have Hb2 := Lib.hid hb2
  clear ha hbk hb2
  go_enter Try.func13, Try.ntmps13
  go_wp2_with fail
  refine wp_region_F (F := fun W => Below w2.heap.size w2 W) (n := 24) (m := 24) (s := #[false, false, false, false, false, false, false, false, false, false, false, false, false, false, false, false, false, false, false, false, false, false, false, false]) (by kernel_rfl) (by kernel_rfl) (by kernel_rfl) ?_
  intro wd hwd
  have hF : Below w2.heap.size w2 wd := by rw [hwd.out]; exact (Below.refl _ _).drew
  clear hwd
  refine G_take (i := 0) (d := some 6) (by decide) (s' := #[true, false, false, false, false, false, false, false, false, false, false, false, false, false, false, false, false, false, false, false, false, false, false, false]) (by kernel_rfl) rfl rfl (by kernel_rfl) (by kernel_rfl) (by kernel_rfl) (fun _ _ _ h => h) (Or.inl ⟨by kernel_rfl, fun W hW => by obtain ⟨a0, a1, a2, a3⟩ := HA.out W hW; obtain ⟨b0, b1⟩ := HB.out W hW; go_simp; try with_reducible rfl⟩) hF ?_
  go_frame
  refine G_take (i := 2) (d := some 8) (by decide) (s' := #[true, false, true, false, false, false, false, false, false, false, false, false, false, false, false, false, false, false, false, false, false, false, false, false]) (by kernel_rfl) rfl rfl (by kernel_rfl) (by kernel_rfl) (by kernel_rfl) (fun _ _ _ h => h) (Or.inl ⟨by kernel_rfl, fun W hW => by obtain ⟨a0, a1, a2, a3⟩ := HA.out W hW; obtain ⟨b0, b1⟩ := HB.out W hW; go_simp; try with_reducible rfl⟩) hF ?_
  go_frame
  refine G_take (i := 4) (d := some 10) (by decide) (s' := #[true, false, true, false, true, false, false, false, false, false, false, false, false, false, false, false, false, false, false, false, false, false, false, false]) (by kernel_rfl) rfl rfl (by kernel_rfl) (by kernel_rfl) (by kernel_rfl) (fun _ _ _ h => h) (Or.inl ⟨by kernel_rfl, fun W hW => by obtain ⟨a0, a1, a2, a3⟩ := HA.out W hW; obtain ⟨b0, b1⟩ := HB.out W hW; go_simp; try with_reducible rfl⟩) hF ?_
  go_frame
  refine G_take (i := 7) (d := some 13) (by decide) (s' := #[true, false, true, false, true, false, false, true, false, false, false, false, false, false, false, false, false, false, false, false, false, false, false, false]) (by kernel_rfl) rfl rfl (by kernel_rfl) (by kernel_rfl) (by kernel_rfl) (fun _ _ _ h => h) (Or.inl ⟨by kernel_rfl, fun W hW => by obtain ⟨a0, a1, a2, a3⟩ := HA.out W hW; obtain ⟨b0, b1⟩ := HB.out W hW; go_simp; try with_reducible rfl⟩) hF ?_
  go_frame
  refine G_take (i := 11) (d := some 17) (by decide) (s' := #[true, false, true, false, true, false, false, true, false, false, false, true, false, false, false, false, false, false, false, false, false, false, false, false]) (by kernel_rfl) rfl rfl (by kernel_rfl) (by kernel_rfl) (by kernel_rfl) (fun _ _ _ h => h) (Or.inl ⟨by kernel_rfl, fun W hW => by obtain ⟨a0, a1, a2, a3⟩ := HA.out W hW; obtain ⟨b0, b1⟩ := HB.out W hW; go_simp; try with_reducible rfl⟩) hF ?_
  go_frame
  refine G_take (i := 13) (d := some 19) (by decide) (s' := #[true, false, true, false, true, false, false, true, false, false, false, true, false, true, false, false, false, false, false, false, false, false, false, false]) (by kernel_rfl) rfl rfl (by kernel_rfl) (by kernel_rfl) (by kernel_rfl) (fun _ _ _ h => h) (Or.inl ⟨by kernel_rfl, fun W hW => by obtain ⟨a0, a1, a2, a3⟩ := HA.out W hW; obtain ⟨b0, b1⟩ := HB.out W hW; go_simp; try with_reducible rfl⟩) hF ?_
  go_frame
  refine G_take (i := 15) (d := some 21) (by decide) (s' := #[true, false, true, false, true, false, false, true, false, false, false, true, false, true, false, true, false, false, false, false, false, false, false, false]) (by kernel_rfl) rfl rfl (by kernel_rfl) (by kernel_rfl) (by kernel_rfl) (fun _ _ _ h => h) (Or.inl ⟨by kernel_rfl, fun W hW => by obtain ⟨a0, a1, a2, a3⟩ := HA.out W hW; obtain ⟨b0, b1⟩ := HB.out W hW; go_simp; try with_reducible rfl⟩) hF ?_
  go_frame
  refine G_take (i := 18) (d := some 24) (by decide) (s' := #[true, false, true, false, true, false, false, true, false, false, false, true, false, true, false, true, false, false, true, false, false, false, false, false]) (by kernel_rfl) rfl rfl (by kernel_rfl) (by kernel_rfl) (by kernel_rfl) (fun _ _ _ h => h) (Or.inl ⟨by kernel_rfl, fun W hW => by obtain ⟨a0, a1, a2, a3⟩ := HA.out W hW; obtain ⟨b0, b1⟩ := HB.out W hW; go_simp; try with_reducible rfl⟩) hF ?_
  go_frame
  refine G_take (i := 1) (d := some 7) (by decide) (s' := #[true, true, true, false, true, false, false, true, false, false, false, true, false, true, false, true, false, false, true, false, false, false, false, false]) (by kernel_rfl) rfl rfl (by kernel_rfl) (by kernel_rfl) (by kernel_rfl) (fun _ _ _ h => h) (Or.inl ⟨by kernel_rfl, fun W hW => by obtain ⟨a0, a1, a2, a3⟩ := HA.out W hW; obtain ⟨b0, b1⟩ := HB.out W hW; go_simp; try with_reducible rfl⟩) hF ?_
  go_frame
  refine G_take (i := 3) (d := some 9) (by decide) (s' := #[true, true, true, true, true, false, false, true, false, false, false, true, false, true, false, true, false, false, true, false, false, false, false, false]) (by kernel_rfl) rfl rfl (by kernel_rfl) (by kernel_rfl) (by kernel_rfl) (fun _ _ _ h => h) (Or.inl ⟨by kernel_rfl, fun W hW => by obtain ⟨a0, a1, a2, a3⟩ := HA.out W hW; obtain ⟨b0, b1⟩ := HB.out W hW; go_simp; try with_reducible rfl⟩) hF ?_
  go_frame
  refine G_take (i := 5) (d := some 11) (by decide) (s' := #[true, true, true, true, true, true, false, true, false, false, false, true, false, true, false, true, false, false, true, false, false, false, false, false]) (by kernel_rfl) rfl rfl (by kernel_rfl) (by kernel_rfl) (by kernel_rfl) (fun _ _ _ h => h) (Or.inl ⟨by kernel_rfl, fun W hW => by obtain ⟨a0, a1, a2, a3⟩ := HA.out W hW; obtain ⟨b0, b1⟩ := HB.out W hW; go_simp; try with_reducible rfl⟩) hF ?_
  go_frame
  refine G_take (i := 8) (d := some 14) (by decide) (s' := #[true, true, true, true, true, true, false, true, true, false, false, true, false, true, false, true, false, false, true, false, false, false, false, false]) (by kernel_rfl) rfl rfl (by kernel_rfl) (by kernel_rfl) (by kernel_rfl) (fun _ _ _ h => h) (Or.inl ⟨by kernel_rfl, fun W hW => by obtain ⟨a0, a1, a2, a3⟩ := HA.out W hW; obtain ⟨b0, b1⟩ := HB.out W hW; go_simp; try with_reducible rfl⟩) hF ?_
  go_frame
  refine G_take (i := 12) (d := some 18) (by decide) (s' := #[true, true, true, true, true, true, false, true, true, false, false, true, true, true, false, true, false, false, true, false, false, false, false, false]) (by kernel_rfl) rfl rfl (by kernel_rfl) (by kernel_rfl) (by kernel_rfl) (fun _ _ _ h => h) (Or.inl ⟨by kernel_rfl, fun W hW => by obtain ⟨a0, a1, a2, a3⟩ := HA.out W hW; obtain ⟨b0, b1⟩ := HB.out W hW; go_simp; try with_reducible rfl⟩) hF ?_
  go_frame
  refine G_take (i := 14) (d := some 20) (by decide) (s' := #[true, true, true, true, true, true, false, true, true, false, false, true, true, true, true, true, false, false, true, false, false, false, false, false]) (by kernel_rfl) rfl rfl (by kernel_rfl) (by kernel_rfl) (by kernel_rfl) (fun _ _ _ h => h) (Or.inl ⟨by kernel_rfl, fun W hW => by obtain ⟨a0, a1, a2, a3⟩ := HA.out W hW; obtain ⟨b0, b1⟩ := HB.out W hW; go_simp; try with_reducible rfl⟩) hF ?_
  go_frame
  refine G_take (i := 16) (d := some 22) (by decide) (s' := #[true, true, true, true, true, true, false, true, true, false, false, true, true, true, true, true, true, false, true, false, false, false, false, false]) (by kernel_rfl) rfl rfl (by kernel_rfl) (by kernel_rfl) (by kernel_rfl) (fun _ _ _ h => h) (Or.inl ⟨by kernel_rfl, fun W hW => by obtain ⟨a0, a1, a2, a3⟩ := HA.out W hW; obtain ⟨b0, b1⟩ := HB.out W hW; go_simp; try with_reducible rfl⟩) hF ?_
  go_frame
  refine G_take (i := 19) (d := some 25) (by decide) (s' := #[true, true, true, true, true, true, false, true, true, false, false, true, true, true, true, true, true, false, true, true, false, false, false, false]) (by kernel_rfl) rfl rfl (by kernel_rfl) (by kernel_rfl) (by kernel_rfl) (fun _ _ _ h => h) (Or.inl ⟨by kernel_rfl, fun W hW => by obtain ⟨a0, a1, a2, a3⟩ := HA.out W hW; obtain ⟨b0, b1⟩ := HB.out W hW; go_simp; try with_reducible rfl⟩) hF ?_
  go_frame
  refine F_one (i := 6) (s' := #[true, true, true, true, true, true, true, true, true, false, false, true, true, true, true, true, true, false, true, true, false, false, false, false]) (by kernel_rfl) (by kernel_rfl) ?_
  refine (wpOp_enterL (i := 6) (d := some 12) (f := 8) (args := #[.int .i64 n0, .int .i64 n9, .int .i64 n1]) rfl rfl (by kernel_rfl) (by go_simp) ((exNew n0 n9 n1 wd).mono ?_))
  rintro r v1 ⟨rfl, hv1⟩
  have hb : Below wd.heap.size wd v1 := by rw [hv1]; exact below_new _ _
  have kp1 : Blk v1 wd.heap.size 65 (exA n0 n9 (n1 % 4294967296) false false false false false false 0 true true true (n1 % 4294967296) (.slice none 0 0) (.pointer none)) := by rw [hv1]; exact Blk.new _ _ _
  clear hv1
  obtain ⟨p1, hp1⟩ : ∃ p1, wd.heap.size = p1 := ⟨_, rfl⟩
  have Qp1 := Lib.hid (show w.heap.size ≤ p1 by rw [← hp1]; exact Nat.le_trans Hb2.out.size hF.size)
  rw [hp1] at kp1 ⊢
  have hF := below_trans hF hF.size hb
  clear hb
  refine ⟨_, rfl, fun _ => hF, ?_⟩
  go_frame
  refine G_take (i := 9) (d := some 15) (by decide) (s' := #[true, true, true, true, true, true, true, true, true, true, false, true, true, true, true, true, true, false, true, true, false, false, false, false]) (by kernel_rfl) rfl rfl (by kernel_rfl) (by kernel_rfl) (by kernel_rfl) (fun _ _ _ h => h) (Or.inl ⟨by kernel_rfl, fun W hW => by obtain ⟨a0, a1, a2, a3⟩ := HA.out W hW; obtain ⟨b0, b1⟩ := HB.out W hW; go_simp; try with_reducible rfl⟩) hF ?_
  go_frame
  refine F_two (i := 10) (si := #[true, true, true, true, true, true, true, true, true, true, true, true, true, true, true, true, true, false, true, true, false, false, false, false]) (j := 17) (sj := #[true, true, true, true, true, true, true, true, true, true, false, true, true, true, true, true, true, true, true, true, false, false, false, false]) (by kernel_rfl) (by kernel_rfl) (by kernel_rfl) ?_ ?_
  · skip
    obtain ⟨va, hva⟩ : ∃ v, v1.alloc (.cells #[.pointer (some ⟨p1, 0, none⟩), .slice A m c, .slice none 0 0] 48) = v := ⟨_, rfl⟩
    have hb := below_new v1 (.cells #[.pointer (some ⟨p1, 0, none⟩), .slice A m c, .slice none 0 0] 48)
    have ks1 := Blk.new v1 48 #[.pointer (some ⟨p1, 0, none⟩), .slice A m c, .slice none 0 0]
    rw [hva] at hb ks1
    obtain ⟨s1, hs1⟩ : ∃ s, v1.heap.size = s := ⟨_, rfl⟩
    have Qs1 := Lib.hid (show w.heap.size ≤ s1 by rw [← hs1]; exact Nat.le_trans Hb2.out.size hF.size)
    rw [hs1] at ks1
    have kp1 := kp1.below hb kp1.lt
    have hF := below_trans hF hF.size hb
    refine wpOp_valueL (i := 10) (d := some 16) (w' := va) (v := .pointer (some ⟨s1, 0, none⟩)) rfl rfl (by kernel_rfl) (by go_simp) ⟨fun _ => hF, ?_⟩
    go_frame
    clear hb hva hs1
    refine F_one (i := 17) (s' := #[true, true, true, true, true, true, true, true, true, true, true, true, true, true, true, true, true, true, true, true, false, false, false, false]) (by kernel_rfl) (by kernel_rfl) ?_
    refine (wpOp_enterL (i := 17) (d := some 23) (f := 8) (args := #[.int .i64 n9, .int .i64 n0, .int .i64 n2]) rfl rfl (by kernel_rfl) (by go_simp) ((exNew n9 n0 n2 va).mono ?_))
    rintro r v2va ⟨rfl, hv2va⟩
    have hb : Below va.heap.size va v2va := by rw [hv2va]; exact below_new _ _
    have kp2 : Blk v2va va.heap.size 65 (exA n9 n0 (n2 % 4294967296) false false false false false false 0 true true true (n2 % 4294967296) (.slice none 0 0) (.pointer none)) := by rw [hv2va]; exact Blk.new _ _ _
    clear hv2va
    obtain ⟨p2, hp2⟩ : ∃ p2, va.heap.size = p2 := ⟨_, rfl⟩
    have Qp2 := Lib.hid (show w.heap.size ≤ p2 by rw [← hp2]; exact Nat.le_trans Hb2.out.size hF.size)
    have Qpp := Lib.hid (show p1 ≠ p2 by have := kp1.lt; omega)
    rw [hp2] at kp2 ⊢
    have kp1 := kp1.below hb kp1.lt
    have ks1 := ks1.below hb ks1.lt
    have hF := below_trans hF hF.size hb
    clear hb
    refine ⟨_, rfl, fun _ => hF, ?_⟩
    go_frame
    refine G_take (i := 20) (d := some 26) (by decide) (s' := #[true, true, true, true, true, true, true, true, true, true, true, true, true, true, true, true, true, true, true, true, true, false, false, false]) (by kernel_rfl) rfl rfl (by kernel_rfl) (by kernel_rfl) (by kernel_rfl) (fun _ _ _ h => h) (Or.inl ⟨by kernel_rfl, fun W hW => by obtain ⟨a0, a1, a2, a3⟩ := HA.out W hW; obtain ⟨b0, b1⟩ := HB.out W hW; go_simp; try with_reducible rfl⟩) hF ?_
    go_frame
    refine G_take (i := 22) (d := some 4) (by decide) (s' := #[true, true, true, true, true, true, true, true, true, true, true, true, true, true, true, true, true, true, true, true, true, false, true, false]) (by kernel_rfl) rfl rfl (by kernel_rfl) (by kernel_rfl) (by kernel_rfl) (fun _ _ _ h => h) (Or.inl ⟨by kernel_rfl, fun W hW => by obtain ⟨a0, a1, a2, a3⟩ := HA.out W hW; obtain ⟨b0, b1⟩ := HB.out W hW; go_simp; try with_reducible rfl⟩) hF ?_
    go_frame
    refine F_one (i := 21) (s' := #[true, true, true, true, true, true, true, true, true, true, true, true, true, true, true, true, true, true, true, true, true, true, true, false]) (by kernel_rfl) (by kernel_rfl) ?_
    obtain ⟨vb, hvb⟩ : ∃ v, v2va.alloc (.cells #[.pointer (some ⟨p2, 0, none⟩), .slice A' m' c', .slice none 0 0] 48) = v := ⟨_, rfl⟩
    have hb := below_new v2va (.cells #[.pointer (some ⟨p2, 0, none⟩), .slice A' m' c', .slice none 0 0] 48)
    have ks2 := Blk.new v2va 48 #[.pointer (some ⟨p2, 0, none⟩), .slice A' m' c', .slice none 0 0]
    rw [hvb] at hb ks2
    obtain ⟨s2, hs2⟩ : ∃ s, v2va.heap.size = s := ⟨_, rfl⟩
    have Qs2 := Lib.hid (show w.heap.size ≤ s2 by rw [← hs2]; exact Nat.le_trans Hb2.out.size hF.size)
    have Qss := Lib.hid (show s1 ≠ s2 by have := ks1.lt; omega)
    rw [hs2] at ks2
    have kp1 := kp1.below hb kp1.lt
    have kp2 := kp2.below hb kp2.lt
    have ks1 := ks1.below hb ks1.lt
    have hF := below_trans hF hF.size hb
    refine wpOp_valueL (i := 21) (d := some 27) (w' := vb) (v := .pointer (some ⟨s2, 0, none⟩)) rfl rfl (by kernel_rfl) (by go_simp) ⟨fun _ => hF, ?_⟩
    go_frame
    clear hb hvb hs2
    refine G_take (i := 23) (d := some 5) (by decide) (s' := #[true, true, true, true, true, true, true, true, true, true, true, true, true, true, true, true, true, true, true, true, true, true, true, true]) (by kernel_rfl) rfl rfl (by kernel_rfl) (by kernel_rfl) (by kernel_rfl) (fun _ _ _ h => h) (Or.inl ⟨by kernel_rfl, fun W hW => by obtain ⟨a0, a1, a2, a3⟩ := HA.out W hW; obtain ⟨b0, b1⟩ := HB.out W hW; go_simp; try with_reducible rfl⟩) hF ?_
    go_frame
    refine F_done (by kernel_rfl) ?_ _
    have HK := Lib.hid (And.intro kp1 (And.intro kp2 (And.intro ks1 (And.intro ks2 hF))))
    clear kp1 kp2 ks1 ks2 hF
    go_wp2
    go_ret2
    exact ⟨p1, p2, s1, s2, rfl, HK.out.1, HK.out.2.1, HK.out.2.2.1, HK.out.2.2.2.1, ⟨Qp1.out, Qp2.out, Qs1.out, Qs2.out, Qpp.out, Qss.out⟩, below_trans Hb2.out Hb2.out.size HK.out.2.2.2.2⟩
  · skip
    refine (wpOp_enterL (i := 17) (d := some 23) (f := 8) (args := #[.int .i64 n9, .int .i64 n0, .int .i64 n2]) rfl rfl (by kernel_rfl) (by go_simp) ((exNew n9 n0 n2 v1).mono ?_))
    rintro r v2v1 ⟨rfl, hv2v1⟩
    have hb : Below v1.heap.size v1 v2v1 := by rw [hv2v1]; exact below_new _ _
    have kp2 : Blk v2v1 v1.heap.size 65 (exA n9 n0 (n2 % 4294967296) false false false false false false 0 true true true (n2 % 4294967296) (.slice none 0 0) (.pointer none)) := by rw [hv2v1]; exact Blk.new _ _ _
    clear hv2v1
    obtain ⟨p2, hp2⟩ : ∃ p2, v1.heap.size = p2 := ⟨_, rfl⟩
    have Qp2 := Lib.hid (show w.heap.size ≤ p2 by rw [← hp2]; exact Nat.le_trans Hb2.out.size hF.size)
    have Qpp := Lib.hid (show p1 ≠ p2 by have := kp1.lt; omega)
    rw [hp2] at kp2 ⊢
    have kp1 := kp1.below hb kp1.lt
    have hF := below_trans hF hF.size hb
    clear hb
    refine ⟨_, rfl, fun _ => hF, ?_⟩
    go_frame
    refine G_take (i := 20) (d := some 26) (by decide) (s' := #[true, true, true, true, true, true, true, true, true, true, false, true, true, true, true, true, true, true, true, true, true, false, false, false]) (by kernel_rfl) rfl rfl (by kernel_rfl) (by kernel_rfl) (by kernel_rfl) (fun _ _ _ h => h) (Or.inl ⟨by kernel_rfl, fun W hW => by obtain ⟨a0, a1, a2, a3⟩ := HA.out W hW; obtain ⟨b0, b1⟩ := HB.out W hW; go_simp; try with_reducible rfl⟩) hF ?_
    go_frame
    refine F_two (i := 10) (si := #[true, true, true, true, true, true, true, true, true, true, true, true, true, true, true, true, true, true, true, true, true, false, false, false]) (j := 21) (sj := #[true, true, true, true, true, true, true, true, true, true, false, true, true, true, true, true, true, true, true, true, true, true, false, false]) (by kernel_rfl) (by kernel_rfl) (by kernel_rfl) ?_ ?_
    · skip
      obtain ⟨vc, hvc⟩ : ∃ v, v2v1.alloc (.cells #[.pointer (some ⟨p1, 0, none⟩), .slice A m c, .slice none 0 0] 48) = v := ⟨_, rfl⟩
      have hb := below_new v2v1 (.cells #[.pointer (some ⟨p1, 0, none⟩), .slice A m c, .slice none 0 0] 48)
      have ks1 := Blk.new v2v1 48 #[.pointer (some ⟨p1, 0, none⟩), .slice A m c, .slice none 0 0]
      rw [hvc] at hb ks1
      obtain ⟨s1, hs1⟩ : ∃ s, v2v1.heap.size = s := ⟨_, rfl⟩
      have Qs1 := Lib.hid (show w.heap.size ≤ s1 by rw [← hs1]; exact Nat.le_trans Hb2.out.size hF.size)
      rw [hs1] at ks1
      have kp1 := kp1.below hb kp1.lt
      have kp2 := kp2.below hb kp2.lt
      have hF := below_trans hF hF.size hb
      refine wpOp_valueL (i := 10) (d := some 16) (w' := vc) (v := .pointer (some ⟨s1, 0, none⟩)) rfl rfl (by kernel_rfl) (by go_simp) ⟨fun _ => hF, ?_⟩
      go_frame
      clear hb hvc hs1
      refine G_take (i := 22) (d := some 4) (by decide) (s' := #[true, true, true, true, true, true, true, true, true, true, true, true, true, true, true, true, true, true, true, true, true, false, true, false]) (by kernel_rfl) rfl rfl (by kernel_rfl) (by kernel_rfl) (by kernel_rfl) (fun _ _ _ h => h) (Or.inl ⟨by kernel_rfl, fun W hW => by obtain ⟨a0, a1, a2, a3⟩ := HA.out W hW; obtain ⟨b0, b1⟩ := HB.out W hW; go_simp; try with_reducible rfl⟩) hF ?_
      go_frame
      refine F_one (i := 21) (s' := #[true, true, true, true, true, true, true, true, true, true, true, true, true, true, true, true, true, true, true, true, true, true, true, false]) (by kernel_rfl) (by kernel_rfl) ?_
      obtain ⟨vd, hvd⟩ : ∃ v, vc.alloc (.cells #[.pointer (some ⟨p2, 0, none⟩), .slice A' m' c', .slice none 0 0] 48) = v := ⟨_, rfl⟩
      have hb := below_new vc (.cells #[.pointer (some ⟨p2, 0, none⟩), .slice A' m' c', .slice none 0 0] 48)
      have ks2 := Blk.new vc 48 #[.pointer (some ⟨p2, 0, none⟩), .slice A' m' c', .slice none 0 0]
      rw [hvd] at hb ks2
      obtain ⟨s2, hs2⟩ : ∃ s, vc.heap.size = s := ⟨_, rfl⟩
      have Qs2 := Lib.hid (show w.heap.size ≤ s2 by rw [← hs2]; exact Nat.le_trans Hb2.out.size hF.size)
      have Qss := Lib.hid (show s1 ≠ s2 by have := ks1.lt; omega)
      rw [hs2] at ks2
      have kp1 := kp1.below hb kp1.lt
      have kp2 := kp2.below hb kp2.lt
      have ks1 := ks1.below hb ks1.lt
      have hF := below_trans hF hF.size hb
      refine wpOp_valueL (i := 21) (d := some 27) (w' := vd) (v := .pointer (some ⟨s2, 0, none⟩)) rfl rfl (by kernel_rfl) (by go_simp) ⟨fun _ => hF, ?_⟩
      go_frame
      clear hb hvd hs2
      refine G_take (i := 23) (d := some 5) (by decide) (s' := #[true, true, true, true, true, true, true, true, true, true, true, true, true, true, true, true, true, true, true, true, true, true, true, true]) (by kernel_rfl) rfl rfl (by kernel_rfl) (by kernel_rfl) (by kernel_rfl) (fun _ _ _ h => h) (Or.inl ⟨by kernel_rfl, fun W hW => by obtain ⟨a0, a1, a2, a3⟩ := HA.out W hW; obtain ⟨b0, b1⟩ := HB.out W hW; go_simp; try with_reducible rfl⟩) hF ?_
      go_frame
      refine F_done (by kernel_rfl) ?_ _
      have HK := Lib.hid (And.intro kp1 (And.intro kp2 (And.intro ks1 (And.intro ks2 hF))))
      clear kp1 kp2 ks1 ks2 hF
      go_wp2
      go_ret2
      exact ⟨p1, p2, s1, s2, rfl, HK.out.1, HK.out.2.1, HK.out.2.2.1, HK.out.2.2.2.1, ⟨Qp1.out, Qp2.out, Qs1.out, Qs2.out, Qpp.out, Qss.out⟩, below_trans Hb2.out Hb2.out.size HK.out.2.2.2.2⟩
    · skip
      obtain ⟨ve, hve⟩ : ∃ v, v2v1.alloc (.cells #[.pointer (some ⟨p2, 0, none⟩), .slice A' m' c', .slice none 0 0] 48) = v := ⟨_, rfl⟩
      have hb := below_new v2v1 (.cells #[.pointer (some ⟨p2, 0, none⟩), .slice A' m' c', .slice none 0 0] 48)
      have ks2 := Blk.new v2v1 48 #[.pointer (some ⟨p2, 0, none⟩), .slice A' m' c', .slice none 0 0]
      rw [hve] at hb ks2
      obtain ⟨s2, hs2⟩ : ∃ s, v2v1.heap.size = s := ⟨_, rfl⟩
      have Qs2 := Lib.hid (show w.heap.size ≤ s2 by rw [← hs2]; exact Nat.le_trans Hb2.out.size hF.size)
      rw [hs2] at ks2
      have kp1 := kp1.below hb kp1.lt
      have kp2 := kp2.below hb kp2.lt
      have hF := below_trans hF hF.size hb
      refine wpOp_valueL (i := 21) (d := some 27) (w' := ve) (v := .pointer (some ⟨s2, 0, none⟩)) rfl rfl (by kernel_rfl) (by go_simp) ⟨fun _ => hF, ?_⟩
      go_frame
      clear hb hve hs2
      refine F_one (i := 10) (s' := #[true, true, true, true, true, true, true, true, true, true, true, true, true, true, true, true, true, true, true, true, true, true, false, false]) (by kernel_rfl) (by kernel_rfl) ?_
      obtain ⟨vf, hvf⟩ : ∃ v, ve.alloc (.cells #[.pointer (some ⟨p1, 0, none⟩), .slice A m c, .slice none 0 0] 48) = v := ⟨_, rfl⟩
      have hb := below_new ve (.cells #[.pointer (some ⟨p1, 0, none⟩), .slice A m c, .slice none 0 0] 48)
      have ks1 := Blk.new ve 48 #[.pointer (some ⟨p1, 0, none⟩), .slice A m c, .slice none 0 0]
      rw [hvf] at hb ks1
      obtain ⟨s1, hs1⟩ : ∃ s, ve.heap.size = s := ⟨_, rfl⟩
      have Qs1 := Lib.hid (show w.heap.size ≤ s1 by rw [← hs1]; exact Nat.le_trans Hb2.out.size hF.size)
      have Qss := Lib.hid (show s1 ≠ s2 by have := ks2.lt; omega)
      rw [hs1] at ks1
      have kp1 := kp1.below hb kp1.lt
      have kp2 := kp2.below hb kp2.lt
      have ks2 := ks2.below hb ks2.lt
      have hF := below_trans hF hF.size hb
      refine wpOp_valueL (i := 10) (d := some 16) (w' := vf) (v := .pointer (some ⟨s1, 0, none⟩)) rfl rfl (by kernel_rfl) (by go_simp) ⟨fun _ => hF, ?_⟩
      go_frame
      clear hb hvf hs1
      refine G_take (i := 22) (d := some 4) (by decide) (s' := #[true, true, true, true, true, true, true, true, true, true, true, true, true, true, true, true, true, true, true, true, true, true, true, false]) (by kernel_rfl) rfl rfl (by kernel_rfl) (by kernel_rfl) (by kernel_rfl) (fun _ _ _ h => h) (Or.inl ⟨by kernel_rfl, fun W hW => by obtain ⟨a0, a1, a2, a3⟩ := HA.out W hW; obtain ⟨b0, b1⟩ := HB.out W hW; go_simp; try with_reducible rfl⟩) hF ?_
      go_frame
      refine G_take (i := 23) (d := some 5) (by decide) (s' := #[true, true, true, true, true, true, true, true, true, true, true, true, true, true, true, true, true, true, true, true, true, true, true, true]) (by kernel_rfl) rfl rfl (by kernel_rfl) (by kernel_rfl) (by kernel_rfl) (fun _ _ _ h => h) (Or.inl ⟨by kernel_rfl, fun W hW => by obtain ⟨a0, a1, a2, a3⟩ := HA.out W hW; obtain ⟨b0, b1⟩ := HB.out W hW; go_simp; try with_reducible rfl⟩) hF ?_
      go_frame
      refine F_done (by kernel_rfl) ?_ _
      have HK := Lib.hid (And.intro kp1 (And.intro kp2 (And.intro ks1 (And.intro ks2 hF))))
      clear kp1 kp2 ks1 ks2 hF
      go_wp2
      go_ret2
      exact ⟨p1, p2, s1, s2, rfl, HK.out.1, HK.out.2.1, HK.out.2.2.1, HK.out.2.2.2.1, ⟨Qp1.out, Qp2.out, Qs1.out, Qs2.out, Qpp.out, Qss.out⟩, below_trans Hb2.out Hb2.out.size HK.out.2.2.2.2⟩

end Go.Proofs.Ytfpjkeddcagfcaa

/-
  A description that was handed in.
-/
namespace Go.Proofs.Ytfpjkeddcagfcaa
open Go.ChangeShapes Go.WideShapes Go.RowKit Go.Deep Go.Joins

section
variable {H : Type} {enc : TypeId × Value → H} {w : World} {base : Nat} {spare : Nat → Bool} {held : Bool}
set_option maxRecDepth 100000 in
theorem open_lsa9 {r : Reach} {b0 : Nat} {v : Value} {d : DataW H} {p : List MemPlace} (hv : Value.okWide Try.prog w r b0 60 v) (h : DataW.Trod enc Try.prog w base spare held 60 v d p) :
    ∃ x : Lsa, v = .agg x.cells.toArray ∧ x.ok w w.heap.size := by
  obtain ⟨cs, rfl, _⟩ := okWide_struct Try.underlying60 hv
  obtain ⟨n, hn⟩ := h
  obtain ⟨x, he, hx⟩ := dec_lsa hn
  refine ⟨x, ?_, hx⟩
  congr 1
  exact Array.toList_inj.1 he
end

end Go.Proofs.Ytfpjkeddcagfcaa

/-
  A row of truths that was handed in.
-/
namespace Go.Proofs.Ytfpjkeddcagfcaa
open Go.ChangeShapes Go.WideShapes Go.RowKit Go.Deep Go.Joins

def tcell (b : Bool) : List Value := [.bool b]
section
variable {H : Type} {enc : TypeId × Value → H} {w : World} {base : Nat} {spare : Nat → Bool} {held : Bool}
theorem dec_tcell {n : Nat} {cs : List Value} {x : DataW H × List MemPlace} (h : DataW.trod enc Try.prog w base spare held n 4 cs = some x) : ∃ d : Bool, cs = tcell d ∧ True := by
  obtain ⟨b, e, _⟩ := DataW.trod_bool Try.underlying4 h
  exact ⟨b, e, trivial⟩
set_option maxRecDepth 100000 in
theorem open_bools {a : Option Addr} {len cap : Nat} {d : DataW H} {p : List MemPlace} (h : DataW.Trod enc Try.prog w base spare held 40 (.slice a len cap) d p) :
    ∃ l : List Bool, len = l.length ∧ RowsAt 1 tcell w w.heap.size a l ∧ l.length ≤ maxLen := by
  obtain ⟨n, hn⟩ := h
  obtain ⟨A, c, R, he, hr, hm, -⟩ := open_rows (C := 1) tcell (fun _ => True) (by decide) Try.underlying40 cofBool (fun _ _ _ h => dec_tcell h) hn
  simp [Value.cells] at he
  obtain ⟨rfl, rfl, rfl⟩ := he
  exact ⟨R, rfl, hr, hm⟩
end

end Go.Proofs.Ytfpjkeddcagfcaa

/-
  A piece that was handed in.
-/
namespace Go.Proofs.Ytfpjkeddcagfcaa
open Go.ChangeShapes Go.WideShapes Go.RowKit Go.Deep Go.Joins

section
variable {H : Type} {enc : TypeId × Value → H} {w : World} {base : Nat} {spare : Nat → Bool} {held : Bool}
theorem cofDd : Try.prog.cellsOf 33 = 5 := by kernel_rfl
theorem cofHeads14 : Try.prog.cellsOf 31 = 1 := by kernel_rfl
set_option maxRecDepth 100000 in
theorem dec_dd {n : Nat} {cs : List Value} {x : DataW H × List MemPlace} (h : DataW.trod enc Try.prog w base spare held n 33 cs = some x) : ∃ (b1 b2 b3 : Bool) (z : Int) (A : Option Addr) (m c : Nat), cs = [.bool b1, .bool b2, .bool b3, .int .i64 z, .slice A m c] := by
  haveI : Inhabited Hd := ⟨⟨0, 0, 0, 0, 0, 0, 0⟩⟩
  obtain ⟨hl, m, hf⟩ := dec_fields Try.underlying33 h
  rw [cofDd] at hl
  match cs, hl with
  | [c0, c1, c2, c3, c4], _ =>
    obtain ⟨_, t0⟩ := fld hf 0 4 0 1 [c0] (by kernel_rfl) cofBool rfl
    obtain ⟨_, t1⟩ := fld hf 1 4 1 1 [c1] (by kernel_rfl) cofBool rfl
    obtain ⟨_, t2⟩ := fld hf 2 4 2 1 [c2] (by kernel_rfl) cofBool rfl
    obtain ⟨_, t3⟩ := fld hf 3 3 3 1 [c3] (by kernel_rfl) cofInt rfl
    obtain ⟨_, t4⟩ := fld hf 4 31 4 1 [c4] (by kernel_rfl) cofHeads14 rfl
    obtain ⟨b1, rfl⟩ := tbool t0
    obtain ⟨b2, rfl⟩ := tbool t1
    obtain ⟨b3, rfl⟩ := tbool t2
    obtain ⟨z, rfl⟩ := tint t3
    obtain ⟨A, cap, R, he, -, -, -⟩ := open_rows (C := 7) Hd.cells Hd.wf (by decide) Try.underlying31 cofHead (fun _ _ _ h => dec_headw h) t4
    simp at he
    exact ⟨b1, b2, b3, z, A, R.length, cap, by rw [he]⟩
set_option maxRecDepth 100000 in
theorem open_dd {r : Reach} {b0 : Nat} {v : Value} {d : DataW H} {p : List MemPlace} (hv : Value.okWide Try.prog w r b0 33 v) (h : DataW.Trod enc Try.prog w base spare held 33 v d p) :
    ∃ (b1 b2 b3 : Bool) (z : Int) (A : Option Addr) (m c : Nat), v = .agg #[.bool b1, .bool b2, .bool b3, .int .i64 z, .slice A m c] := by
  obtain ⟨cs, rfl, _⟩ := okWide_struct Try.underlying33 hv
  obtain ⟨n, hn⟩ := h
  obtain ⟨b1, b2, b3, z, A, m, c, he⟩ := dec_dd hn
  refine ⟨b1, b2, b3, z, A, m, c, ?_⟩
  congr 1
  exact Array.toList_inj.1 he
set_option maxRecDepth 100000 in
theorem open_three {r : Reach} {b0 : Nat} {v : Value} {d : DataW H} {p : List MemPlace} (hv : Value.okWide Try.prog w r b0 22 v) (h : DataW.Trod enc Try.prog w base spare held 22 v d p) :
    ∃ x y z : Int, v = .agg #[.int .i64 x, .int .i64 y, .int .i64 z] := by
  obtain ⟨fuel, hf⟩ := h
  obtain ⟨xs, m, _, _, hlen, _, hi⟩ := DataW.trod_array Try.underlying22 hf
  have hc2 : Try.prog.cellsOf 22 = 3 := by kernel_rfl
  have hxs : ∀ i, i < 3 → ∃ y, DataW.trod enc Try.prog w base spare held m 3 ((v.cells.toList.drop i).take 1) = some y := by
    intro i h2
    have := hi i h2
    rw [cofInt, Nat.mul_one] at this
    have hl : i < xs.length := by omega
    exact ⟨xs[i], by rw [this, List.getElem?_eq_getElem hl]⟩
  rw [hc2] at hlen
  obtain ⟨c0, c1, c2, hcs⟩ : ∃ c0 c1 c2, v.cells.toList = [c0, c1, c2] := by
    match hc : v.cells.toList, hlen with
    | [c0, c1, c2], _ => exact ⟨c0, c1, c2, rfl⟩
  obtain ⟨y0, t0⟩ := hxs 0 (by omega)
  obtain ⟨y1, t1⟩ := hxs 1 (by omega)
  obtain ⟨y2, t2⟩ := hxs 2 (by omega)
  rw [hcs] at t0 t1 t2
  simp at t0 t1 t2
  obtain ⟨z0, rfl⟩ := tint t0
  obtain ⟨z1, rfl⟩ := tint t1
  obtain ⟨z2, rfl⟩ := tint t2
  refine ⟨z0, z1, z2, ?_⟩
  have hcells : v.cells = #[.int .i64 z0, .int .i64 z1, .int .i64 z2] := by
    apply Array.toList_inj.1; rw [hcs]
  have hsz := hv
  simp only [Value.okWide, Try.underlying22] at hsz
  obtain ⟨cs, rfl, _⟩ := hsz
  exact congrArg Value.agg hcells
end

end Go.Proofs.Ytfpjkeddcagfcaa

/-
  Pieces, and two rows of descriptions, that were handed in.
-/
namespace Go.Proofs.Ytfpjkeddcagfcaa
open Go.ChangeShapes Go.WideShapes Go.RowKit Go.Deep Go.Joins

/-- a piece that was handed in: what it tells, and where its heads lie -/
structure DdC where
  b1 : Bool
  b2 : Bool
  b3 : Bool
  z : Int
  a : Option Addr
  m : Nat
  c : Nat
def DdC.cells (d : DdC) : List Value := [.bool d.b1, .bool d.b2, .bool d.b3, .int .i64 d.z, .slice d.a d.m d.c]
section
variable {H : Type} {enc : TypeId × Value → H} {w : World} {base : Nat} {spare : Nat → Bool} {held : Bool}
set_option maxRecDepth 100000 in
theorem open_dds {a : Option Addr} {len cap : Nat} {d : DataW H} {p : List MemPlace} (h : DataW.Trod enc Try.prog w base spare held 24 (.slice a len cap) d p) :
    ∃ l : List DdC, len = l.length ∧ RowsAt 5 DdC.cells w w.heap.size a l ∧ l.length ≤ maxLen := by
  haveI : Inhabited DdC := ⟨⟨false, false, false, 0, none, 0, 0⟩⟩
  obtain ⟨n, hn⟩ := h
  obtain ⟨A, c, R, he, hr, hm, -⟩ := open_rows (C := 5) DdC.cells (fun _ => True) (by decide) Try.underlying24 cofDd (fun _ _ _ h => by
    obtain ⟨b1, b2, b3, z, A, m, c, e⟩ := dec_dd h
    exact ⟨⟨b1, b2, b3, z, A, m, c⟩, e, trivial⟩) hn
  simp [Value.cells] at he
  obtain ⟨rfl, rfl, rfl⟩ := he
  exact ⟨R, rfl, hr, hm⟩
set_option maxRecDepth 100000 in
theorem open_four {r : Reach} {b0 : Nat} {v : Value} {d : DataW H} {p : List MemPlace} (hv : Value.okWide Try.prog w r b0 38 v) (h : DataW.Trod enc Try.prog w base spare held 38 v d p) :
    ∃ x y z u : Int, v = .agg #[.int .i64 x, .int .i64 y, .int .i64 z, .int .i64 u] := by
  obtain ⟨fuel, hf⟩ := h
  obtain ⟨xs, m, _, _, hlen, _, hi⟩ := DataW.trod_array Try.underlying38 hf
  have hc2 : Try.prog.cellsOf 38 = 4 := by kernel_rfl
  have hxs : ∀ i, i < 4 → ∃ y, DataW.trod enc Try.prog w base spare held m 3 ((v.cells.toList.drop i).take 1) = some y := by
    intro i h2
    have := hi i h2
    rw [cofInt, Nat.mul_one] at this
    have hl : i < xs.length := by omega
    exact ⟨xs[i], by rw [this, List.getElem?_eq_getElem hl]⟩
  rw [hc2] at hlen
  obtain ⟨c0, c1, c2, c3, hcs⟩ : ∃ c0 c1 c2 c3, v.cells.toList = [c0, c1, c2, c3] := by
    match hc : v.cells.toList, hlen with
    | [c0, c1, c2, c3], _ => exact ⟨c0, c1, c2, c3, rfl⟩
  obtain ⟨y0, t0⟩ := hxs 0 (by omega)
  obtain ⟨y1, t1⟩ := hxs 1 (by omega)
  obtain ⟨y2, t2⟩ := hxs 2 (by omega)
  obtain ⟨y3, t3⟩ := hxs 3 (by omega)
  rw [hcs] at t0 t1 t2 t3
  simp at t0 t1 t2 t3
  obtain ⟨z0, rfl⟩ := tint t0
  obtain ⟨z1, rfl⟩ := tint t1
  obtain ⟨z2, rfl⟩ := tint t2
  obtain ⟨z3, rfl⟩ := tint t3
  refine ⟨z0, z1, z2, z3, ?_⟩
  have hcells : v.cells = #[.int .i64 z0, .int .i64 z1, .int .i64 z2, .int .i64 z3] := by
    apply Array.toList_inj.1; rw [hcs]
  have hsz := hv
  simp only [Value.okWide, Try.underlying38] at hsz
  obtain ⟨cs, rfl, _⟩ := hsz
  exact congrArg Value.agg hcells
theorem cofLsas14 : Try.prog.cellsOf 23 = 1 := by kernel_rfl
set_option maxRecDepth 100000 in
theorem open_lsas2 {r : Reach} {b0 : Nat} {v : Value} {d : DataW H} {p : List MemPlace} (hv : Value.okWide Try.prog w r b0 39 v) (h : DataW.Trod enc Try.prog w base spare held 39 v d p) :
    ∃ (A1 A2 : Option Addr) (c1 c2 : Nat) (l1 l2 : List Lsa), v = .agg #[.slice A1 l1.length c1, .slice A2 l2.length c2] ∧ LsasAt w w.heap.size A1 l1 ∧ LsasAt w w.heap.size A2 l2 ∧ l1.length ≤ maxLen ∧ l2.length ≤ maxLen := by
  obtain ⟨fuel, hf⟩ := h
  obtain ⟨xs, m, _, _, hlen, _, hi⟩ := DataW.trod_array Try.underlying39 hf
  have hc2 : Try.prog.cellsOf 39 = 2 := by kernel_rfl
  have hxs : ∀ i, i < 2 → ∃ y, DataW.trod enc Try.prog w base spare held m 23 ((v.cells.toList.drop i).take 1) = some y := by
    intro i h2
    have := hi i h2
    rw [cofLsas14, Nat.mul_one] at this
    have hl : i < xs.length := by omega
    exact ⟨xs[i], by rw [this, List.getElem?_eq_getElem hl]⟩
  rw [hc2] at hlen
  obtain ⟨c0, c1, hcs⟩ : ∃ c0 c1, v.cells.toList = [c0, c1] := by
    match hc : v.cells.toList, hlen with
    | [c0, c1], _ => exact ⟨c0, c1, rfl⟩
  obtain ⟨y0, t0⟩ := hxs 0 (by omega)
  obtain ⟨y1, t1⟩ := hxs 1 (by omega)
  rw [hcs] at t0 t1
  simp at t0 t1
  obtain ⟨A1, k1, R1, he1, hr1, hm1, hok1⟩ := open_rows (C := 9) Lsa.cells (Lsa.ok w w.heap.size) (by decide) Try.underlying23 cofLsa (fun _ _ _ h => dec_lsa h) t0
  obtain ⟨A2, k2, R2, he2, hr2, hm2, hok2⟩ := open_rows (C := 9) Lsa.cells (Lsa.ok w w.heap.size) (by decide) Try.underlying23 cofLsa (fun _ _ _ h => dec_lsa h) t1
  simp at he1 he2
  refine ⟨A1, A2, k1, k2, R1, R2, ?_, ⟨hr1, hok1⟩, ⟨hr2, hok2⟩, hm1, hm2⟩
  have hcells : v.cells = #[.slice A1 R1.length k1, .slice A2 R2.length k2] := by
    apply Array.toList_inj.1; rw [hcs, he1, he2]
  have hsz := hv
  simp only [Value.okWide, Try.underlying39] at hsz
  obtain ⟨cs, rfl, _⟩ := hsz
  exact congrArg Value.agg hcells
end

end Go.Proofs.Ytfpjkeddcagfcaa
