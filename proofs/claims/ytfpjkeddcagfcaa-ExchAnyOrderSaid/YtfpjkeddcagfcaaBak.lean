/-
  More than a statement takes: each law's own word.
-/
import Derived.Test.YtfpjkeddcagfcaaBaa
import Derived.Test.YtfpjkeddcagfcaaBab
import Derived.Test.YtfpjkeddcagfcaaBaf
namespace Go.Proofs.Ytfpjkeddcagfcaa
open Go.RowKit

def bigX (x : Lsa) : Bool := decide (20 < x.links.length) || decide (20 < x.members.length)
def manyB (k : Nat) (l : List Lsa) : Bool := l.any bigX || decide (k < l.length)
theorem manyB_lens {k : Nat} {l : List Lsa} (h : manyB k l = false) : l.length ≤ k ∧ ∀ x ∈ l, x.links.length ≤ 20 ∧ x.members.length ≤ 20 := by
  unfold manyB at h
  rw [Bool.or_eq_false_iff] at h
  refine ⟨by have := of_decide_eq_false h.2; omega, fun x hx => ?_⟩
  have := List.any_eq_false.1 h.1 x hx
  unfold bigX at this
  simp at this
  omega
theorem row_lsa9 {w : World} {B : Nat} {A : Option Addr} {l : List Lsa} (h : RowsAt 9 Lsa.cells w B A l) (k : Nat) (hk : k < l.length) :
    ∃ b o, A = some ⟨b, o, none⟩ ∧ b < B ∧ w.cell? ⟨b, o + k * 9, none⟩ = some (.int .i64 l[k].head.age) ∧ w.cell? ⟨b, o + k * 9 + 1, none⟩ = some (.int .i64 l[k].head.kind) ∧ w.cell? ⟨b, o + k * 9 + 2, none⟩ = some (.int .i64 l[k].head.id) ∧ w.cell? ⟨b, o + k * 9 + 3, none⟩ = some (.int .i64 l[k].head.adv) ∧ w.cell? ⟨b, o + k * 9 + 4, none⟩ = some (.int .i64 l[k].head.seq) ∧ w.cell? ⟨b, o + k * 9 + 5, none⟩ = some (.int .i64 l[k].head.sum) ∧ w.cell? ⟨b, o + k * 9 + 6, none⟩ = some (.int .i64 l[k].head.long) ∧
      w.cell? ⟨b, o + k * 9 + 7, none⟩ = some (.slice l[k].ka l[k].links.length l[k].kcap) ∧ w.cell? ⟨b, o + k * 9 + 8, none⟩ = some (.slice l[k].ma l[k].members.length l[k].mcap) := by
  obtain ⟨b, o, e, hb, hc⟩ := h (by omega)
  exact ⟨b, o, e, hb, by simpa using hc k hk 0 _ (by omega) rfl, hc k hk 1 _ (by omega) rfl, hc k hk 2 _ (by omega) rfl, hc k hk 3 _ (by omega) rfl, hc k hk 4 _ (by omega) rfl, hc k hk 5 _ (by omega) rfl, hc k hk 6 _ (by omega) rfl, hc k hk 7 _ (by omega) rfl, hc k hk 8 _ (by omega) rfl⟩

end Go.Proofs.Ytfpjkeddcagfcaa

/-
  Layer 14: more descriptions than a statement takes?
-/
namespace Go.Proofs.Ytfpjkeddcagfcaa
open Go.RowKit Go.Sort

set_option maxHeartbeats 2000000 in
set_option maxRecDepth 100000 in
theorem many14 (A : Option Addr) (c : Nat) (l : List Lsa) (w : World) (B : Nat) (h : RowsAt 9 Lsa.cells w B A l) (hB : B ≤ w.heap.size) (hm : l.length ≤ maxLen) (n : Nat) (hn : n = l.length) {t : Bool} (ht : manyB 60 l = t) :
    Calls Try.prog 7 #[.slice A n c] w fun r w' => r = .returned (.bool t) ∧ Below w.heap.size w w' := by
  subst hn
  unfold maxLen at hm
  have H := Lib.hid (h.more hB)
  have Ht := Lib.hid ht
  clear h hB ht
  go_enter Try.func7, Try.ntmps7
  go_wp2
  go_loopw [7] (fun i wr => ∃ k : Nat, i = .int .i64 k ∧ k ≤ l.length ∧ (l.take k).any bigX = false ∧ Below w.heap.size w wr) (fun i _ => l.length - (intOf i).toNat)
  case atStart => exact ⟨0, rfl, Nat.zero_le _, rfl, Below.refl _ _⟩
  case round =>
    obtain ⟨k, rfl, hk, hany, hb⟩ := hrel
    by_cases hlt : k < l.length
    · obtain ⟨g, o, rfl, -, x0, x1, x2, x3, x4, x5, x6, x7, x8⟩ := row_lsa9 (H.out.below hb) k hlt
      have hkl : (k : Int) < (l.length : Int) := by omega
      have hsucc := List.take_succ_eq_append_getElem hlt
      have hmem := List.getElem_mem hlt
      obtain ⟨x, hx⟩ : ∃ x, l[k] = x := ⟨_, rfl⟩
      rw [hx] at x0 x1 x2 x3 x4 x5 x6 x7 x8 hsucc hmem
      obtain ⟨⟨y1, y2, y3, y4, y5, y6, y7⟩, ka, kc, ls, ma, mc, ms⟩ := x
      simp only at x0 x1 x2 x3 x4 x5 x6 x7 x8
      obtain ⟨nl, hnl⟩ : ∃ nl, ls.length = nl := ⟨_, rfl⟩
      obtain ⟨nm, hnm⟩ : ∃ nm, ms.length = nm := ⟨_, rfl⟩
      rw [hnl] at x7
      rw [hnm] at x8
      have Hb := Lib.hid hb
      have Hal := Lib.hid (fun o => hb.alloc hb.size o)
      by_cases h1 : bigX ⟨⟨y1, y2, y3, y4, y5, y6, y7⟩, ka, kc, ls, ma, mc, ms⟩ = true
      · have ht2 : t = true := by
          rw [← Ht.out]
          unfold manyB
          rw [List.any_eq_true.2 ⟨_, hmem, h1⟩]
          rfl
        have h2 : (20 : Int) < (nl : Int) ∨ (¬ (20 : Int) < (nl : Int) ∧ (20 : Int) < (nm : Int)) := by
          unfold bigX at h1
          simp only [Bool.or_eq_true, decide_eq_true_eq, hnl, hnm] at h1
          omega
        subst ht2
        clear h1 hb hany hx hsucc hmem hnl hnm
        rcases h2 with h2 | ⟨h2, h3⟩
        all_goals
          go_wp2
          go_ret
          exact ⟨rfl, Hal.out _⟩
      · have h2 : ¬ (20 : Int) < (nl : Int) ∧ ¬ (20 : Int) < (nm : Int) := by
          unfold bigX at h1
          simp only [Bool.or_eq_true, decide_eq_true_eq, hnl, hnm] at h1
          omega
        have Hany := Lib.hid (show (l.take (k + 1)).any bigX = false by rw [hsucc, List.any_append, hany]; simpa using h1)
        obtain ⟨h2, h3⟩ := h2
        clear h1 hb hany hx hsucc hmem hnl hnm
        go_wp2
        go_roundw
        case measure => simp [intOf]; omega
        case rel => exact ⟨k + 1, by go_num, hlt, Hany.out, Hal.out _⟩
    · have hkk : k = l.length := by omega
      subst hkk
      rw [List.take_length] at hany
      have ht2 : decide ((60 : Int) < (l.length : Int)) = t := by
        rw [← Ht.out]
        unfold manyB
        rw [hany, Bool.false_or, Bool.eq_iff_iff, decide_eq_true_eq, decide_eq_true_eq]
        omega
      have Ht2 := Lib.hid ht2
      have Hb := Lib.hid hb
      clear hb hany ht2
      go_wp2
      go_ret
      refine ⟨?_, Hb.out⟩
      rw [← Ht2.out]
      rfl

end Go.Proofs.Ytfpjkeddcagfcaa

/-
  Layer 14: two sides of one number.
-/
namespace Go.Proofs.Ytfpjkeddcagfcaa
open Go.RowKit Go.Sort

theorem blk4f14 {w : World} {g : Nat} {t : TypeId} {a b c d : Value} (h : Blk w g t #[a, b, c, d]) : w.cell? ⟨g, 0, none⟩ = some a ∧ w.cell? ⟨g, 1, none⟩ = some b ∧ w.cell? ⟨g, 2, none⟩ = some c ∧ w.cell? ⟨g, 3, none⟩ = some d := ⟨h.cell 0, h.cell 1, h.cell 2, h.cell 3⟩
theorem blk2f14 {w : World} {g : Nat} {t : TypeId} {a b : Value} (h : Blk w g t #[a, b]) : w.cell? ⟨g, 0, none⟩ = some a ∧ w.cell? ⟨g, 1, none⟩ = some b := ⟨h.cell 0, h.cell 1⟩
set_option maxHeartbeats 16000000 in
set_option maxRecDepth 100000 in
theorem two_self (n0 n1 n2 : Int) (A : Option Addr) (m c : Nat) (w : World) :
    Calls Try.prog 13 #[.agg #[.int .i64 n0, .int .i64 n0, .int .i64 n1, .int .i64 n2], .agg #[.slice A m c, .slice A m c]] w fun r w' => ∃ p1 p2 s1 s2, r = .returned (.tuple #[.pointer (some ⟨s1, 0, none⟩), .pointer (some ⟨s2, 0, none⟩)]) ∧ Blk w' p1 65 (exA n0 n0 (n1 % 4294967296) false false false false false false 0 true true true (n1 % 4294967296) (.slice none 0 0) (.pointer none)) ∧ Blk w' p2 65 (exA n0 n0 (n2 % 4294967296) false false false false false false 0 true true true (n2 % 4294967296) (.slice none 0 0) (.pointer none)) ∧
      Blk w' s1 48 #[.pointer (some ⟨p1, 0, none⟩), .slice A m c, .slice none 0 0] ∧ Blk w' s2 48 #[.pointer (some ⟨p2, 0, none⟩), .slice A m c, .slice none 0 0] ∧ Below w.heap.size w w' := by
  obtain ⟨w2, hw2⟩ : ∃ w2, (w.alloc (.cells #[.int .i64 n0, .int .i64 n0, .int .i64 n1, .int .i64 n2] 38)).alloc (.cells #[.slice A m c, .slice A m c] 39) = w2 := ⟨_, rfl⟩
  have ha : Blk w2 w.heap.size 38 #[.int .i64 n0, .int .i64 n0, .int .i64 n1, .int .i64 n2] := by rw [← hw2]; exact (Blk.new _ _ _).alloc _
  have hbk : Blk w2 (w.heap.size + 1) 39 #[.slice A m c, .slice A m c] := by rw [← hw2]; exact Blk.size (by simp)
  have hb2 : Below w.heap.size w w2 := by rw [← hw2]; exact (below_new _ _).alloc (by simp) _
  have HA := Lib.hid (fun W (hW : Below w2.heap.size w2 W) => blk4f14 (ha.below hW ha.lt))
  have HB := Lib.hid (fun W (hW : Below w2.heap.size w2 W) => blk2f14 (hbk.below hW hbk.lt))
  have Hb2 := Lib.hid hb2
  clear ha hbk hb2
  go_enter Try.func13, Try.ntmps13
  go_wp2_with fail
  refine wp_region_F (F := fun W => Below w2.heap.size w2 W) (n := 24) (m := 24) (s := #[false, false, false, false, false, false, false, false, false, false, false, false, false, false, false, false, false, false, false, false, false, false, false, false]) (by kernel_rfl) (by kernel_rfl) (by kernel_rfl) ?_
  intro wd hwd
  have hF : Below w2.heap.size w2 wd := by rw [hwd.out]; exact (Below.refl _ _).drew
  clear hwd
  refine G_take (i := 0) (d := some 6) (by decide) (s' := #[true, false, false, false, false, false, false, false, false, false, false, false, false, false, false, false, false, false, false, false, false, false, false, false]) (by kernel_rfl) rfl rfl (by kernel_rfl) (by kernel_rfl) (by kernel_rfl) (fun _ _ _ h => h) (Or.inl ⟨by kernel_rfl, fun W hW => by obtain ⟨a0, a1, a2, a3⟩ := HA.out W hW; obtain ⟨b0, b1⟩ := HB.out W hW; go_simp; try with_reducible rfl⟩) hF ?_
  go_frame
  refine G_take (i := 2) (d := some 8) (by decide) (s' := #[true, false, true, false, false, false, false, false, false, false, false, false, false, false, false, false, false, false, false, false, false, false, false, false]) (by kernel_rfl) rfl rfl (by kernel_rfl) (by kernel_rfl) (by kernel_rfl) (fun _ _ _ h => h) (Or.inl ⟨by kernel_rfl, fun W hW => by obtain ⟨a0, a1, a2, a3⟩ := HA.out W hW; obtain ⟨b0, b1⟩ := HB.out W hW; go_simp; try with_reducible rfl⟩) hF ?_
  go_frame
  refine G_take (i := 4) (d := some 10) (by decide) (s' := #[true, false, true, false, true, false, false, false, false, false, false, false, false, false, false, false, false, false, false, false, false, false, false, false]) (by kernel_rfl) rfl rfl (by kernel_rfl) (by kernel_rfl) (by kernel_rfl) (fun _ _ _ h => h) (Or.inl ⟨by kernel_rfl, fun W hW => by obtain ⟨a0, a1, a2, a3⟩ := HA.out W hW; obtain ⟨b0, b1⟩ := HB.out W hW; go_simp; try with_reducible rfl⟩) hF ?_
  go_frame
  refine G_take (i := 7) (d := some 13) (by decide) (s' := #[true, false, true, false, true, false, false, true, false, false, false, false, false, false, false, false, false, false, false, false, false, false, false, false]) (by kernel_rfl) rfl rfl (by kernel_rfl) (by kernel_rfl) (by kernel_rfl) (fun _ _ _ h => h) (Or.inl ⟨by kernel_rfl, fun W hW => by obtain ⟨a0, a1, a2, a3⟩ := HA.out W hW; obtain ⟨b0, b1⟩ := HB.out W hW; go_simp; try with_reducible rfl⟩) hF ?_
  go_frame
  refine G_take (i := 11) (d := some 17) (by decide) (s' := #[true, false, true, false, true, false, false, true, false, false, false, true, false, false, false, false, false, false, false, false, false, false, false, false]) (by kernel_rfl) rfl rfl (by kernel_rfl) (by kernel_rfl) (by kernel_rfl) (fun _ _ _ h => h) (Or.inl ⟨by kernel_rfl, fun W hW => by obtain ⟨a0, a1, a2, a3⟩ := HA.out W hW; obtain ⟨b0, b1⟩ := HB.out W hW; go_simp; try with_reducible rfl⟩) hF ?_
  go_frame
  refine G_take (i := 13) (d := some 19) (by decide) (s' := #[true, false, true, false, true, false, false, true, false, false, false, true, false, true, false, false, false, false, false, false, false, false, false, false]) (by kernel_rfl) rfl rfl (by kernel_rfl) (by kernel_rfl) (by kernel_rfl) (fun _ _ _ h => h) (Or.inl ⟨by kernel_rfl, fun W hW => by obtain ⟨a0, a1, a2, a3⟩ := HA.out W hW; obtain ⟨b0, b1⟩ := HB.out W hW; go_simp; try with_reducible rfl⟩) hF ?_
  go_frame
  refine G_take (i := 15) (d := some 21) (by decide) (s' := #[true, false, true, false, true, false, false, true, false, false, false, true, false, true, false, true, false, false, false, false, false, false, false, false]) (by kernel_rfl) rfl rfl (by kernel_rfl) (by kernel_rfl) (by kernel_rfl) (fun _ _ _ h => h) (Or.inl ⟨by kernel_rfl, fun W hW => by obtain ⟨a0, a1, a2, a3⟩ := HA.out W hW; obtain ⟨b0, b1⟩ := HB.out W hW; go_simp; try with_reducible rfl⟩) hF ?_
  go_frame
  refine G_take (i := 18) (d := some 24) (by decide) (s' := #[true, false, true, false, true, false, false, true, false, false, false, true, false, true, false, true, false, false, true, false, false, false, false, false]) (by kernel_rfl) rfl rfl (by kernel_rfl) (by kernel_rfl) (by kernel_rfl) (fun _ _ _ h => h) (Or.inl ⟨by kernel_rfl, fun W hW => by obtain ⟨a0, a1, a2, a3⟩ := HA.out W hW; obtain ⟨b0, b1⟩ := HB.out W hW; go_simp; try with_reducible rfl⟩) hF ?_
  go_frame
  refine G_take (i := 1) (d := some 7) (by decide) (s' := #[true, true, true, false, true, false, false, true, false, false, false, true, false, true, false, true, false, false, true, false, false, false, false, false]) (by kernel_rfl) rfl rfl (by kernel_rfl) (by kernel_rfl) (by kernel_rfl) (fun _ _ _ h => h) (Or.inl ⟨by kernel_rfl, fun W hW => by obtain ⟨a0, a1, a2, a3⟩ := HA.out W hW; obtain ⟨b0, b1⟩ := HB.out W hW; go_simp; try with_reducible rfl⟩) hF ?_
  go_frame
  refine G_take (i := 3) (d := some 9) (by decide) (s' := #[true, true, true, true, true, false, false, true, false, false, false, true, false, true, false, true, false, false, true, false, false, false, false, false]) (by kernel_rfl) rfl rfl (by kernel_rfl) (by kernel_rfl) (by kernel_rfl) (fun _ _ _ h => h) (Or.inl ⟨by kernel_rfl, fun W hW => by obtain ⟨a0, a1, a2, a3⟩ := HA.out W hW; obtain ⟨b0, b1⟩ := HB.out W hW; go_simp; try with_reducible rfl⟩) hF ?_
  go_frame
  refine G_take (i := 5) (d := some 11) (by decide) (s' := #[true, true, true, true, true, true, false, true, false, false, false, true, false, true, false, true, false, false, true, false, false, false, false, false]) (by kernel_rfl) rfl rfl (by kernel_rfl) (by kernel_rfl) (by kernel_rfl) (fun _ _ _ h => h) (Or.inl ⟨by kernel_rfl, fun W hW => by obtain ⟨a0, a1, a2, a3⟩ := HA.out W hW; obtain ⟨b0, b1⟩ := HB.out W hW; go_simp; try with_reducible rfl⟩) hF ?_
  go_frame
  refine G_take (i := 8) (d := some 14) (by decide) (s' := #[true, true, true, true, true, true, false, true, true, false, false, true, false, true, false, true, false, false, true, false, false, false, false, false]) (by kernel_rfl) rfl rfl (by kernel_rfl) (by kernel_rfl) (by kernel_rfl) (fun _ _ _ h => h) (Or.inl ⟨by kernel_rfl, fun W hW => by obtain ⟨a0, a1, a2, a3⟩ := HA.out W hW; obtain ⟨b0, b1⟩ := HB.out W hW; go_simp; try with_reducible rfl⟩) hF ?_
  go_frame
  refine G_take (i := 12) (d := some 18) (by decide) (s' := #[true, true, true, true, true, true, false, true, true, false, false, true, true, true, false, true, false, false, true, false, false, false, false, false]) (by kernel_rfl) rfl rfl (by kernel_rfl) (by kernel_rfl) (by kernel_rfl) (fun _ _ _ h => h) (Or.inl ⟨by kernel_rfl, fun W hW => by obtain ⟨a0, a1, a2, a3⟩ := HA.out W hW; obtain ⟨b0, b1⟩ := HB.out W hW; go_simp; try with_reducible rfl⟩) hF ?_
  go_frame
  refine G_take (i := 14) (d := some 20) (by decide) (s' := #[true, true, true, true, true, true, false, true, true, false, false, true, true, true, true, true, false, false, true, false, false, false, false, false]) (by kernel_rfl) rfl rfl (by kernel_rfl) (by kernel_rfl) (by kernel_rfl) (fun _ _ _ h => h) (Or.inl ⟨by kernel_rfl, fun W hW => by obtain ⟨a0, a1, a2, a3⟩ := HA.out W hW; obtain ⟨b0, b1⟩ := HB.out W hW; go_simp; try with_reducible rfl⟩) hF ?_
  go_frame
  refine G_take (i := 16) (d := some 22) (by decide) (s' := #[true, true, true, true, true, true, false, true, true, false, false, true, true, true, true, true, true, false, true, false, false, false, false, false]) (by kernel_rfl) rfl rfl (by kernel_rfl) (by kernel_rfl) (by kernel_rfl) (fun _ _ _ h => h) (Or.inl ⟨by kernel_rfl, fun W hW => by obtain ⟨a0, a1, a2, a3⟩ := HA.out W hW; obtain ⟨b0, b1⟩ := HB.out W hW; go_simp; try with_reducible rfl⟩) hF ?_
  go_frame
  refine G_take (i := 19) (d := some 25) (by decide) (s' := #[true, true, true, true, true, true, false, true, true, false, false, true, true, true, true, true, true, false, true, true, false, false, false, false]) (by kernel_rfl) rfl rfl (by kernel_rfl) (by kernel_rfl) (by kernel_rfl) (fun _ _ _ h => h) (Or.inl ⟨by kernel_rfl, fun W hW => by obtain ⟨a0, a1, a2, a3⟩ := HA.out W hW; obtain ⟨b0, b1⟩ := HB.out W hW; go_simp; try with_reducible rfl⟩) hF ?_
  go_frame
  refine F_one (i := 6) (s' := #[true, true, true, true, true, true, true, true, true, false, false, true, true, true, true, true, true, false, true, true, false, false, false, false]) (by kernel_rfl) (by kernel_rfl) ?_
  refine (wpOp_enterL (i := 6) (d := some 12) (f := 8) (args := #[.int .i64 n0, .int .i64 n0, .int .i64 n1]) rfl rfl (by kernel_rfl) (by go_simp) ((exNew n0 n0 n1 wd).mono ?_))
  rintro r v1 ⟨rfl, hv1⟩
  have hb : Below wd.heap.size wd v1 := by rw [hv1]; exact below_new _ _
  have kp1 : Blk v1 wd.heap.size 65 (exA n0 n0 (n1 % 4294967296) false false false false false false 0 true true true (n1 % 4294967296) (.slice none 0 0) (.pointer none)) := by rw [hv1]; exact Blk.new _ _ _
  clear hv1
  obtain ⟨p1, hp1⟩ : ∃ p1, wd.heap.size = p1 := ⟨_, rfl⟩
  rw [hp1] at kp1 ⊢
  have hF := below_trans hF hF.size hb
  clear hb
  refine ⟨_, rfl, fun _ => hF, ?_⟩
  go_frame
  refine G_take (i := 9) (d := some 15) (by decide) (s' := #[true, true, true, true, true, true, true, true, true, true, false, true, true, true, true, true, true, false, true, true, false, false, false, false]) (by kernel_rfl) rfl rfl (by kernel_rfl) (by kernel_rfl) (by kernel_rfl) (fun _ _ _ h => h) (Or.inl ⟨by kernel_rfl, fun W hW => by obtain ⟨a0, a1, a2, a3⟩ := HA.out W hW; obtain ⟨b0, b1⟩ := HB.out W hW; go_simp; try with_reducible rfl⟩) hF ?_
  go_frame
  refine F_two (i := 10) (si := #[true, true, true, true, true, true, true, true, true, true, true, true, true, true, true, true, true, false, true, true, false, false, false, false]) (j := 17) (sj := #[true, true, true, true, true, true, true, true, true, true, false, true, true, true, true, true, true, true, true, true, false, false, false, false]) (by kernel_rfl) (by kernel_rfl) (by kernel_rfl) ?_ ?_
  · skip
    obtain ⟨va, hva⟩ : ∃ v, v1.alloc (.cells #[.pointer (some ⟨p1, 0, none⟩), .slice A m c, .slice none 0 0] 48) = v := ⟨_, rfl⟩
    have hb := below_new v1 (.cells #[.pointer (some ⟨p1, 0, none⟩), .slice A m c, .slice none 0 0] 48)
    have ks1 := Blk.new v1 48 #[.pointer (some ⟨p1, 0, none⟩), .slice A m c, .slice none 0 0]
    rw [hva] at hb ks1
    obtain ⟨s1, hs1⟩ : ∃ s, v1.heap.size = s := ⟨_, rfl⟩
    rw [hs1] at ks1
    have kp1 := kp1.below hb kp1.lt
    have hF := below_trans hF hF.size hb
    refine wpOp_valueL (i := 10) (d := some 16) (w' := va) (v := .pointer (some ⟨s1, 0, none⟩)) rfl rfl (by kernel_rfl) (by go_simp) ⟨fun _ => hF, ?_⟩
    go_frame
    clear hb hva hs1
    refine F_one (i := 17) (s' := #[true, true, true, true, true, true, true, true, true, true, true, true, true, true, true, true, true, true, true, true, false, false, false, false]) (by kernel_rfl) (by kernel_rfl) ?_
    refine (wpOp_enterL (i := 17) (d := some 23) (f := 8) (args := #[.int .i64 n0, .int .i64 n0, .int .i64 n2]) rfl rfl (by kernel_rfl) (by go_simp) ((exNew n0 n0 n2 va).mono ?_))
    rintro r v2va ⟨rfl, hv2va⟩
    have hb : Below va.heap.size va v2va := by rw [hv2va]; exact below_new _ _
    have kp2 : Blk v2va va.heap.size 65 (exA n0 n0 (n2 % 4294967296) false false false false false false 0 true true true (n2 % 4294967296) (.slice none 0 0) (.pointer none)) := by rw [hv2va]; exact Blk.new _ _ _
    clear hv2va
    obtain ⟨p2, hp2⟩ : ∃ p2, va.heap.size = p2 := ⟨_, rfl⟩
    rw [hp2] at kp2 ⊢
    have kp1 := kp1.below hb kp1.lt
    have ks1 := ks1.below hb ks1.lt
    have hF := below_trans hF hF.size hb
    clear hb
    refine ⟨_, rfl, fun _ => hF, ?_⟩
    go_frame
    refine G_take (i := 20) (d := some 26) (by decide) (s' := #[true, true, true, true, true, true, true, true, true, true, true, true, true, true, true, true, true, true, true, true, true, false, false, false]) (by kernel_rfl) rfl rfl (by kernel_rfl) (by kernel_rfl) (by kernel_rfl) (fun _ _ _ h => h) (Or.inl ⟨by kernel_rfl, fun W hW => by obtain ⟨a0, a1, a2, a3⟩ := HA.out W hW; obtain ⟨b0, b1⟩ := HB.out W hW; go_simp; try with_reducible rfl⟩) hF ?_
    go_frame
    refine G_take (i := 22) (d := some 4) (by decide) (s' := #[true, true, true, true, true, true, true, true, true, true, true, true, true, true, true, true, true, true, true, true, true, false, true, false]) (by kernel_rfl) rfl rfl (by kernel_rfl) (by kernel_rfl) (by kernel_rfl) (fun _ _ _ h => h) (Or.inl ⟨by kernel_rfl, fun W hW => by obtain ⟨a0, a1, a2, a3⟩ := HA.out W hW; obtain ⟨b0, b1⟩ := HB.out W hW; go_simp; try with_reducible rfl⟩) hF ?_
    go_frame
    refine F_one (i := 21) (s' := #[true, true, true, true, true, true, true, true, true, true, true, true, true, true, true, true, true, true, true, true, true, true, true, false]) (by kernel_rfl) (by kernel_rfl) ?_
    obtain ⟨vb, hvb⟩ : ∃ v, v2va.alloc (.cells #[.pointer (some ⟨p2, 0, none⟩), .slice A m c, .slice none 0 0] 48) = v := ⟨_, rfl⟩
    have hb := below_new v2va (.cells #[.pointer (some ⟨p2, 0, none⟩), .slice A m c, .slice none 0 0] 48)
    have ks2 := Blk.new v2va 48 #[.pointer (some ⟨p2, 0, none⟩), .slice A m c, .slice none 0 0]
    rw [hvb] at hb ks2
    obtain ⟨s2, hs2⟩ : ∃ s, v2va.heap.size = s := ⟨_, rfl⟩
    rw [hs2] at ks2
    have kp1 := kp1.below hb kp1.lt
    have kp2 := kp2.below hb kp2.lt
    have ks1 := ks1.below hb ks1.lt
    have hF := below_trans hF hF.size hb
    refine wpOp_valueL (i := 21) (d := some 27) (w' := vb) (v := .pointer (some ⟨s2, 0, none⟩)) rfl rfl (by kernel_rfl) (by go_simp) ⟨fun _ => hF, ?_⟩
    go_frame
    clear hb hvb hs2
    refine G_take (i := 23) (d := some 5) (by decide) (s' := #[true, true, true, true, true, true, true, true, true, true, true, true, true, true, true, true, true, true, true, true, true, true, true, true]) (by kernel_rfl) rfl rfl (by kernel_rfl) (by kernel_rfl) (by kernel_rfl) (fun _ _ _ h => h) (Or.inl ⟨by kernel_rfl, fun W hW => by obtain ⟨a0, a1, a2, a3⟩ := HA.out W hW; obtain ⟨b0, b1⟩ := HB.out W hW; go_simp; try with_reducible rfl⟩) hF ?_
    go_frame
    refine F_done (by kernel_rfl) ?_ _
    have HK := Lib.hid (And.intro kp1 (And.intro kp2 (And.intro ks1 (And.intro ks2 hF))))
    clear kp1 kp2 ks1 ks2 hF
    go_wp2
    go_ret2
    exact ⟨p1, p2, s1, s2, rfl, HK.out.1, HK.out.2.1, HK.out.2.2.1, HK.out.2.2.2.1, below_trans Hb2.out Hb2.out.size HK.out.2.2.2.2⟩
  · skip
    refine (wpOp_enterL (i := 17) (d := some 23) (f := 8) (args := #[.int .i64 n0, .int .i64 n0, .int .i64 n2]) rfl rfl (by kernel_rfl) (by go_simp) ((exNew n0 n0 n2 v1).mono ?_))
    rintro r v2v1 ⟨rfl, hv2v1⟩
    have hb : Below v1.heap.size v1 v2v1 := by rw [hv2v1]; exact below_new _ _
    have kp2 : Blk v2v1 v1.heap.size 65 (exA n0 n0 (n2 % 4294967296) false false false false false false 0 true true true (n2 % 4294967296) (.slice none 0 0) (.pointer none)) := by rw [hv2v1]; exact Blk.new _ _ _
    clear hv2v1
    obtain ⟨p2, hp2⟩ : ∃ p2, v1.heap.size = p2 := ⟨_, rfl⟩
    rw [hp2] at kp2 ⊢
    have kp1 := kp1.below hb kp1.lt
    have hF := below_trans hF hF.size hb
    clear hb
    refine ⟨_, rfl, fun _ => hF, ?_⟩
    go_frame
    refine G_take (i := 20) (d := some 26) (by decide) (s' := #[true, true, true, true, true, true, true, true, true, true, false, true, true, true, true, true, true, true, true, true, true, false, false, false]) (by kernel_rfl) rfl rfl (by kernel_rfl) (by kernel_rfl) (by kernel_rfl) (fun _ _ _ h => h) (Or.inl ⟨by kernel_rfl, fun W hW => by obtain ⟨a0, a1, a2, a3⟩ := HA.out W hW; obtain ⟨b0, b1⟩ := HB.out W hW; go_simp; try with_reducible rfl⟩) hF ?_
    go_frame
    refine F_two (i := 10) (si := #[true, true, true, true, true, true, true, true, true, true, true, true, true, true, true, true, true, true, true, true, true, false, false, false]) (j := 21) (sj := #[true, true, true, true, true, true, true, true, true, true, false, true, true, true, true, true, true, true, true, true, true, true, false, false]) (by kernel_rfl) (by kernel_rfl) (by kernel_rfl) ?_ ?_
    · skip
      obtain ⟨vc, hvc⟩ : ∃ v, v2v1.alloc (.cells #[.pointer (some ⟨p1, 0, none⟩), .slice A m c, .slice none 0 0] 48) = v := ⟨_, rfl⟩
      have hb := below_new v2v1 (.cells #[.pointer (some ⟨p1, 0, none⟩), .slice A m c, .slice none 0 0] 48)
      have ks1 := Blk.new v2v1 48 #[.pointer (some ⟨p1, 0, none⟩), .slice A m c, .slice none 0 0]
      rw [hvc] at hb ks1
      obtain ⟨s1, hs1⟩ : ∃ s, v2v1.heap.size = s := ⟨_, rfl⟩
      rw [hs1] at ks1
      have kp1 := kp1.below hb kp1.lt
      have kp2 := kp2.below hb kp2.lt
      have hF := below_trans hF hF.size hb
      refine wpOp_valueL (i := 10) (d := some 16) (w' := vc) (v := .pointer (some ⟨s1, 0, none⟩)) rfl rfl (by kernel_rfl) (by go_simp) ⟨fun _ => hF, ?_⟩
      go_frame
      clear hb hvc hs1
      refine G_take (i := 22) (d := some 4) (by decide) (s' := #[true, true, true, true, true, true, true, true, true, true, true, true, true, true, true, true, true, true, true, true, true, false, true, false]) (by kernel_rfl) rfl rfl (by kernel_rfl) (by kernel_rfl) (by kernel_rfl) (fun _ _ _ h => h) (Or.inl ⟨by kernel_rfl, fun W hW => by obtain ⟨a0, a1, a2, a3⟩ := HA.out W hW; obtain ⟨b0, b1⟩ := HB.out W hW; go_simp; try with_reducible rfl⟩) hF ?_
      go_frame
      refine F_one (i := 21) (s' := #[true, true, true, true, true, true, true, true, true, true, true, true, true, true, true, true, true, true, true, true, true, true, true, false]) (by kernel_rfl) (by kernel_rfl) ?_
      obtain ⟨vd, hvd⟩ : ∃ v, vc.alloc (.cells #[.pointer (some ⟨p2, 0, none⟩), .slice A m c, .slice none 0 0] 48) = v := ⟨_, rfl⟩
      have hb := below_new vc (.cells #[.pointer (some ⟨p2, 0, none⟩), .slice A m c, .slice none 0 0] 48)
      have ks2 := Blk.new vc 48 #[.pointer (some ⟨p2, 0, none⟩), .slice A m c, .slice none 0 0]
      rw [hvd] at hb ks2
      obtain ⟨s2, hs2⟩ : ∃ s, vc.heap.size = s := ⟨_, rfl⟩
      rw [hs2] at ks2
      have kp1 := kp1.below hb kp1.lt
      have kp2 := kp2.below hb kp2.lt
      have ks1 := ks1.below hb ks1.lt
      have hF := below_trans hF hF.size hb
      refine wpOp_valueL (i := 21) (d := some 27) (w' := vd) (v := .pointer (some ⟨s2, 0, none⟩)) rfl rfl (by kernel_rfl) (by go_simp) ⟨fun _ => hF, ?_⟩
      go_frame
      clear hb hvd hs2
      refine G_take (i := 23) (d := some 5) (by decide) (s' := #[true, true, true, true, true, true, true, true, true, true, true, true, true, true, true, true, true, true, true, true, true, true, true, true]) (by kernel_rfl) rfl rfl (by kernel_rfl) (by kernel_rfl) (by kernel_rfl) (fun _ _ _ h => h) (Or.inl ⟨by kernel_rfl, fun W hW => by obtain ⟨a0, a1, a2, a3⟩ := HA.out W hW; obtain ⟨b0, b1⟩ := HB.out W hW; go_simp; try with_reducible rfl⟩) hF ?_
      go_frame
      refine F_done (by kernel_rfl) ?_ _
      have HK := Lib.hid (And.intro kp1 (And.intro kp2 (And.intro ks1 (And.intro ks2 hF))))
      clear kp1 kp2 ks1 ks2 hF
      go_wp2
      go_ret2
      exact ⟨p1, p2, s1, s2, rfl, HK.out.1, HK.out.2.1, HK.out.2.2.1, HK.out.2.2.2.1, below_trans Hb2.out Hb2.out.size HK.out.2.2.2.2⟩
    · skip
      obtain ⟨ve, hve⟩ : ∃ v, v2v1.alloc (.cells #[.pointer (some ⟨p2, 0, none⟩), .slice A m c, .slice none 0 0] 48) = v := ⟨_, rfl⟩
      have hb := below_new v2v1 (.cells #[.pointer (some ⟨p2, 0, none⟩), .slice A m c, .slice none 0 0] 48)
      have ks2 := Blk.new v2v1 48 #[.pointer (some ⟨p2, 0, none⟩), .slice A m c, .slice none 0 0]
      rw [hve] at hb ks2
      obtain ⟨s2, hs2⟩ : ∃ s, v2v1.heap.size = s := ⟨_, rfl⟩
      rw [hs2] at ks2
      have kp1 := kp1.below hb kp1.lt
      have kp2 := kp2.below hb kp2.lt
      have hF := below_trans hF hF.size hb
      refine wpOp_valueL (i := 21) (d := some 27) (w' := ve) (v := .pointer (some ⟨s2, 0, none⟩)) rfl rfl (by kernel_rfl) (by go_simp) ⟨fun _ => hF, ?_⟩
      go_frame
      clear hb hve hs2
      refine F_one (i := 10) (s' := #[true, true, true, true, true, true, true, true, true, true, true, true, true, true, true, true, true, true, true, true, true, true, false, false]) (by kernel_rfl) (by kernel_rfl) ?_
      obtain ⟨vf, hvf⟩ : ∃ v, ve.alloc (.cells #[.pointer (some ⟨p1, 0, none⟩), .slice A m c, .slice none 0 0] 48) = v := ⟨_, rfl⟩
      have hb := below_new ve (.cells #[.pointer (some ⟨p1, 0, none⟩), .slice A m c, .slice none 0 0] 48)
      have ks1 := Blk.new ve 48 #[.pointer (some ⟨p1, 0, none⟩), .slice A m c, .slice none 0 0]
      rw [hvf] at hb ks1
      obtain ⟨s1, hs1⟩ : ∃ s, ve.heap.size = s := ⟨_, rfl⟩
      rw [hs1] at ks1
      have kp1 := kp1.below hb kp1.lt
      have kp2 := kp2.below hb kp2.lt
      have ks2 := ks2.below hb ks2.lt
      have hF := below_trans hF hF.size hb
      refine wpOp_valueL (i := 10) (d := some 16) (w' := vf) (v := .pointer (some ⟨s1, 0, none⟩)) rfl rfl (by kernel_rfl) (by go_simp) ⟨fun _ => hF, ?_⟩
      go_frame
      clear hb hvf hs1
      refine G_take (i := 22) (d := some 4) (by decide) (s' := #[true, true, true, true, true, true, true, true, true, true, true, true, true, true, true, true, true, true, true, true, true, true, true, false]) (by kernel_rfl) rfl rfl (by kernel_rfl) (by kernel_rfl) (by kernel_rfl) (fun _ _ _ h => h) (Or.inl ⟨by kernel_rfl, fun W hW => by obtain ⟨a0, a1, a2, a3⟩ := HA.out W hW; obtain ⟨b0, b1⟩ := HB.out W hW; go_simp; try with_reducible rfl⟩) hF ?_
      go_frame
      refine G_take (i := 23) (d := some 5) (by decide) (s' := #[true, true, true, true, true, true, true, true, true, true, true, true, true, true, true, true, true, true, true, true, true, true, true, true]) (by kernel_rfl) rfl rfl (by kernel_rfl) (by kernel_rfl) (by kernel_rfl) (fun _ _ _ h => h) (Or.inl ⟨by kernel_rfl, fun W hW => by obtain ⟨a0, a1, a2, a3⟩ := HA.out W hW; obtain ⟨b0, b1⟩ := HB.out W hW; go_simp; try with_reducible rfl⟩) hF ?_
      go_frame
      refine F_done (by kernel_rfl) ?_ _
      have HK := Lib.hid (And.intro kp1 (And.intro kp2 (And.intro ks1 (And.intro ks2 hF))))
      clear kp1 kp2 ks1 ks2 hF
      go_wp2
      go_ret2
      exact ⟨p1, p2, s1, s2, rfl, HK.out.1, HK.out.2.1, HK.out.2.2.1, HK.out.2.2.2.1, below_trans Hb2.out Hb2.out.size HK.out.2.2.2.2⟩

end Go.Proofs.Ytfpjkeddcagfcaa
