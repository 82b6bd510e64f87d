/-
  The law SummGone: its walk.
-/
import Derived.Test.YtpnbibokddhheaaGreatBai
import Derived.Test.YtpnbibokddhheaaGreatBaj
import Derived.Test.YtpnbibokddhheaaGreatBak
import Derived.Test.YtpnbibokddhheaaGreatBal
namespace Go.Proofs.YtpnbibokddhheaaGreat
open Go.RowKit Go.Sort

theorem SuGoneK (A : Option Addr) (c : Nat) (l : List Lsa) (w : World) (B : Nat) (h : RowsAt 9 Lsa.cells w B A l) (hB : B ≤ w.heap.size) (hm : l.length ≤ 2 ^ 20) (nn : Nat) (hnn : nn = l.length) :
    Calls Tryz.prog 14 #[.slice A nn c] w fun r w' => (∃ v, r = .returned v ∧ OwnKy w' w.heap.size v (goneL (goneOf l))) ∧ Below w.heap.size w w' := by
  refine SuGone_any A c l w B h hB hm nn hnn (goneL (goneOf l)) (fun W A n c N hown hp hs => ?_)
  have hn : n = N.length := (OwnR.rows (C := 3) (cells := K3.cells) (fun _ => rfl) hown).1
  have hl : N.length ≤ 2 ^ 20 := by
    have h1 := hp.length_eq
    have h2 := gone_len l
    omega
  refine (compactK A c n N W w.heap.size hown hn hl).mono ?_
  rintro r W' ⟨v, rfl, ho, hg, -⟩
  rw [goneL_of hp hs] at ho
  exact ⟨⟨v, rfl, ho⟩, hg⟩
theorem headsOf_v (l : List Lsa) : headsOf l = ((l.map vX).filter fun v => decide (v.1.age ≠ 60)).map fun v => v.1 := by
  unfold headsOf
  rw [List.filter_map, List.map_map]
  rfl
theorem goneOf_v (l : List Lsa) : goneOf l = ((l.map vX).filter fun v => decide (v.1.age = 60)).map keyV := by
  unfold goneOf
  rw [List.filter_map, List.map_map]
  rfl
theorem gone_nodup {l : List Lsa} (h : (l.map keyX).Nodup) : (goneOf l).Nodup := by
  unfold goneOf
  exact h.sublist (List.filter_sublist.map keyX)
theorem filter_two {α : Type} (p : α → Bool) : ∀ l : List α, (l.filter p).length + (l.filter fun x => !p x).length = l.length
  | [] => rfl
  | x :: l => by
    have := filter_two p l
    cases h : p x <;> simp [h] <;> omega
/-- what is gone, and what is told, are all -/
theorem gone_told {N N' M : List Lsa} (h : (N.map vX).Perm (M.map vX)) (h' : (N'.map vX).Perm (M.map vX)) (hn : (N.map keyX).Nodup) : (goneL (goneOf N)).length + (stbS (headsOf N')).length = M.length := by
  rw [goneL_new (gone_nodup hn), stbS_len, goneOf_v, headsOf_v, List.length_map, List.length_map, (h.filter _).length_eq, (h'.filter _).length_eq]
  have := filter_two (fun v : VX => decide (v.1.age = 60)) (M.map vX)
  rw [List.length_map] at this
  have e : (M.map vX).filter (fun v => decide (v.1.age ≠ 60)) = (M.map vX).filter (fun v => !decide (v.1.age = 60)) := by
    congr 1
    funext v
    by_cases hv : v.1.age = 60 <;> simp [hv]
  rw [e]
  omega
set_option maxHeartbeats 16000000 in
set_option maxRecDepth 100000 in
theorem summGone_any (A : Option Addr) (cap : Nat) (l : List Lsa) (w : World) (hl : LsasAt w w.heap.size A l) (hm : l.length ≤ maxLen) :
    Calls Tryz.prog 4 #[.slice A l.length cap] w fun r w' => r = .returned (.bool true) ∧ Below w.heap.size w w' := by
  have HL := Lib.hid hl
  obtain ⟨t, ht⟩ : ∃ t, manyB 60 l = t := ⟨_, rfl⟩
  have HMany := Lib.hid (fun W (hW : Below w.heap.size w W) => many13 A cap l W w.heap.size (hl.rows.below hW) hW.size hm l.length rfl ht)
  have Ht := Lib.hid ht
  clear hl hm ht
  go_enter Tryz.func4, Tryz.ntmps4
  go_wp2_with fail
  with_reducible refine Calls.mono (wakes13 _) ?_
  rintro r w1 ⟨rfl, hb1⟩
  have Hb1 := Lib.hid hb1
  clear hb1
  go_wp2_with fail
  with_reducible refine Calls.mono (HMany.out _ Hb1.out) ?_
  rintro r w2 ⟨rfl, hb2⟩
  have Hb2 := Lib.hid (below_trans Hb1.out Hb1.out.size hb2)
  clear hb2
  cases t with
  | true =>
    go_wp2
    go_ret
    exact ⟨rfl, Hb2.out⟩
  | false =>
    obtain ⟨hl60, hlens⟩ := manyB_lens Ht.out
    have HBo := Lib.hid (both13_any A cap l w2 ((HL.out.rows.below Hb2.out).more Hb2.out.size) (fun x hx => ⟨((HL.out.each x hx).links.below Hb2.out).more Hb2.out.size, ((HL.out.each x hx).members.below Hb2.out).more Hb2.out.size⟩) hlens hl60 l.length rfl)
    have HG1 := Lib.hid (fun W (hW : Below w.heap.size w W) => SuGoneK A cap l W w.heap.size (HL.out.rows.below hW) hW.size (by omega) l.length rfl)
    have HG2 := Lib.hid (fun W (hW : Below w.heap.size w W) => refGone_any A cap l W w.heap.size (HL.out.rows.below hW) hW.size (by omega) l.length rfl)
    have hgl : (goneL (goneOf l)).length ≤ 60 := Nat.le_trans (goneL_len _) (Nat.le_trans (gone_len l) hl60)
    obtain ⟨X, hX⟩ : ∃ X, goneL (goneOf l) = X := ⟨_, rfl⟩
    rw [hX] at HG1 HG2 hgl
    obtain ⟨nX, hnX⟩ : ∃ n, X.length = n := ⟨_, rfl⟩
    have HnX := Lib.hid hnX
    have hnX60 : nX ≤ 60 := by omega
    clear hlens hl60 hX hgl hnX
    go_wp2_with fail
    with_reducible refine Calls.mono HBo.out ?_
    rintro r w4 ⟨p, b, q, M, v, L, rfl, hbk, hag⟩
    have HBk := Lib.hid hbk
    have Hb4 := Lib.hid (below_trans Hb2.out Hb2.out.size hbk.bel)
    have hM40 := hbk.le
    obtain ⟨Av, cv, hv⟩ := hbk.rd.xs.own.shape
    obtain ⟨mL, hmL⟩ : ∃ n, L.length = n := ⟨_, rfl⟩
    have hMl : M.length = mL := by rw [hbk.eq.len, hmL]
    rw [hmL] at hv
    subst hv
    have hmL40 : mL ≤ 40 := by omega
    have HMl := Lib.hid hMl
    clear hbk hag hM40 hmL hMl
    go_wp2_with fail
    refine wp_region_F (F := fun W => Below w4.heap.size w4 W) (n := 22) (m := 23) (s := #[false, false, false, false, false, false, false, false, false, false, false, false, false, false, false, false, false, false, false, false, false, false, false]) (by kernel_rfl) (by kernel_rfl) (by kernel_rfl) ?_
    intro w5 hwd
    have hF : Below w4.heap.size w4 w5 := by rw [hwd.out]; exact (Below.refl _ _).drew
    clear hwd
    refine F_take (i := 0) (d := some 14) (by kernel_rfl) (by kernel_rfl) (by decide) (s' := #[true, false, false, false, false, false, false, false, false, false, false, false, false, false, false, false, false, false, false, false, false, false, false]) (by kernel_rfl) rfl rfl (by kernel_rfl) (by kernel_rfl) (by kernel_rfl) (fun _ _ _ h => h) (Or.inl ⟨by kernel_rfl, fun W hW => by go_simp; try with_reducible rfl⟩) hF ?_
    go_frame
    refine F_take (i := 2) (d := some 16) (by kernel_rfl) (by kernel_rfl) (by decide) (s' := #[true, false, true, false, false, false, false, false, false, false, false, false, false, false, false, false, false, false, false, false, false, false, false]) (by kernel_rfl) rfl rfl (by kernel_rfl) (by kernel_rfl) (by kernel_rfl) (fun _ _ _ h => h) (Or.inl ⟨by kernel_rfl, fun W hW => by go_simp; try with_reducible rfl⟩) hF ?_
    go_frame
    refine F_one (i := 1) (s' := #[true, true, true, false, false, false, false, false, false, false, false, false, false, false, false, false, false, false, false, false, false, false, false]) (by kernel_rfl) (by kernel_rfl) ?_
    refine wpOp_enterL (i := 1) (d := some 15) (f := 14) (args := #[.slice A l.length cap]) rfl rfl (by kernel_rfl) (by go_simp) (Calls.mono (HG1.out _ (below_trans Hb4.out Hb4.out.size hF)) ?_)
    rintro r w6 ⟨⟨v1, rfl, ho1⟩, hb1⟩
    obtain ⟨A1, c1, hv1⟩ := ho1.shape
    rw [HnX.out] at hv1
    subst hv1
    have hF6 := below_trans hF hF.size hb1
    refine ⟨_, rfl, fun _ => hF6, ?_⟩
    go_frame
    refine F_one (i := 3) (s' := #[true, true, true, true, false, false, false, false, false, false, false, false, false, false, false, false, false, false, false, false, false, false, false]) (by kernel_rfl) (by kernel_rfl) ?_
    refine wpOp_enterL (i := 3) (d := some 17) (f := 15) (args := #[.slice A l.length cap]) rfl rfl (by kernel_rfl) (by go_simp) (Calls.mono (HG2.out _ (below_trans Hb4.out Hb4.out.size hF6)) ?_)
    rintro r w7 ⟨⟨v3, rfl, ho3⟩, hb3⟩
    obtain ⟨A3, c3, hv3⟩ := ho3.shape
    rw [HnX.out] at hv3
    subst hv3
    have hF7 := below_trans hF6 hF6.size hb3
    have ho1b := ho1.below hb3
    refine ⟨_, rfl, fun _ => hF7, ?_⟩
    go_frame
    refine F_one (i := 4) (s' := #[true, true, true, true, true, false, false, false, false, false, false, false, false, false, false, false, false, false, false, false, false, false, false]) (by kernel_rfl) (by kernel_rfl) ?_
    refine wpOp_enterL (i := 4) (d := some 18) (f := 13) (args := #[.slice A1 nX c1, .slice A3 nX c3]) rfl rfl (by kernel_rfl) (by go_simp) (Calls.mono (Keys_same A1 A3 c1 c3 X w7 _ _ (OwnR.rows (C := 3) (cells := K3.cells) (fun _ => rfl) ho1b).2 (OwnR.rows (C := 3) (cells := K3.cells) (fun _ => rfl) ho3).2 (Nat.le_refl _) (Nat.le_refl _) (by have := HnX.out; omega) nX nX HnX.out.symm HnX.out.symm) ?_)
    rintro r w8 ⟨rfl, hb4⟩
    have hF8 := below_trans hF7 hF7.size hb4
    refine ⟨_, rfl, fun _ => hF8, ?_⟩
    go_frame
    clear ho1 ho3 hb1 hb3 hb4 ho1b
    have hF : Below w4.heap.size w4 w8 := hF8
    refine F_take (i := 5) (d := some 19) (by kernel_rfl) (by kernel_rfl) (by decide) (s' := #[true, true, true, true, true, true, false, false, false, false, false, false, false, false, false, false, false, false, false, false, false, false, false]) (by kernel_rfl) rfl rfl (by kernel_rfl) (by kernel_rfl) (by kernel_rfl) (fun _ _ _ h => h) (Or.inl ⟨by kernel_rfl, fun W hW => by go_simp; try with_reducible rfl⟩) hF ?_
    go_frame
    refine F_take (i := 6) (d := some 20) (by kernel_rfl) (by kernel_rfl) (by decide) (s' := #[true, true, true, true, true, true, true, false, false, false, false, false, false, false, false, false, false, false, false, false, false, false, false]) (by kernel_rfl) rfl rfl (by kernel_rfl) (by kernel_rfl) (by kernel_rfl) (fun _ _ _ h => h) (Or.inl ⟨by kernel_rfl, fun W hW => by go_simp; try with_reducible rfl⟩) hF ?_
    go_frame
    refine F_take (i := 10) (d := some 24) (by kernel_rfl) (by kernel_rfl) (by decide) (s' := #[true, true, true, true, true, true, true, false, false, false, true, false, false, false, false, false, false, false, false, false, false, false, false]) (by kernel_rfl) rfl rfl (by kernel_rfl) (by kernel_rfl) (by kernel_rfl) (fun _ _ _ h => h) (Or.inl ⟨by kernel_rfl, fun W hW => by go_simp; try with_reducible rfl⟩) hF ?_
    go_frame
    refine F_take (i := 15) (d := some 29) (by kernel_rfl) (by kernel_rfl) (by decide) (s' := #[true, true, true, true, true, true, true, false, false, false, true, false, false, false, false, true, false, false, false, false, false, false, false]) (by kernel_rfl) rfl rfl (by kernel_rfl) (by kernel_rfl) (by kernel_rfl) (fun _ _ _ h => h) (Or.inl ⟨by kernel_rfl, fun W hW => by go_simp; try with_reducible rfl⟩) hF ?_
    go_frame
    refine F_take (i := 16) (d := some 30) (by kernel_rfl) (by kernel_rfl) (by decide) (s' := #[true, true, true, true, true, true, true, false, false, false, true, false, false, false, false, true, true, false, false, false, false, false, false]) (by kernel_rfl) rfl rfl (by kernel_rfl) (by kernel_rfl) (by kernel_rfl) (fun _ _ _ h => h) (Or.inl ⟨by kernel_rfl, fun W hW => by go_simp; try with_reducible rfl⟩) hF ?_
    go_frame
    refine F_take (i := 17) (d := some 31) (by kernel_rfl) (by kernel_rfl) (by decide) (s' := #[true, true, true, true, true, true, true, false, false, false, true, false, false, false, false, true, true, true, false, false, false, false, false]) (by kernel_rfl) rfl rfl (by kernel_rfl) (by kernel_rfl) (by kernel_rfl) (fun _ _ _ h => h) (Or.inl ⟨by kernel_rfl, fun W hW => by go_simp; try with_reducible rfl⟩) hF ?_
    go_frame
    refine F_take (i := 18) (d := some 32) (by kernel_rfl) (by kernel_rfl) (by decide) (s' := #[true, true, true, true, true, true, true, false, false, false, true, false, false, false, false, true, true, true, true, false, false, false, false]) (by kernel_rfl) rfl rfl (by kernel_rfl) (by kernel_rfl) (by kernel_rfl) (fun _ _ _ h => h) (Or.inl ⟨by kernel_rfl, fun W hW => by have c0 := (HBk.out.rd.keep hW).cell.1; go_simp; try with_reducible rfl⟩) hF ?_
    go_frame
    refine F_take (i := 19) (d := some 33) (by kernel_rfl) (by kernel_rfl) (by decide) (s' := #[true, true, true, true, true, true, true, false, false, false, true, false, false, false, false, true, true, true, true, true, false, false, false]) (by kernel_rfl) rfl rfl (by kernel_rfl) (by kernel_rfl) (by kernel_rfl) (fun _ _ _ h => h) (Or.inl ⟨by kernel_rfl, fun W hW => by go_simp; try with_reducible rfl⟩) hF ?_
    go_frame
    refine F_one (i := 7) (s' := #[true, true, true, true, true, true, true, true, false, false, true, false, false, false, false, true, true, true, true, true, false, false, false]) (by kernel_rfl) (by kernel_rfl) ?_
    refine wpOp_enterL (i := 7) (d := some 21) (f := 16) (args := #[.pointer (some ⟨p, 0, none⟩)]) rfl rfl (by kernel_rfl) (by go_simp) (Calls.mono (DbAll_any p b 40 M w8 (HBk.out.db.keep hF8) HBk.out.eq.nodup (by have := HBk.out.le; omega)) ?_)
    rintro r w9 ⟨⟨v7, N7, ⟨rfl, hx7, hp7, hs7⟩⟩, hb7⟩
    obtain ⟨A7, c7, hv7⟩ := hx7.own.shape
    subst hv7
    have hl7 : N7.length ≤ 60 := by have h1 := hp7.length_eq; rw [List.length_map, List.length_map] at h1; have := HBk.out.le; omega
    have Hx7 := Lib.hid (show N7.length ≤ 60 ∧ (N7.map vX).Perm (M.map vX) ∧ sortedX N7 from ⟨hl7, hp7, hs7⟩)
    have Hr7 := Lib.hid (fun W (hW : Below w9.heap.size w9 W) => (OwnR.rows (C := 9) (cells := Lsa.cells) (fun _ => rfl) (hx7.own.below hW)).2)
    obtain ⟨n7, hn7⟩ : ∃ n, N7.length = n := ⟨_, rfl⟩
    rw [hn7]
    have Hn7 := Lib.hid hn7
    have hF9 := below_trans hF8 hF8.size hb7
    have Hb7x := Lib.hid (Below.refl w9.heap.size w9)
    have Hq7 := Lib.hid hb7
    clear hx7 hp7 hs7 hl7 hb7 hn7
    refine ⟨_, rfl, fun _ => hF9, ?_⟩
    go_frame
    have hF : Below w4.heap.size w4 w9 := hF9
    refine F_one (i := 8) (s' := #[true, true, true, true, true, true, true, true, true, false, true, false, false, false, false, true, true, true, true, true, false, false, false]) (by kernel_rfl) (by kernel_rfl) ?_
    refine wpOp_enterL (i := 8) (d := some 22) (f := 14) (args := #[.slice A7 n7 c7]) rfl rfl (by kernel_rfl) (by go_simp) (Calls.mono (SuGoneK A7 c7 N7 w9 w9.heap.size (Hr7.out _ Hb7x.out) (Nat.le_refl _) (by have := Hx7.out.1; omega) n7 Hn7.out.symm) ?_)
    rintro r w10 ⟨⟨v8, rfl, ho8⟩, hb8⟩
    obtain ⟨A8, c8, hv8⟩ := ho8.shape
    subst hv8
    obtain ⟨n8, hn8⟩ : ∃ n, (goneL (goneOf N7)).length = n := ⟨_, rfl⟩
    rw [hn8]
    have Hn8 := Lib.hid hn8
    have hF10 := below_trans hF9 hF9.size hb8
    have Hbb8 := Lib.hid hb8
    clear ho8 hb8 hn8
    refine ⟨_, rfl, fun _ => hF10, ?_⟩
    go_frame
    have hF : Below w4.heap.size w4 w10 := hF10
    refine F_take (i := 9) (d := some 23) (by kernel_rfl) (by kernel_rfl) (by decide) (s' := #[true, true, true, true, true, true, true, true, true, true, true, false, false, false, false, true, true, true, true, true, false, false, false]) (by kernel_rfl) rfl rfl (by kernel_rfl) (by kernel_rfl) (by kernel_rfl) (fun _ _ _ h => h) (Or.inl ⟨by kernel_rfl, fun W hW => by go_simp; try with_reducible rfl⟩) hF ?_
    go_frame
    refine F_one (i := 11) (s' := #[true, true, true, true, true, true, true, true, true, true, true, true, false, false, false, true, true, true, true, true, false, false, false]) (by kernel_rfl) (by kernel_rfl) ?_
    refine wpOp_enterL (i := 11) (d := some 25) (f := 16) (args := #[.pointer (some ⟨p, 0, none⟩)]) rfl rfl (by kernel_rfl) (by go_simp) (Calls.mono (DbAll_any p b 40 M w10 (HBk.out.db.keep hF10) HBk.out.eq.nodup (by have := HBk.out.le; omega)) ?_)
    rintro r w11 ⟨⟨v11, N11, ⟨rfl, hx11, hp11, hs11⟩⟩, hb11⟩
    obtain ⟨A11, c11, hv11⟩ := hx11.own.shape
    subst hv11
    have hl11 : N11.length ≤ 60 := by have h1 := hp11.length_eq; rw [List.length_map, List.length_map] at h1; have := HBk.out.le; omega
    have Hx11 := Lib.hid (show N11.length ≤ 60 ∧ (N11.map vX).Perm (M.map vX) ∧ sortedX N11 from ⟨hl11, hp11, hs11⟩)
    have Hr11 := Lib.hid (fun W (hW : Below w11.heap.size w11 W) => (OwnR.rows (C := 9) (cells := Lsa.cells) (fun _ => rfl) (hx11.own.below hW)).2)
    obtain ⟨n11, hn11⟩ : ∃ n, N11.length = n := ⟨_, rfl⟩
    rw [hn11]
    have Hn11 := Lib.hid hn11
    have hF11 := below_trans hF10 hF10.size hb11
    have Hb11x := Lib.hid (Below.refl w11.heap.size w11)
    have Hq11 := Lib.hid hb11
    clear hx11 hp11 hs11 hl11 hb11 hn11
    refine ⟨_, rfl, fun _ => hF11, ?_⟩
    go_frame
    have hF : Below w4.heap.size w4 w11 := hF11
    refine F_one (i := 12) (s' := #[true, true, true, true, true, true, true, true, true, true, true, true, true, false, false, true, true, true, true, true, false, false, false]) (by kernel_rfl) (by kernel_rfl) ?_
    refine wpOp_enterL (i := 12) (d := some 26) (f := 17) (args := #[.slice A11 n11 c11]) rfl rfl (by kernel_rfl) (by go_simp) (Calls.mono (refHeads_any A11 c11 N11 w11 w11.heap.size (Hr11.out _ Hb11x.out) (Nat.le_refl _) (by have := Hx11.out.1; omega) n11 Hn11.out.symm) ?_)
    rintro r w12 ⟨⟨v12, rfl, ho12⟩, hb12⟩
    obtain ⟨A12, c12, hv12⟩ := ho12.shape
    subst hv12
    obtain ⟨n12, hn12⟩ : ∃ n, (stbS (headsOf N11)).length = n := ⟨_, rfl⟩
    rw [hn12]
    have Hn12 := Lib.hid hn12
    have hF12 := below_trans hF11 hF11.size hb12
    have Hbb12 := Lib.hid hb12
    clear ho12 hb12 hn12
    refine ⟨_, rfl, fun _ => hF12, ?_⟩
    go_frame
    have hF : Below w4.heap.size w4 w12 := hF12
    have hsum : (n8 : Int) + (n12 : Int) = (mL : Int) := by have h1 := gone_told Hx7.out.2.1 Hx11.out.2.1 Hx7.out.2.2.keys; have := Hn8.out; have := Hn12.out; have := HMl.out; omega
    have hmw : IntKind.i64.wrap (mL : Int) = (mL : Int) := by rw [IntKind.wrap_i64]; omega
    have hn8b : n8 ≤ 40 := by omega
    have hn12b : n12 ≤ 40 := by omega
    refine F_take (i := 13) (d := some 27) (by kernel_rfl) (by kernel_rfl) (by decide) (s' := #[true, true, true, true, true, true, true, true, true, true, true, true, true, true, false, true, true, true, true, true, false, false, false]) (by kernel_rfl) rfl rfl (by kernel_rfl) (by kernel_rfl) (by kernel_rfl) (fun _ _ _ h => h) (Or.inl ⟨by kernel_rfl, fun W hW => by go_simp; try with_reducible rfl⟩) hF ?_
    go_frame
    refine F_take (i := 14) (d := some 28) (by kernel_rfl) (by kernel_rfl) (by decide) (s' := #[true, true, true, true, true, true, true, true, true, true, true, true, true, true, true, true, true, true, true, true, false, false, false]) (by kernel_rfl) rfl rfl (by kernel_rfl) (by kernel_rfl) (by kernel_rfl) (fun _ _ _ h => h) (Or.inl ⟨by kernel_rfl, fun W hW => by go_simp; try with_reducible rfl⟩) hF ?_
    go_frame
    refine F_take (i := 20) (d := some 34) (by kernel_rfl) (by kernel_rfl) (by decide) (s' := #[true, true, true, true, true, true, true, true, true, true, true, true, true, true, true, true, true, true, true, true, true, false, false]) (by kernel_rfl) rfl rfl (by kernel_rfl) (by kernel_rfl) (by kernel_rfl) (fun _ _ _ h => h) (Or.inl ⟨by kernel_rfl, fun W hW => by go_simp; try with_reducible rfl⟩) hF ?_
    go_frame
    refine F_take (i := 21) (d := some 35) (by kernel_rfl) (by kernel_rfl) (by decide) (s' := #[true, true, true, true, true, true, true, true, true, true, true, true, true, true, true, true, true, true, true, true, true, true, false]) (by kernel_rfl) rfl rfl (by kernel_rfl) (by kernel_rfl) (by kernel_rfl) (fun _ _ _ h => h) (Or.inl ⟨by kernel_rfl, fun W hW => by go_simp; try with_reducible rfl⟩) hF ?_
    go_frame
    refine F_one (i := 22) (s' := #[true, true, true, true, true, true, true, true, true, true, true, true, true, true, true, true, true, true, true, true, true, true, true]) (by kernel_rfl) (by kernel_rfl) (wpOp_valueL (i := 22) (d := some 2) (w' := w12) (v := .bool true) rfl rfl (by kernel_rfl) (by go_simp) ⟨fun _ => hF, ?_⟩)
    go_frame
    refine F_done (by kernel_rfl) ?_ _
    go_wp2
    go_ret
    exact ⟨rfl, below_trans Hb4.out Hb4.out.size hF⟩

end Go.Proofs.YtpnbibokddhheaaGreat
