/-
  The law SummTells: its walk.
-/
import Derived.Test.YtpnbibokddhheaaSuWakes
import Derived.Test.YtpnbibokddhheaaLsMany
import Derived.Test.YtpnbibokddhheaaStbRow
import Derived.Test.YtpnbibokddhheaaRkHeads
import Derived.Test.YtpnbibokddhheaaSuPieceS
import Derived.Test.YtpnbibokddhheaaSm13
namespace Go.Proofs.Ytpnbibokddhheaa
open Go.RowKit Go.Sort

/-- a part of a row, as a slice of it stands -/
theorem part_reads {w : World} {B : Nat} {u : Value} {H : List Hd} {n a : Nat} (h : OwnR 34 7 Hd.cells w B u H) (hn : H.length = n) (ha : a < n) : ∃ g c, u = .slice (some ⟨g, 0, none⟩) n c ∧ n ≤ c ∧ ∀ W, Below w.heap.size w W → RowsAt 7 Hd.cells W W.heap.size (some ⟨g, a * 7, none⟩) (pieceAt H a) := by
  rcases h.shape2 with ⟨-, h0⟩ | ⟨g, c, rfl, hc⟩
  · subst h0; simp at hn; omega
  · rw [hn] at hc
    refine ⟨g, c, by rw [hn], hc, fun W hW => ?_⟩
    exact row_from (OwnR.rows (C := 7) (cells := Hd.cells) (fun _ => rfl) (h.below hW)).2
theorem piece_end (H : List Hd) {n a : Nat} (hn : H.length = n) (ha : n ≤ a) : pieceAt H a = [] := by
  unfold pieceAt
  rw [List.drop_eq_nil_of_le (by omega)]
  rfl
theorem tell_ne {v : Value} {s : Nat} (h : ∀ m, v.ownBlock = some m → m ≠ s) : v.ownBlock = none ∨ v.ownBlock ≠ some s := by
  cases hv : v.ownBlock with
  | none => exact .inl rfl
  | some m => exact .inr (fun e => by injection e with e; exact h m hv e)
set_option maxHeartbeats 16000000 in
set_option maxRecDepth 100000 in
theorem summTells_any (A : Option Addr) (cap : Nat) (l : List Lsa) (w : World) (hl : LsasAt w w.heap.size A l) (hm : l.length ≤ maxLen) :
    Calls Try.prog 3 #[.slice A l.length cap] w fun r w' => r = .returned (.bool true) ∧ Below w.heap.size w w' := by
  have HL := Lib.hid hl
  obtain ⟨t, ht⟩ : ∃ t, manyB 60 l = t := ⟨_, rfl⟩
  have HMany := Lib.hid (fun W (hW : Below w.heap.size w W) => many13 A cap l W w.heap.size (hl.rows.below hW) hW.size hm l.length rfl ht)
  have Ht := Lib.hid ht
  clear hl hm ht
  go_enter Try.func3, Try.ntmps3
  go_wp2_with fail
  with_reducible refine Calls.mono (wakes13 _) ?_
  rintro r w1 ⟨rfl, hb1⟩
  have Hb1 := Lib.hid hb1
  clear hb1
  go_wp2_with fail
  with_reducible refine Calls.mono (HMany.out _ Hb1.out) ?_
  rintro r w2 ⟨rfl, hb2⟩
  have Hb2 := Lib.hid (below_trans Hb1.out Hb1.out.size hb2)
  clear hb2
  cases t with
  | true =>
    go_wp2
    go_ret
    exact ⟨rfl, Hb2.out⟩
  | false =>
    obtain ⟨hl60, hlens⟩ := manyB_lens Ht.out
    have hhl : (headsOf l).length ≤ 60 := Nat.le_trans (heads_len l) hl60
    have HNw := Lib.hid (SuNew_any A cap l w2 w.heap.size (HL.out.rows.below Hb2.out) Hb2.out.size (by omega) l.length rfl (stbS (headsOf l)) (fun W v ho => sortStb v _ _ W ho (by omega)))
    have HRk := Lib.hid (fun W (hW : Below w.heap.size w W) => refHeads_any A cap l W w.heap.size (HL.out.rows.below hW) hW.size (by omega) l.length rfl)
    obtain ⟨H, hH⟩ : ∃ H, stbS (headsOf l) = H := ⟨_, rfl⟩
    rw [hH] at HNw HRk
    obtain ⟨n, hn⟩ : ∃ n, H.length = n := ⟨_, rfl⟩
    have hn60 : n ≤ 60 := by rw [← hn, ← hH, stbS_len]; exact hhl
    have Hn := Lib.hid hn
    clear hlens hhl hl60 hH hn
    go_wp2_with fail
    with_reducible refine Calls.mono HNw.out ?_
    rintro r w3 ⟨rfl, ⟨v, hsm⟩, hb3⟩
    obtain ⟨s, hs⟩ : ∃ s, w2.heap.size = s := ⟨_, rfl⟩
    rw [hs] at hsm ⊢
    have Hs := Lib.hid (show w.heap.size ≤ s by rw [← hs]; exact Hb2.out.size)
    have Hb3 := Lib.hid (below_trans Hb2.out Hb2.out.size hb3)
    have Hsm3 := Lib.hid hsm
    clear hsm hb3 hs
    go_wp2_with fail
    with_reducible refine Calls.mono (HRk.out _ Hb3.out) ?_
    rintro r w4 ⟨⟨u, rfl, hown4⟩, hb4⟩
    have Hsm4 := Lib.hid (Hsm3.out.keep hb4)
    have Hb4 := Lib.hid (below_trans Hb3.out Hb3.out.size hb4)
    have Hu := Lib.hid (show ∀ m, u.ownBlock = some m → m ≠ s from fun m e => by have := (hown4.block m e).1; have := Hsm3.out.ptr.lt; omega)
    obtain ⟨Au, cu, hu⟩ := hown4.shape
    rw [Hn.out] at hu
    subst hu
    have Hw4 := Lib.hid (hown4.lower (B' := w.heap.size) Hb3.out.size)
    clear hown4 hb4
    go_wp2
    go_loopw [5, 6] (fun v5 v6 wr => ∃ k a : Nat, v5 = .int .i64 k ∧ k ≤ n + 3 ∧ Hid ((k ≤ n ∧ a = k ∨ n < k ∧ a = n) ∧ SmAt wr s v a H ∧ OwnR 34 7 Hd.cells wr w.heap.size (.slice Au n cu) H ∧ Below w.heap.size w wr)) (fun v5 _ _ => n + 4 - (intOf v5).toNat)
    case atStart => exact ⟨0, 0, rfl, by omega, Lib.hid ⟨.inl ⟨by omega, rfl⟩, Hsm4.out, Hw4.out, Hb4.out⟩⟩
    case round =>
      obtain ⟨k, a, rfl, hk3, HJ⟩ := hrel
      have hkb : (k : Int) ≤ 63 := by omega
      have hnb : (n : Int) ≤ 60 := by omega
      by_cases hin : k = 0 ∨ k < n
      · have hka : a = k := by have := HJ.out.1; omega
        subst hka
        have hkn : a ≤ n := by omega
        obtain ⟨e, he⟩ : ∃ e, nextAt a n = e := ⟨_, rfl⟩
        have hge := next_ge hkn
        rw [he] at hge
        have hei : (a : Int) ≤ (e : Int) := by omega
        have hen : (e : Int) ≤ (n : Int) := by omega
        have hpl := piece_len H a (by have := Hn.out; omega)
        rw [Hn.out, he] at hpl
        have HPl := Lib.hid hpl
        have Hge := Lib.hid hge
        have Hin := Lib.hid hin
        have hcz : (((a : Int) == 0) = true ∨ ((a : Int) == 0) = false ∧ (a : Int) < (n : Int)) := by
          rcases hin with h | h
          · exact .inl (by simp [h])
          · by_cases h0 : a = 0
            · exact .inl (by simp [h0])
            · exact .inr ⟨by simp [h0], by omega⟩
        have hmin : (a + 3 < n ∧ (a : Int) + 3 = (e : Int) ∧ (e : Int) < (n : Int)) ∨ (¬ a + 3 < n ∧ e = n ∧ a + 3 = e) ∨ (¬ a + 3 < n ∧ e = n ∧ (e : Int) < (a : Int) + 3) := by
          rw [← he]
          unfold nextAt
          split <;> omega
        clear hin hkn he hge hpl
        go_upto_region 8 with fail
        go_cut [22] from 15 to 55 (fun v wx => v = .bool true ∧ wx = wr)
        case first =>
          rcases hcz with h0 | ⟨h0, h1⟩
          · go_wp2_with fail
            go_meet
            case rel => exact ⟨rfl, rfl⟩
          · go_wp2_with fail
            go_meet
            case rel => exact ⟨rfl, rfl⟩
        case rest =>
        obtain ⟨rfl, hwc⟩ := hcut
        have hwc := hwc.symm
        subst hwc
        clear hcz
        go_upto_region 10 with fail
        go_cut [6] from 15 to 55 (fun v wx => v = .int .i64 e ∧ wx = wr)
        case first =>
          rcases hmin with ⟨h0, h1, h2⟩ | ⟨h0, rfl, h2⟩ | ⟨h0, rfl, h2⟩
          · clear h0
            go_wp2_with fail
            go_meet
            case rel => exact ⟨by go_num, rfl⟩
          · clear h0
            have h3 : (a : Int) + 3 = (e : Int) := by omega
            go_wp2_with fail
            go_meet
            case rel => exact ⟨by go_num, rfl⟩
          · clear h0
            go_wp2_with fail
            go_meet
            case rel => exact ⟨by go_num, rfl⟩
        case rest =>
        obtain ⟨rfl, hwc⟩ := hcut
        have hwc := hwc.symm
        subst hwc
        have HPcs := Lib.hid (fun W (hW : SmAt W s v a H) => SuPiece_any s v a H W hW (by have := Hn.out; have := Hge.out; omega) (by have := Hn.out; omega))
        have HMo := Lib.hid (fun W (hW : SmAt W s v a H) => SuMore_any s v a H W hW (by have := Hn.out; have := Hge.out; omega) (by have := Hn.out; omega))
        have HSt := Lib.hid (fun W (hW : SmAt W s v a H) => SuStep_any s v a H W hW (by have := Hn.out; have := Hge.out; omega) (by have := Hn.out; omega))
        rw [Hn.out] at HMo HSt
        have HMin := Lib.hid hmin
        clear hmin
        by_cases hn0 : n = 0
        · obtain rfl : a = 0 := by have := Hge.out; omega
          obtain rfl : e = 0 := by have := Hge.out; omega
          subst hn0
          have hH0 : H = [] := List.eq_nil_of_length_eq_zero Hn.out
          subst hH0
          have hd1 : decide (0 + 3 < 0) = false := by decide
          rw [hd1] at HMo HSt
          have hnx : nextAt 0 0 = 0 := by decide
          rw [hnx] at HSt
          have HSame := Lib.hid (fun W (A1 : Option Addr) (c1 c2 : Nat) => Same13s A1 Au c1 c2 [] W W.heap.size W.heap.size (fun h0 => absurd h0 (by simp)) (fun h0 => absurd h0 (by simp)) (Nat.le_refl _) (Nat.le_refl _) (by simp) 0 0 rfl rfl)
          have hPe : pieceAt ([] : List Hd) 0 = [] := rfl
          rw [hPe] at HPcs
          simp only [Int.natCast_zero] at *
          go_wp2
          refine wp_region_F (F := fun _ => True) (n := 25) (m := 26) (s := #[false, false, false, false, false, false, false, false, false, false, false, false, false, false, false, false, false, false, false, false, false, false, false, false, false, false]) (by kernel_rfl) (by kernel_rfl) (by kernel_rfl) ?_
          intro wd hwd
          have hF : True := trivial
          have hbd : Below wr.heap.size wr wd := by rw [hwd.out]; exact (Below.refl _ _).drew
          have Hsmd := Lib.hid (HJ.out.2.1.keep hbd)
          have Hwd := Lib.hid (HJ.out.2.2.1.below hbd)
          have Hbd := Lib.hid (below_trans HJ.out.2.2.2 HJ.out.2.2.2.size hbd)
          have Hwrd := Lib.hid hbd
          clear hwd hbd
          refine F_take (i := 0) (d := some 30) (by kernel_rfl) (by kernel_rfl) (by decide) (s' := #[true, false, false, false, false, false, false, false, false, false, false, false, false, false, false, false, false, false, false, false, false, false, false, false, false, false]) (by kernel_rfl) rfl rfl (by kernel_rfl) (by kernel_rfl) (by kernel_rfl) (fun _ _ _ h => h) (Or.inl ⟨by kernel_rfl, fun W hW => by go_simp; try with_reducible rfl⟩) hF ?_
          go_frame
          refine F_take (i := 2) (d := some 32) (by kernel_rfl) (by kernel_rfl) (by decide) (s' := #[true, false, true, false, false, false, false, false, false, false, false, false, false, false, false, false, false, false, false, false, false, false, false, false, false, false]) (by kernel_rfl) rfl rfl (by kernel_rfl) (by kernel_rfl) (by kernel_rfl) (fun _ _ _ h => h) (Or.inl ⟨by kernel_rfl, fun W hW => by go_simp; try with_reducible rfl⟩) hF ?_
          go_frame
          refine F_take (i := 3) (d := some 33) (by kernel_rfl) (by kernel_rfl) (by decide) (s' := #[true, false, true, true, false, false, false, false, false, false, false, false, false, false, false, false, false, false, false, false, false, false, false, false, false, false]) (by kernel_rfl) rfl rfl (by kernel_rfl) (by kernel_rfl) (by kernel_rfl) (fun _ _ _ h => h) (Or.inl ⟨by kernel_rfl, fun W hW => by go_simp; try with_reducible rfl⟩) hF ?_
          go_frame
          refine F_take (i := 4) (d := some 34) (by kernel_rfl) (by kernel_rfl) (by decide) (s' := #[true, false, true, true, true, false, false, false, false, false, false, false, false, false, false, false, false, false, false, false, false, false, false, false, false, false]) (by kernel_rfl) rfl rfl (by kernel_rfl) (by kernel_rfl) (by kernel_rfl) (fun _ _ _ h => h) (Or.inl ⟨by kernel_rfl, fun W hW => by go_simp; try with_reducible rfl⟩) hF ?_
          go_frame
          refine F_take (i := 5) (d := some 35) (by kernel_rfl) (by kernel_rfl) (by decide) (s' := #[true, false, true, true, true, true, false, false, false, false, false, false, false, false, false, false, false, false, false, false, false, false, false, false, false, false]) (by kernel_rfl) rfl rfl (by kernel_rfl) (by kernel_rfl) (by kernel_rfl) (fun _ _ _ h => h) (Or.inl ⟨by kernel_rfl, fun W hW => by go_simp; try with_reducible rfl⟩) hF ?_
          go_frame
          refine F_one (i := 1) (s' := #[true, true, true, true, true, true, false, false, false, false, false, false, false, false, false, false, false, false, false, false, false, false, false, false, false, false]) (by kernel_rfl) (by kernel_rfl) (wpOp_enterL (i := 1) (d := some 31) (f := 13) (args := #[.pointer (some ⟨s, 0, none⟩)]) rfl rfl (by kernel_rfl) (by go_simp) (Calls.mono (HPcs.out _ Hsmd.out) ?_))
          rintro r w5 ⟨⟨p5, rfl, hown5⟩, hb5⟩
          obtain ⟨A5, c5, hp5⟩ := hown5.shape
          have HO5 := Lib.hid hown5
          simp only [List.length_nil] at hp5
          subst hp5
          have Hsm5 := Lib.hid (Hsmd.out.keep hb5)
          have Hw5 := Lib.hid (Hwd.out.below hb5)
          have Hb5 := Lib.hid (below_trans Hbd.out Hbd.out.size hb5)
          have Hwr5 := Lib.hid (below_trans Hwrd.out Hwrd.out.size hb5)
          clear hown5 hb5
          refine ⟨_, rfl, fun _ => trivial, ?_⟩
          go_frame
          refine F_one (i := 6) (s' := #[true, true, true, true, true, true, true, false, false, false, false, false, false, false, false, false, false, false, false, false, false, false, false, false, false, false]) (by kernel_rfl) (by kernel_rfl) (wpOp_enterL (i := 6) (d := some 36) (f := 12) (args := #[.slice A5 0 c5, .slice Au 0 cu]) rfl rfl (by kernel_rfl) (by go_simp) (Calls.mono (HSame.out _ _ _ _) ?_))
          rintro r w6 ⟨rfl, hb6⟩
          have Hsm6 := Lib.hid (Hsm5.out.keep hb6)
          have Hw6 := Lib.hid (Hw5.out.below hb6)
          have Hb6 := Lib.hid (below_trans Hb5.out Hb5.out.size hb6)
          clear hb6
          refine ⟨_, rfl, fun _ => trivial, ?_⟩
          go_frame
          refine F_take (i := 7) (d := some 37) (by kernel_rfl) (by kernel_rfl) (by decide) (s' := #[true, true, true, true, true, true, true, true, false, false, false, false, false, false, false, false, false, false, false, false, false, false, false, false, false, false]) (by kernel_rfl) rfl rfl (by kernel_rfl) (by kernel_rfl) (by kernel_rfl) (fun _ _ _ h => h) (Or.inl ⟨by kernel_rfl, fun W hW => by go_simp; try with_reducible rfl⟩) hF ?_
          go_frame
          refine F_take (i := 8) (d := some 38) (by kernel_rfl) (by kernel_rfl) (by decide) (s' := #[true, true, true, true, true, true, true, true, true, false, false, false, false, false, false, false, false, false, false, false, false, false, false, false, false, false]) (by kernel_rfl) rfl rfl (by kernel_rfl) (by kernel_rfl) (by kernel_rfl) (fun _ _ _ h => h) (Or.inl ⟨by kernel_rfl, fun W hW => by go_simp; try with_reducible rfl⟩) hF ?_
          go_frame
          refine F_take (i := 9) (d := some 39) (by kernel_rfl) (by kernel_rfl) (by decide) (s' := #[true, true, true, true, true, true, true, true, true, true, false, false, false, false, false, false, false, false, false, false, false, false, false, false, false, false]) (by kernel_rfl) rfl rfl (by kernel_rfl) (by kernel_rfl) (by kernel_rfl) (fun _ _ _ h => h) (Or.inl ⟨by kernel_rfl, fun W hW => by go_simp; try with_reducible rfl⟩) hF ?_
          go_frame
          refine F_take (i := 11) (d := some 41) (by kernel_rfl) (by kernel_rfl) (by decide) (s' := #[true, true, true, true, true, true, true, true, true, true, false, true, false, false, false, false, false, false, false, false, false, false, false, false, false, false]) (by kernel_rfl) rfl rfl (by kernel_rfl) (by kernel_rfl) (by kernel_rfl) (fun _ _ _ h => h) (Or.inl ⟨by kernel_rfl, fun W hW => by go_simp; try with_reducible rfl⟩) hF ?_
          go_frame
          refine F_take (i := 12) (d := some 42) (by kernel_rfl) (by kernel_rfl) (by decide) (s' := #[true, true, true, true, true, true, true, true, true, true, false, true, true, false, false, false, false, false, false, false, false, false, false, false, false, false]) (by kernel_rfl) rfl rfl (by kernel_rfl) (by kernel_rfl) (by kernel_rfl) (fun _ _ _ h => h) (Or.inl ⟨by kernel_rfl, fun W hW => by go_simp; try with_reducible rfl⟩) hF ?_
          go_frame
          refine F_take (i := 13) (d := some 43) (by kernel_rfl) (by kernel_rfl) (by decide) (s' := #[true, true, true, true, true, true, true, true, true, true, false, true, true, true, false, false, false, false, false, false, false, false, false, false, false, false]) (by kernel_rfl) rfl rfl (by kernel_rfl) (by kernel_rfl) (by kernel_rfl) (fun _ _ _ h => h) (Or.inl ⟨by kernel_rfl, fun W hW => by go_simp; try with_reducible rfl⟩) hF ?_
          go_frame
          refine F_take (i := 14) (d := some 44) (by kernel_rfl) (by kernel_rfl) (by decide) (s' := #[true, true, true, true, true, true, true, true, true, true, false, true, true, true, true, false, false, false, false, false, false, false, false, false, false, false]) (by kernel_rfl) rfl rfl (by kernel_rfl) (by kernel_rfl) (by kernel_rfl) (fun _ _ _ h => h) (Or.inl ⟨by kernel_rfl, fun W hW => by go_simp; try with_reducible rfl⟩) hF ?_
          go_frame
          refine F_one (i := 10) (s' := #[true, true, true, true, true, true, true, true, true, true, true, true, true, true, true, false, false, false, false, false, false, false, false, false, false, false]) (by kernel_rfl) (by kernel_rfl) (wpOp_enterL (i := 10) (d := some 40) (f := 14) (args := #[.pointer (some ⟨s, 0, none⟩)]) rfl rfl (by kernel_rfl) (by go_simp) (Calls.mono (HMo.out _ Hsm6.out) ?_))
          rintro r w7 ⟨rfl, hb7⟩
          have Hsm7 := Lib.hid (Hsm6.out.keep hb7)
          have Hw7 := Lib.hid (Hw6.out.below hb7)
          have Hb7 := Lib.hid (below_trans Hb6.out Hb6.out.size hb7)
          clear hb7
          refine ⟨_, rfl, fun _ => trivial, ?_⟩
          go_frame
          refine F_take (i := 15) (d := some 45) (by kernel_rfl) (by kernel_rfl) (by decide) (s' := #[true, true, true, true, true, true, true, true, true, true, true, true, true, true, true, true, false, false, false, false, false, false, false, false, false, false]) (by kernel_rfl) rfl rfl (by kernel_rfl) (by kernel_rfl) (by kernel_rfl) (fun _ _ _ h => h) (Or.inl ⟨by kernel_rfl, fun W hW => by go_simp; try with_reducible rfl⟩) hF ?_
          go_frame
          refine F_take (i := 16) (d := some 46) (by kernel_rfl) (by kernel_rfl) (by decide) (s' := #[true, true, true, true, true, true, true, true, true, true, true, true, true, true, true, true, true, false, false, false, false, false, false, false, false, false]) (by kernel_rfl) rfl rfl (by kernel_rfl) (by kernel_rfl) (by kernel_rfl) (fun _ _ _ h => h) (Or.inl ⟨by kernel_rfl, fun W hW => by go_simp; try with_reducible rfl⟩) hF ?_
          go_frame
          refine F_take (i := 17) (d := some 47) (by kernel_rfl) (by kernel_rfl) (by decide) (s' := #[true, true, true, true, true, true, true, true, true, true, true, true, true, true, true, true, true, true, false, false, false, false, false, false, false, false]) (by kernel_rfl) rfl rfl (by kernel_rfl) (by kernel_rfl) (by kernel_rfl) (fun _ _ _ h => h) (Or.inl ⟨by kernel_rfl, fun W hW => by go_simp; try with_reducible rfl⟩) hF ?_
          go_frame
          refine F_take (i := 18) (d := some 48) (by kernel_rfl) (by kernel_rfl) (by decide) (s' := #[true, true, true, true, true, true, true, true, true, true, true, true, true, true, true, true, true, true, true, false, false, false, false, false, false, false]) (by kernel_rfl) rfl rfl (by kernel_rfl) (by kernel_rfl) (by kernel_rfl) (fun _ _ _ h => h) (Or.inl ⟨by kernel_rfl, fun W hW => by go_simp; try with_reducible rfl⟩) hF ?_
          go_frame
          refine F_take (i := 20) (d := some 50) (by kernel_rfl) (by kernel_rfl) (by decide) (s' := #[true, true, true, true, true, true, true, true, true, true, true, true, true, true, true, true, true, true, true, false, true, false, false, false, false, false]) (by kernel_rfl) rfl rfl (by kernel_rfl) (by kernel_rfl) (by kernel_rfl) (fun _ _ _ h => h) (Or.inl ⟨by kernel_rfl, fun W hW => by go_simp; try with_reducible rfl⟩) hF ?_
          go_frame
          refine F_take (i := 21) (d := some 51) (by kernel_rfl) (by kernel_rfl) (by decide) (s' := #[true, true, true, true, true, true, true, true, true, true, true, true, true, true, true, true, true, true, true, false, true, true, false, false, false, false]) (by kernel_rfl) rfl rfl (by kernel_rfl) (by kernel_rfl) (by kernel_rfl) (fun _ _ _ h => h) (Or.inl ⟨by kernel_rfl, fun W hW => by go_simp; try with_reducible rfl⟩) hF ?_
          go_frame
          refine F_take (i := 22) (d := some 52) (by kernel_rfl) (by kernel_rfl) (by decide) (s' := #[true, true, true, true, true, true, true, true, true, true, true, true, true, true, true, true, true, true, true, false, true, true, true, false, false, false]) (by kernel_rfl) rfl rfl (by kernel_rfl) (by kernel_rfl) (by kernel_rfl) (fun _ _ _ h => h) (Or.inl ⟨by kernel_rfl, fun W hW => by go_simp; try with_reducible rfl⟩) hF ?_
          go_frame
          refine F_take (i := 23) (d := some 53) (by kernel_rfl) (by kernel_rfl) (by decide) (s' := #[true, true, true, true, true, true, true, true, true, true, true, true, true, true, true, true, true, true, true, false, true, true, true, true, false, false]) (by kernel_rfl) rfl rfl (by kernel_rfl) (by kernel_rfl) (by kernel_rfl) (fun _ _ _ h => h) (Or.inl ⟨by kernel_rfl, fun W hW => by go_simp; try with_reducible rfl⟩) hF ?_
          go_frame
          refine F_one (i := 19) (s' := #[true, true, true, true, true, true, true, true, true, true, true, true, true, true, true, true, true, true, true, true, true, true, true, true, false, false]) (by kernel_rfl) (by kernel_rfl) (wpOp_enterL (i := 19) (d := some 49) (f := 15) (args := #[.pointer (some ⟨s, 0, none⟩)]) rfl rfl (by kernel_rfl) (by go_simp) (Calls.mono (HSt.out _ Hsm7.out) ?_))
          rintro r w8 ⟨rfl, hsm8, hg8⟩
          have HEnd := Lib.hid (show SmAt w8 s v _ _ ∧ _ ∧ Below w.heap.size w w8 from ⟨hsm8, Hw7.out.kept hg8 (tell_ne Hu.out), Hb7.out.grown hg8 Hb7.out.size (fun m e => by have := Hs.out; injection e with e; omega)⟩)
          clear hsm8 hg8
          refine ⟨_, rfl, fun _ => trivial, ?_⟩
          go_frame
          refine F_take (i := 24) (d := some 54) (by kernel_rfl) (by kernel_rfl) (by decide) (s' := #[true, true, true, true, true, true, true, true, true, true, true, true, true, true, true, true, true, true, true, true, true, true, true, true, true, false]) (by kernel_rfl) rfl rfl (by kernel_rfl) (by kernel_rfl) (by kernel_rfl) (fun _ _ _ h => h) (Or.inl ⟨by kernel_rfl, fun W hW => by go_simp; try with_reducible rfl⟩) hF ?_
          go_frame
          refine F_one (i := 25) (s' := #[true, true, true, true, true, true, true, true, true, true, true, true, true, true, true, true, true, true, true, true, true, true, true, true, true, true]) (by kernel_rfl) (by kernel_rfl) (wpOp_valueL (i := 25) (d := some 55) (w' := w8) (v := .bool false) rfl rfl (by kernel_rfl) (by go_simp) ⟨fun _ => trivial, ?_⟩)
          go_frame
          refine F_done (by kernel_rfl) ?_ _
          go_wp2
          go_roundw
          case measure => simp only [intOf]; omega
          case rel =>
            obtain ⟨q1, q2, q3⟩ := HEnd.out
            exact ⟨3, 0, by go_num, by omega, Lib.hid ⟨.inr ⟨by omega, rfl⟩, q1, q2, q3⟩⟩
        · have han : a < n := by have := Hin.out; omega
          obtain ⟨gu, cu2, hu2, hcu, hpart⟩ := part_reads HJ.out.2.2.1 Hn.out han
          injection hu2 with e1 e2 e3
          subst e1 e3
          have HPart := Lib.hid hpart
          have hcue : (e : Int) ≤ (cu : Int) := by have := Hge.out; omega
          have hca : ¬ cu = a := by omega
          have HSame := Lib.hid (fun W (hW : Below wr.heap.size wr W) (A1 : Option Addr) (c1 c2 : Nat) (h1 : RowsAt 7 Hd.cells W W.heap.size A1 (pieceAt H a)) => Same13s A1 (some ⟨gu, a * 7, none⟩) c1 c2 (pieceAt H a) W W.heap.size W.heap.size h1 (HPart.out W hW) (Nat.le_refl _) (Nat.le_refl _) (by have := HPl.out; omega) (e - a) (e - a) HPl.out.symm HPl.out.symm)
          have Han := Lib.hid han
          clear hpart hcu han
          by_cases hlt : e < n
          · have hd1 : decide (a + 3 < n) = true := by have := HMin.out; simp; omega
            rw [hd1] at HMo HSt
            have hlti : (e : Int) < (n : Int) := by omega
            have HNx := Lib.hid (show nextAt a n = a + 3 ∧ a + 3 < n by have := HMin.out; unfold nextAt; split <;> omega)
            go_wp2
            refine wp_region_F (F := fun _ => True) (n := 25) (m := 26) (s := #[false, false, false, false, false, false, false, false, false, false, false, false, false, false, false, false, false, false, false, false, false, false, false, false, false, false]) (by kernel_rfl) (by kernel_rfl) (by kernel_rfl) ?_
            intro wd hwd
            have hF : True := trivial
            have hbd : Below wr.heap.size wr wd := by rw [hwd.out]; exact (Below.refl _ _).drew
            have Hsmd := Lib.hid (HJ.out.2.1.keep hbd)
            have Hwd := Lib.hid (HJ.out.2.2.1.below hbd)
            have Hbd := Lib.hid (below_trans HJ.out.2.2.2 HJ.out.2.2.2.size hbd)
            have Hwrd := Lib.hid hbd
            clear hwd hbd
            refine F_take (i := 0) (d := some 30) (by kernel_rfl) (by kernel_rfl) (by decide) (s' := #[true, false, false, false, false, false, false, false, false, false, false, false, false, false, false, false, false, false, false, false, false, false, false, false, false, false]) (by kernel_rfl) rfl rfl (by kernel_rfl) (by kernel_rfl) (by kernel_rfl) (fun _ _ _ h => h) (Or.inl ⟨by kernel_rfl, fun W hW => by go_simp; try with_reducible rfl⟩) hF ?_
            go_frame
            refine F_take (i := 2) (d := some 32) (by kernel_rfl) (by kernel_rfl) (by decide) (s' := #[true, false, true, false, false, false, false, false, false, false, false, false, false, false, false, false, false, false, false, false, false, false, false, false, false, false]) (by kernel_rfl) rfl rfl (by kernel_rfl) (by kernel_rfl) (by kernel_rfl) (fun _ _ _ h => h) (Or.inl ⟨by kernel_rfl, fun W hW => by go_simp; try with_reducible rfl⟩) hF ?_
            go_frame
            refine F_take (i := 3) (d := some 33) (by kernel_rfl) (by kernel_rfl) (by decide) (s' := #[true, false, true, true, false, false, false, false, false, false, false, false, false, false, false, false, false, false, false, false, false, false, false, false, false, false]) (by kernel_rfl) rfl rfl (by kernel_rfl) (by kernel_rfl) (by kernel_rfl) (fun _ _ _ h => h) (Or.inl ⟨by kernel_rfl, fun W hW => by go_simp; try with_reducible rfl⟩) hF ?_
            go_frame
            refine F_take (i := 4) (d := some 34) (by kernel_rfl) (by kernel_rfl) (by decide) (s' := #[true, false, true, true, true, false, false, false, false, false, false, false, false, false, false, false, false, false, false, false, false, false, false, false, false, false]) (by kernel_rfl) rfl rfl (by kernel_rfl) (by kernel_rfl) (by kernel_rfl) (fun _ _ _ h => h) (Or.inl ⟨by kernel_rfl, fun W hW => by go_simp; try with_reducible rfl⟩) hF ?_
            go_frame
            refine F_take (i := 5) (d := some 35) (by kernel_rfl) (by kernel_rfl) (by decide) (s' := #[true, false, true, true, true, true, false, false, false, false, false, false, false, false, false, false, false, false, false, false, false, false, false, false, false, false]) (by kernel_rfl) rfl rfl (by kernel_rfl) (by kernel_rfl) (by kernel_rfl) (fun _ _ _ h => h) (Or.inl ⟨by kernel_rfl, fun W hW => by go_simp; try with_reducible rfl⟩) hF ?_
            go_frame
            refine F_one (i := 1) (s' := #[true, true, true, true, true, true, false, false, false, false, false, false, false, false, false, false, false, false, false, false, false, false, false, false, false, false]) (by kernel_rfl) (by kernel_rfl) (wpOp_enterL (i := 1) (d := some 31) (f := 13) (args := #[.pointer (some ⟨s, 0, none⟩)]) rfl rfl (by kernel_rfl) (by go_simp) (Calls.mono (HPcs.out _ Hsmd.out) ?_))
            rintro r w5 ⟨⟨p5, rfl, hown5⟩, hb5⟩
            obtain ⟨A5, c5, hp5⟩ := hown5.shape
            have HO5 := Lib.hid hown5
            rw [HPl.out] at hp5
            subst hp5
            have Hsm5 := Lib.hid (Hsmd.out.keep hb5)
            have Hw5 := Lib.hid (Hwd.out.below hb5)
            have Hb5 := Lib.hid (below_trans Hbd.out Hbd.out.size hb5)
            have Hwr5 := Lib.hid (below_trans Hwrd.out Hwrd.out.size hb5)
            clear hown5 hb5
            refine ⟨_, rfl, fun _ => trivial, ?_⟩
            go_frame
            refine F_one (i := 6) (s' := #[true, true, true, true, true, true, true, false, false, false, false, false, false, false, false, false, false, false, false, false, false, false, false, false, false, false]) (by kernel_rfl) (by kernel_rfl) (wpOp_enterL (i := 6) (d := some 36) (f := 12) (args := #[.slice A5 (e - a) c5, .slice (some ⟨gu, a * 7, none⟩) (e - a) (cu - a)]) rfl rfl (by kernel_rfl) (by go_simp) (Calls.mono (HSame.out w5 Hwr5.out _ _ _ (OwnR.rows (C := 7) (cells := Hd.cells) (fun _ => rfl) HO5.out).2) ?_))
            rintro r w6 ⟨rfl, hb6⟩
            have Hsm6 := Lib.hid (Hsm5.out.keep hb6)
            have Hw6 := Lib.hid (Hw5.out.below hb6)
            have Hb6 := Lib.hid (below_trans Hb5.out Hb5.out.size hb6)
            clear hb6
            refine ⟨_, rfl, fun _ => trivial, ?_⟩
            go_frame
            refine F_take (i := 7) (d := some 37) (by kernel_rfl) (by kernel_rfl) (by decide) (s' := #[true, true, true, true, true, true, true, true, false, false, false, false, false, false, false, false, false, false, false, false, false, false, false, false, false, false]) (by kernel_rfl) rfl rfl (by kernel_rfl) (by kernel_rfl) (by kernel_rfl) (fun _ _ _ h => h) (Or.inl ⟨by kernel_rfl, fun W hW => by go_simp; try with_reducible rfl⟩) hF ?_
            go_frame
            refine F_take (i := 8) (d := some 38) (by kernel_rfl) (by kernel_rfl) (by decide) (s' := #[true, true, true, true, true, true, true, true, true, false, false, false, false, false, false, false, false, false, false, false, false, false, false, false, false, false]) (by kernel_rfl) rfl rfl (by kernel_rfl) (by kernel_rfl) (by kernel_rfl) (fun _ _ _ h => h) (Or.inl ⟨by kernel_rfl, fun W hW => by go_simp; try with_reducible rfl⟩) hF ?_
            go_frame
            refine F_take (i := 9) (d := some 39) (by kernel_rfl) (by kernel_rfl) (by decide) (s' := #[true, true, true, true, true, true, true, true, true, true, false, false, false, false, false, false, false, false, false, false, false, false, false, false, false, false]) (by kernel_rfl) rfl rfl (by kernel_rfl) (by kernel_rfl) (by kernel_rfl) (fun _ _ _ h => h) (Or.inl ⟨by kernel_rfl, fun W hW => by go_simp; try with_reducible rfl⟩) hF ?_
            go_frame
            refine F_take (i := 11) (d := some 41) (by kernel_rfl) (by kernel_rfl) (by decide) (s' := #[true, true, true, true, true, true, true, true, true, true, false, true, false, false, false, false, false, false, false, false, false, false, false, false, false, false]) (by kernel_rfl) rfl rfl (by kernel_rfl) (by kernel_rfl) (by kernel_rfl) (fun _ _ _ h => h) (Or.inl ⟨by kernel_rfl, fun W hW => by go_simp; try with_reducible rfl⟩) hF ?_
            go_frame
            refine F_take (i := 12) (d := some 42) (by kernel_rfl) (by kernel_rfl) (by decide) (s' := #[true, true, true, true, true, true, true, true, true, true, false, true, true, false, false, false, false, false, false, false, false, false, false, false, false, false]) (by kernel_rfl) rfl rfl (by kernel_rfl) (by kernel_rfl) (by kernel_rfl) (fun _ _ _ h => h) (Or.inl ⟨by kernel_rfl, fun W hW => by go_simp; try with_reducible rfl⟩) hF ?_
            go_frame
            refine F_take (i := 13) (d := some 43) (by kernel_rfl) (by kernel_rfl) (by decide) (s' := #[true, true, true, true, true, true, true, true, true, true, false, true, true, true, false, false, false, false, false, false, false, false, false, false, false, false]) (by kernel_rfl) rfl rfl (by kernel_rfl) (by kernel_rfl) (by kernel_rfl) (fun _ _ _ h => h) (Or.inl ⟨by kernel_rfl, fun W hW => by go_simp; try with_reducible rfl⟩) hF ?_
            go_frame
            refine F_take (i := 14) (d := some 44) (by kernel_rfl) (by kernel_rfl) (by decide) (s' := #[true, true, true, true, true, true, true, true, true, true, false, true, true, true, true, false, false, false, false, false, false, false, false, false, false, false]) (by kernel_rfl) rfl rfl (by kernel_rfl) (by kernel_rfl) (by kernel_rfl) (fun _ _ _ h => h) (Or.inl ⟨by kernel_rfl, fun W hW => by go_simp; try with_reducible rfl⟩) hF ?_
            go_frame
            refine F_one (i := 10) (s' := #[true, true, true, true, true, true, true, true, true, true, true, true, true, true, true, false, false, false, false, false, false, false, false, false, false, false]) (by kernel_rfl) (by kernel_rfl) (wpOp_enterL (i := 10) (d := some 40) (f := 14) (args := #[.pointer (some ⟨s, 0, none⟩)]) rfl rfl (by kernel_rfl) (by go_simp) (Calls.mono (HMo.out _ Hsm6.out) ?_))
            rintro r w7 ⟨rfl, hb7⟩
            have Hsm7 := Lib.hid (Hsm6.out.keep hb7)
            have Hw7 := Lib.hid (Hw6.out.below hb7)
            have Hb7 := Lib.hid (below_trans Hb6.out Hb6.out.size hb7)
            clear hb7
            refine ⟨_, rfl, fun _ => trivial, ?_⟩
            go_frame
            refine F_take (i := 15) (d := some 45) (by kernel_rfl) (by kernel_rfl) (by decide) (s' := #[true, true, true, true, true, true, true, true, true, true, true, true, true, true, true, true, false, false, false, false, false, false, false, false, false, false]) (by kernel_rfl) rfl rfl (by kernel_rfl) (by kernel_rfl) (by kernel_rfl) (fun _ _ _ h => h) (Or.inl ⟨by kernel_rfl, fun W hW => by go_simp; try with_reducible rfl⟩) hF ?_
            go_frame
            refine F_take (i := 16) (d := some 46) (by kernel_rfl) (by kernel_rfl) (by decide) (s' := #[true, true, true, true, true, true, true, true, true, true, true, true, true, true, true, true, true, false, false, false, false, false, false, false, false, false]) (by kernel_rfl) rfl rfl (by kernel_rfl) (by kernel_rfl) (by kernel_rfl) (fun _ _ _ h => h) (Or.inl ⟨by kernel_rfl, fun W hW => by go_simp; try with_reducible rfl⟩) hF ?_
            go_frame
            refine F_take (i := 17) (d := some 47) (by kernel_rfl) (by kernel_rfl) (by decide) (s' := #[true, true, true, true, true, true, true, true, true, true, true, true, true, true, true, true, true, true, false, false, false, false, false, false, false, false]) (by kernel_rfl) rfl rfl (by kernel_rfl) (by kernel_rfl) (by kernel_rfl) (fun _ _ _ h => h) (Or.inl ⟨by kernel_rfl, fun W hW => by go_simp; try with_reducible rfl⟩) hF ?_
            go_frame
            refine F_take (i := 18) (d := some 48) (by kernel_rfl) (by kernel_rfl) (by decide) (s' := #[true, true, true, true, true, true, true, true, true, true, true, true, true, true, true, true, true, true, true, false, false, false, false, false, false, false]) (by kernel_rfl) rfl rfl (by kernel_rfl) (by kernel_rfl) (by kernel_rfl) (fun _ _ _ h => h) (Or.inl ⟨by kernel_rfl, fun W hW => by go_simp; try with_reducible rfl⟩) hF ?_
            go_frame
            refine F_take (i := 20) (d := some 50) (by kernel_rfl) (by kernel_rfl) (by decide) (s' := #[true, true, true, true, true, true, true, true, true, true, true, true, true, true, true, true, true, true, true, false, true, false, false, false, false, false]) (by kernel_rfl) rfl rfl (by kernel_rfl) (by kernel_rfl) (by kernel_rfl) (fun _ _ _ h => h) (Or.inl ⟨by kernel_rfl, fun W hW => by go_simp; try with_reducible rfl⟩) hF ?_
            go_frame
            refine F_take (i := 21) (d := some 51) (by kernel_rfl) (by kernel_rfl) (by decide) (s' := #[true, true, true, true, true, true, true, true, true, true, true, true, true, true, true, true, true, true, true, false, true, true, false, false, false, false]) (by kernel_rfl) rfl rfl (by kernel_rfl) (by kernel_rfl) (by kernel_rfl) (fun _ _ _ h => h) (Or.inl ⟨by kernel_rfl, fun W hW => by go_simp; try with_reducible rfl⟩) hF ?_
            go_frame
            refine F_take (i := 22) (d := some 52) (by kernel_rfl) (by kernel_rfl) (by decide) (s' := #[true, true, true, true, true, true, true, true, true, true, true, true, true, true, true, true, true, true, true, false, true, true, true, false, false, false]) (by kernel_rfl) rfl rfl (by kernel_rfl) (by kernel_rfl) (by kernel_rfl) (fun _ _ _ h => h) (Or.inl ⟨by kernel_rfl, fun W hW => by go_simp; try with_reducible rfl⟩) hF ?_
            go_frame
            refine F_take (i := 23) (d := some 53) (by kernel_rfl) (by kernel_rfl) (by decide) (s' := #[true, true, true, true, true, true, true, true, true, true, true, true, true, true, true, true, true, true, true, false, true, true, true, true, false, false]) (by kernel_rfl) rfl rfl (by kernel_rfl) (by kernel_rfl) (by kernel_rfl) (fun _ _ _ h => h) (Or.inl ⟨by kernel_rfl, fun W hW => by go_simp; try with_reducible rfl⟩) hF ?_
            go_frame
            refine F_one (i := 19) (s' := #[true, true, true, true, true, true, true, true, true, true, true, true, true, true, true, true, true, true, true, true, true, true, true, true, false, false]) (by kernel_rfl) (by kernel_rfl) (wpOp_enterL (i := 19) (d := some 49) (f := 15) (args := #[.pointer (some ⟨s, 0, none⟩)]) rfl rfl (by kernel_rfl) (by go_simp) (Calls.mono (HSt.out _ Hsm7.out) ?_))
            rintro r w8 ⟨rfl, hsm8, hg8⟩
            have HEnd := Lib.hid (show SmAt w8 s v _ _ ∧ _ ∧ Below w.heap.size w w8 from ⟨hsm8, Hw7.out.kept hg8 (tell_ne Hu.out), Hb7.out.grown hg8 Hb7.out.size (fun m e => by have := Hs.out; injection e with e; omega)⟩)
            clear hsm8 hg8
            refine ⟨_, rfl, fun _ => trivial, ?_⟩
            go_frame
            refine F_take (i := 24) (d := some 54) (by kernel_rfl) (by kernel_rfl) (by decide) (s' := #[true, true, true, true, true, true, true, true, true, true, true, true, true, true, true, true, true, true, true, true, true, true, true, true, true, false]) (by kernel_rfl) rfl rfl (by kernel_rfl) (by kernel_rfl) (by kernel_rfl) (fun _ _ _ h => h) (Or.inl ⟨by kernel_rfl, fun W hW => by go_simp; try with_reducible rfl⟩) hF ?_
            go_frame
            refine F_one (i := 25) (s' := #[true, true, true, true, true, true, true, true, true, true, true, true, true, true, true, true, true, true, true, true, true, true, true, true, true, true]) (by kernel_rfl) (by kernel_rfl) (wpOp_valueL (i := 25) (d := some 55) (w' := w8) (v := .bool false) rfl rfl (by kernel_rfl) (by go_simp) ⟨fun _ => trivial, ?_⟩)
            go_frame
            refine F_done (by kernel_rfl) ?_ _
            go_wp2
            go_roundw
            case measure => simp only [intOf]; omega
            case rel =>
              obtain ⟨q1, q2, q3⟩ := HEnd.out
              rw [HNx.out.1] at q1
              exact ⟨a + 3, a + 3, by go_num, by omega, Lib.hid ⟨.inl ⟨by have := HNx.out; omega, rfl⟩, q1, q2, q3⟩⟩
          · have hd1 : decide (a + 3 < n) = false := by have := HMin.out; simp; omega
            rw [hd1] at HMo HSt
            have hlti : ¬ (e : Int) < (n : Int) := by omega
            have HNx := Lib.hid (show nextAt a n = n ∧ n ≤ a + 3 by have := HMin.out; unfold nextAt; split <;> omega)
            go_wp2
            refine wp_region_F (F := fun _ => True) (n := 25) (m := 26) (s := #[false, false, false, false, false, false, false, false, false, false, false, false, false, false, false, false, false, false, false, false, false, false, false, false, false, false]) (by kernel_rfl) (by kernel_rfl) (by kernel_rfl) ?_
            intro wd hwd
            have hF : True := trivial
            have hbd : Below wr.heap.size wr wd := by rw [hwd.out]; exact (Below.refl _ _).drew
            have Hsmd := Lib.hid (HJ.out.2.1.keep hbd)
            have Hwd := Lib.hid (HJ.out.2.2.1.below hbd)
            have Hbd := Lib.hid (below_trans HJ.out.2.2.2 HJ.out.2.2.2.size hbd)
            have Hwrd := Lib.hid hbd
            clear hwd hbd
            refine F_take (i := 0) (d := some 30) (by kernel_rfl) (by kernel_rfl) (by decide) (s' := #[true, false, false, false, false, false, false, false, false, false, false, false, false, false, false, false, false, false, false, false, false, false, false, false, false, false]) (by kernel_rfl) rfl rfl (by kernel_rfl) (by kernel_rfl) (by kernel_rfl) (fun _ _ _ h => h) (Or.inl ⟨by kernel_rfl, fun W hW => by go_simp; try with_reducible rfl⟩) hF ?_
            go_frame
            refine F_take (i := 2) (d := some 32) (by kernel_rfl) (by kernel_rfl) (by decide) (s' := #[true, false, true, false, false, false, false, false, false, false, false, false, false, false, false, false, false, false, false, false, false, false, false, false, false, false]) (by kernel_rfl) rfl rfl (by kernel_rfl) (by kernel_rfl) (by kernel_rfl) (fun _ _ _ h => h) (Or.inl ⟨by kernel_rfl, fun W hW => by go_simp; try with_reducible rfl⟩) hF ?_
            go_frame
            refine F_take (i := 3) (d := some 33) (by kernel_rfl) (by kernel_rfl) (by decide) (s' := #[true, false, true, true, false, false, false, false, false, false, false, false, false, false, false, false, false, false, false, false, false, false, false, false, false, false]) (by kernel_rfl) rfl rfl (by kernel_rfl) (by kernel_rfl) (by kernel_rfl) (fun _ _ _ h => h) (Or.inl ⟨by kernel_rfl, fun W hW => by go_simp; try with_reducible rfl⟩) hF ?_
            go_frame
            refine F_take (i := 4) (d := some 34) (by kernel_rfl) (by kernel_rfl) (by decide) (s' := #[true, false, true, true, true, false, false, false, false, false, false, false, false, false, false, false, false, false, false, false, false, false, false, false, false, false]) (by kernel_rfl) rfl rfl (by kernel_rfl) (by kernel_rfl) (by kernel_rfl) (fun _ _ _ h => h) (Or.inl ⟨by kernel_rfl, fun W hW => by go_simp; try with_reducible rfl⟩) hF ?_
            go_frame
            refine F_take (i := 5) (d := some 35) (by kernel_rfl) (by kernel_rfl) (by decide) (s' := #[true, false, true, true, true, true, false, false, false, false, false, false, false, false, false, false, false, false, false, false, false, false, false, false, false, false]) (by kernel_rfl) rfl rfl (by kernel_rfl) (by kernel_rfl) (by kernel_rfl) (fun _ _ _ h => h) (Or.inl ⟨by kernel_rfl, fun W hW => by go_simp; try with_reducible rfl⟩) hF ?_
            go_frame
            refine F_one (i := 1) (s' := #[true, true, true, true, true, true, false, false, false, false, false, false, false, false, false, false, false, false, false, false, false, false, false, false, false, false]) (by kernel_rfl) (by kernel_rfl) (wpOp_enterL (i := 1) (d := some 31) (f := 13) (args := #[.pointer (some ⟨s, 0, none⟩)]) rfl rfl (by kernel_rfl) (by go_simp) (Calls.mono (HPcs.out _ Hsmd.out) ?_))
            rintro r w5 ⟨⟨p5, rfl, hown5⟩, hb5⟩
            obtain ⟨A5, c5, hp5⟩ := hown5.shape
            have HO5 := Lib.hid hown5
            rw [HPl.out] at hp5
            subst hp5
            have Hsm5 := Lib.hid (Hsmd.out.keep hb5)
            have Hw5 := Lib.hid (Hwd.out.below hb5)
            have Hb5 := Lib.hid (below_trans Hbd.out Hbd.out.size hb5)
            have Hwr5 := Lib.hid (below_trans Hwrd.out Hwrd.out.size hb5)
            clear hown5 hb5
            refine ⟨_, rfl, fun _ => trivial, ?_⟩
            go_frame
            refine F_one (i := 6) (s' := #[true, true, true, true, true, true, true, false, false, false, false, false, false, false, false, false, false, false, false, false, false, false, false, false, false, false]) (by kernel_rfl) (by kernel_rfl) (wpOp_enterL (i := 6) (d := some 36) (f := 12) (args := #[.slice A5 (e - a) c5, .slice (some ⟨gu, a * 7, none⟩) (e - a) (cu - a)]) rfl rfl (by kernel_rfl) (by go_simp) (Calls.mono (HSame.out w5 Hwr5.out _ _ _ (OwnR.rows (C := 7) (cells := Hd.cells) (fun _ => rfl) HO5.out).2) ?_))
            rintro r w6 ⟨rfl, hb6⟩
            have Hsm6 := Lib.hid (Hsm5.out.keep hb6)
            have Hw6 := Lib.hid (Hw5.out.below hb6)
            have Hb6 := Lib.hid (below_trans Hb5.out Hb5.out.size hb6)
            clear hb6
            refine ⟨_, rfl, fun _ => trivial, ?_⟩
            go_frame
            refine F_take (i := 7) (d := some 37) (by kernel_rfl) (by kernel_rfl) (by decide) (s' := #[true, true, true, true, true, true, true, true, false, false, false, false, false, false, false, false, false, false, false, false, false, false, false, false, false, false]) (by kernel_rfl) rfl rfl (by kernel_rfl) (by kernel_rfl) (by kernel_rfl) (fun _ _ _ h => h) (Or.inl ⟨by kernel_rfl, fun W hW => by go_simp; try with_reducible rfl⟩) hF ?_
            go_frame
            refine F_take (i := 8) (d := some 38) (by kernel_rfl) (by kernel_rfl) (by decide) (s' := #[true, true, true, true, true, true, true, true, true, false, false, false, false, false, false, false, false, false, false, false, false, false, false, false, false, false]) (by kernel_rfl) rfl rfl (by kernel_rfl) (by kernel_rfl) (by kernel_rfl) (fun _ _ _ h => h) (Or.inl ⟨by kernel_rfl, fun W hW => by go_simp; try with_reducible rfl⟩) hF ?_
            go_frame
            refine F_take (i := 9) (d := some 39) (by kernel_rfl) (by kernel_rfl) (by decide) (s' := #[true, true, true, true, true, true, true, true, true, true, false, false, false, false, false, false, false, false, false, false, false, false, false, false, false, false]) (by kernel_rfl) rfl rfl (by kernel_rfl) (by kernel_rfl) (by kernel_rfl) (fun _ _ _ h => h) (Or.inl ⟨by kernel_rfl, fun W hW => by go_simp; try with_reducible rfl⟩) hF ?_
            go_frame
            refine F_take (i := 11) (d := some 41) (by kernel_rfl) (by kernel_rfl) (by decide) (s' := #[true, true, true, true, true, true, true, true, true, true, false, true, false, false, false, false, false, false, false, false, false, false, false, false, false, false]) (by kernel_rfl) rfl rfl (by kernel_rfl) (by kernel_rfl) (by kernel_rfl) (fun _ _ _ h => h) (Or.inl ⟨by kernel_rfl, fun W hW => by go_simp; try with_reducible rfl⟩) hF ?_
            go_frame
            refine F_take (i := 12) (d := some 42) (by kernel_rfl) (by kernel_rfl) (by decide) (s' := #[true, true, true, true, true, true, true, true, true, true, false, true, true, false, false, false, false, false, false, false, false, false, false, false, false, false]) (by kernel_rfl) rfl rfl (by kernel_rfl) (by kernel_rfl) (by kernel_rfl) (fun _ _ _ h => h) (Or.inl ⟨by kernel_rfl, fun W hW => by go_simp; try with_reducible rfl⟩) hF ?_
            go_frame
            refine F_take (i := 13) (d := some 43) (by kernel_rfl) (by kernel_rfl) (by decide) (s' := #[true, true, true, true, true, true, true, true, true, true, false, true, true, true, false, false, false, false, false, false, false, false, false, false, false, false]) (by kernel_rfl) rfl rfl (by kernel_rfl) (by kernel_rfl) (by kernel_rfl) (fun _ _ _ h => h) (Or.inl ⟨by kernel_rfl, fun W hW => by go_simp; try with_reducible rfl⟩) hF ?_
            go_frame
            refine F_take (i := 14) (d := some 44) (by kernel_rfl) (by kernel_rfl) (by decide) (s' := #[true, true, true, true, true, true, true, true, true, true, false, true, true, true, true, false, false, false, false, false, false, false, false, false, false, false]) (by kernel_rfl) rfl rfl (by kernel_rfl) (by kernel_rfl) (by kernel_rfl) (fun _ _ _ h => h) (Or.inl ⟨by kernel_rfl, fun W hW => by go_simp; try with_reducible rfl⟩) hF ?_
            go_frame
            refine F_one (i := 10) (s' := #[true, true, true, true, true, true, true, true, true, true, true, true, true, true, true, false, false, false, false, false, false, false, false, false, false, false]) (by kernel_rfl) (by kernel_rfl) (wpOp_enterL (i := 10) (d := some 40) (f := 14) (args := #[.pointer (some ⟨s, 0, none⟩)]) rfl rfl (by kernel_rfl) (by go_simp) (Calls.mono (HMo.out _ Hsm6.out) ?_))
            rintro r w7 ⟨rfl, hb7⟩
            have Hsm7 := Lib.hid (Hsm6.out.keep hb7)
            have Hw7 := Lib.hid (Hw6.out.below hb7)
            have Hb7 := Lib.hid (below_trans Hb6.out Hb6.out.size hb7)
            clear hb7
            refine ⟨_, rfl, fun _ => trivial, ?_⟩
            go_frame
            refine F_take (i := 15) (d := some 45) (by kernel_rfl) (by kernel_rfl) (by decide) (s' := #[true, true, true, true, true, true, true, true, true, true, true, true, true, true, true, true, false, false, false, false, false, false, false, false, false, false]) (by kernel_rfl) rfl rfl (by kernel_rfl) (by kernel_rfl) (by kernel_rfl) (fun _ _ _ h => h) (Or.inl ⟨by kernel_rfl, fun W hW => by go_simp; try with_reducible rfl⟩) hF ?_
            go_frame
            refine F_take (i := 16) (d := some 46) (by kernel_rfl) (by kernel_rfl) (by decide) (s' := #[true, true, true, true, true, true, true, true, true, true, true, true, true, true, true, true, true, false, false, false, false, false, false, false, false, false]) (by kernel_rfl) rfl rfl (by kernel_rfl) (by kernel_rfl) (by kernel_rfl) (fun _ _ _ h => h) (Or.inl ⟨by kernel_rfl, fun W hW => by go_simp; try with_reducible rfl⟩) hF ?_
            go_frame
            refine F_take (i := 17) (d := some 47) (by kernel_rfl) (by kernel_rfl) (by decide) (s' := #[true, true, true, true, true, true, true, true, true, true, true, true, true, true, true, true, true, true, false, false, false, false, false, false, false, false]) (by kernel_rfl) rfl rfl (by kernel_rfl) (by kernel_rfl) (by kernel_rfl) (fun _ _ _ h => h) (Or.inl ⟨by kernel_rfl, fun W hW => by go_simp; try with_reducible rfl⟩) hF ?_
            go_frame
            refine F_take (i := 18) (d := some 48) (by kernel_rfl) (by kernel_rfl) (by decide) (s' := #[true, true, true, true, true, true, true, true, true, true, true, true, true, true, true, true, true, true, true, false, false, false, false, false, false, false]) (by kernel_rfl) rfl rfl (by kernel_rfl) (by kernel_rfl) (by kernel_rfl) (fun _ _ _ h => h) (Or.inl ⟨by kernel_rfl, fun W hW => by go_simp; try with_reducible rfl⟩) hF ?_
            go_frame
            refine F_take (i := 20) (d := some 50) (by kernel_rfl) (by kernel_rfl) (by decide) (s' := #[true, true, true, true, true, true, true, true, true, true, true, true, true, true, true, true, true, true, true, false, true, false, false, false, false, false]) (by kernel_rfl) rfl rfl (by kernel_rfl) (by kernel_rfl) (by kernel_rfl) (fun _ _ _ h => h) (Or.inl ⟨by kernel_rfl, fun W hW => by go_simp; try with_reducible rfl⟩) hF ?_
            go_frame
            refine F_take (i := 21) (d := some 51) (by kernel_rfl) (by kernel_rfl) (by decide) (s' := #[true, true, true, true, true, true, true, true, true, true, true, true, true, true, true, true, true, true, true, false, true, true, false, false, false, false]) (by kernel_rfl) rfl rfl (by kernel_rfl) (by kernel_rfl) (by kernel_rfl) (fun _ _ _ h => h) (Or.inl ⟨by kernel_rfl, fun W hW => by go_simp; try with_reducible rfl⟩) hF ?_
            go_frame
            refine F_take (i := 22) (d := some 52) (by kernel_rfl) (by kernel_rfl) (by decide) (s' := #[true, true, true, true, true, true, true, true, true, true, true, true, true, true, true, true, true, true, true, false, true, true, true, false, false, false]) (by kernel_rfl) rfl rfl (by kernel_rfl) (by kernel_rfl) (by kernel_rfl) (fun _ _ _ h => h) (Or.inl ⟨by kernel_rfl, fun W hW => by go_simp; try with_reducible rfl⟩) hF ?_
            go_frame
            refine F_take (i := 23) (d := some 53) (by kernel_rfl) (by kernel_rfl) (by decide) (s' := #[true, true, true, true, true, true, true, true, true, true, true, true, true, true, true, true, true, true, true, false, true, true, true, true, false, false]) (by kernel_rfl) rfl rfl (by kernel_rfl) (by kernel_rfl) (by kernel_rfl) (fun _ _ _ h => h) (Or.inl ⟨by kernel_rfl, fun W hW => by go_simp; try with_reducible rfl⟩) hF ?_
            go_frame
            refine F_one (i := 19) (s' := #[true, true, true, true, true, true, true, true, true, true, true, true, true, true, true, true, true, true, true, true, true, true, true, true, false, false]) (by kernel_rfl) (by kernel_rfl) (wpOp_enterL (i := 19) (d := some 49) (f := 15) (args := #[.pointer (some ⟨s, 0, none⟩)]) rfl rfl (by kernel_rfl) (by go_simp) (Calls.mono (HSt.out _ Hsm7.out) ?_))
            rintro r w8 ⟨rfl, hsm8, hg8⟩
            have HEnd := Lib.hid (show SmAt w8 s v _ _ ∧ _ ∧ Below w.heap.size w w8 from ⟨hsm8, Hw7.out.kept hg8 (tell_ne Hu.out), Hb7.out.grown hg8 Hb7.out.size (fun m e => by have := Hs.out; injection e with e; omega)⟩)
            clear hsm8 hg8
            refine ⟨_, rfl, fun _ => trivial, ?_⟩
            go_frame
            refine F_take (i := 24) (d := some 54) (by kernel_rfl) (by kernel_rfl) (by decide) (s' := #[true, true, true, true, true, true, true, true, true, true, true, true, true, true, true, true, true, true, true, true, true, true, true, true, true, false]) (by kernel_rfl) rfl rfl (by kernel_rfl) (by kernel_rfl) (by kernel_rfl) (fun _ _ _ h => h) (Or.inl ⟨by kernel_rfl, fun W hW => by go_simp; try with_reducible rfl⟩) hF ?_
            go_frame
            refine F_one (i := 25) (s' := #[true, true, true, true, true, true, true, true, true, true, true, true, true, true, true, true, true, true, true, true, true, true, true, true, true, true]) (by kernel_rfl) (by kernel_rfl) (wpOp_valueL (i := 25) (d := some 55) (w' := w8) (v := .bool false) rfl rfl (by kernel_rfl) (by go_simp) ⟨fun _ => trivial, ?_⟩)
            go_frame
            refine F_done (by kernel_rfl) ?_ _
            go_wp2
            go_roundw
            case measure => simp only [intOf]; omega
            case rel =>
              obtain ⟨q1, q2, q3⟩ := HEnd.out
              rw [HNx.out.1] at q1
              have h9 := Han.out
              have h8 := HNx.out.2
              by_cases h7 : a + 3 = n
              · exact ⟨a + 3, n, by go_num, by omega, Lib.hid ⟨.inl ⟨by omega, h7.symm⟩, q1, q2, q3⟩⟩
              · exact ⟨a + 3, n, by go_num, by omega, Lib.hid ⟨.inr ⟨by omega, rfl⟩, q1, q2, q3⟩⟩
      · have hka : a = n := by have := HJ.out.1; omega
        have hkz : ((k : Int) == 0) = false := by simp; omega
        have hkn : ¬ (k : Int) < (n : Int) := by omega
        have hkn0 : ¬ k = 0 := by omega
        subst hka
        have hpe := piece_end H Hn.out (Nat.le_refl a)
        have HP1 := Lib.hid (fun W (hW : SmAt W s v a H) => SuPiece_any s v a H W hW (by have := Hn.out; omega) (by have := Hn.out; omega))
        have HMo := Lib.hid (fun W (hW : SmAt W s v a H) => SuMore_any s v a H W hW (by have := Hn.out; omega) (by have := Hn.out; omega))
        have HSt := Lib.hid (fun W (hW : SmAt W s v a H) => SuStep_any s v a H W hW (by have := Hn.out; omega) (by have := Hn.out; omega))
        have hdn : decide (a + 3 < a) = false := by simp
        have hnx : nextAt a a = a := by unfold nextAt; rw [if_neg (by omega)]
        rw [hpe] at HP1
        rw [Hn.out, hdn] at HMo HSt
        rw [hnx] at HSt
        clear hin hpe hdn hnx
        go_wp2_with fail
        with_reducible refine Calls.mono (HP1.out _ HJ.out.2.1) ?_
        rintro r w5 ⟨⟨p5, rfl, hown5⟩, hb5⟩
        obtain ⟨A5, c5, hp5⟩ := hown5.shape
        simp only [List.length_nil] at hp5
        subst hp5
        have Hsm5 := Lib.hid (HJ.out.2.1.keep hb5)
        have Hb5 := Lib.hid (below_trans HJ.out.2.2.2 HJ.out.2.2.2.size hb5)
        clear hown5 hb5
        go_wp2_with fail
        with_reducible refine Calls.mono (HMo.out _ Hsm5.out) ?_
        rintro r w6 ⟨rfl, hb6⟩
        have Hsm6 := Lib.hid (Hsm5.out.keep hb6)
        have Hb6 := Lib.hid (below_trans Hb5.out Hb5.out.size hb6)
        clear hb6
        go_wp2_with fail
        with_reducible refine Calls.mono (HSt.out _ Hsm6.out) ?_
        rintro r w7 ⟨rfl, hsm7, hg7⟩
        have Hsm7 := Lib.hid hsm7
        have Hb7 := Lib.hid (show Below w.heap.size w w7 from Hb6.out.grown hg7 Hb6.out.size (fun m e => by have := Hs.out; injection e with e; omega))
        clear hsm7 hg7
        go_wp2_with fail
        with_reducible refine Calls.mono (HP1.out _ Hsm7.out) ?_
        rintro r w8 ⟨⟨p8, rfl, hown8⟩, hb8⟩
        obtain ⟨A8, c8, hp8⟩ := hown8.shape
        simp only [List.length_nil] at hp8
        subst hp8
        have Hb8 := Lib.hid (below_trans Hb7.out Hb7.out.size hb8)
        clear hown8 hb8
        go_wp2
        go_ret
        exact ⟨rfl, Hb8.out⟩

end Go.Proofs.Ytpnbibokddhheaa
