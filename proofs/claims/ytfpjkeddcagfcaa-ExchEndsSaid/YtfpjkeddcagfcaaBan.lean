/-
  slices.symMergeCmpFunc at heads: two parts that are sorted, side by side, are merged stably.
-/
import Derived.Deep.Cut
import Derived.Deep.CutRange
import Derived.Shelf.SlGeneric
import Derived.Shelf.SlSortCmp.InsertionK
import Derived.Ground.SlsfProg
import Derived.Test.YtfpjkeddcagfcaaProg
import Derived.Lib.QuietBelow
import Derived.Test.YtfpjkeddcagfcaaBab
import Derived.Test.YtfpjkeddcagfcaaBac
import Derived.Test.YtfpjkeddcagfcaaBad
import Derived.Test.YtfpjkeddcagfcaaBaf
import Derived.Test.YtfpjkeddcagfcaaBaj
import Derived.Test.YtfpjkeddcagfcaaBak
import Derived.Test.YtfpjkeddcagfcaaBam
namespace Go.Proofs.Ytfpjkeddcagfcaa
open Go.RowKit Go.Sort Go.Shelf

/-- merging is right where less than n elements are merged -/
def MergeOk (w0 : World) (blk cap : Nat) (d0 : Array Hd) (n : Nat) : Prop := ∀ (W : World) (dk : Array Hd) (P X Y S : List Hd) (a m b : Nat), SWK Hd.cells 7 w0 blk 0 dk W → dk.size = d0.size → dk.toList = P ++ (X ++ (Y ++ S)) → SrtL ltS X → SrtL ltS Y → 0 < X.length → 0 < Y.length → X.length + Y.length < n → a = P.length → m = P.length + X.length → b = P.length + X.length + Y.length →
    Calls Try.prog 47 #[.slice (some ⟨blk, 0, none⟩) d0.size cap, .int .i64 a, .int .i64 m, .int .i64 b, .func (.func 38) #[] #[]] W fun e w' => MergedTo w0 blk d0 P X Y S e w'
theorem stb_mono {X1 X2 Y1 Y2 Z1 Z2 : List Hd} (hX : SrtL ltS (X1 ++ X2)) (hY : SrtL ltS (Y1 ++ Y2)) (h1 : ∀ x ∈ X2, ∀ y ∈ Y1, ltS y x = true) (h2 : ∀ x ∈ X1, ∀ y ∈ Y2, ltS y x = false) (g1 : Stb ltS (X1 ++ Y1) Z1) (g2 : Stb ltS (X2 ++ Y2) Z2) : Stb ltS ((X1 ++ X2) ++ (Y1 ++ Y2)) (Z1 ++ Z2) := merge_cut swoS hX hY h1 h2 g1 g2
set_option maxHeartbeats 8000000 in
set_option maxRecDepth 100000 in
theorem mergeMain {w0 W : World} {blk cap : Nat} {d0 dk : Array Hd} (R : RowK Hd.cells 7 w0 blk 0 d0) (hW : SWK Hd.cells 7 w0 blk 0 dk W) (hs : dk.size = d0.size) (hsz : d0.size < 2 ^ 20)
    (P X Y S : List Hd) (hd : dk.toList = P ++ (X ++ (Y ++ S))) (hX : SrtL ltS X) (hY : SrtL ltS Y) (h2 : 1 < X.length) (h3 : 1 < Y.length) (a m b : Nat) (ha : a = P.length) (hm : m = P.length + X.length) (hb : b = P.length + X.length + Y.length) (hI : MergeOk w0 blk cap d0 (X.length + Y.length)) :
    Calls Try.prog 47 #[.slice (some ⟨blk, 0, none⟩) d0.size cap, .int .i64 a, .int .i64 m, .int .i64 b, .func (.func 38) #[] #[]] W fun e w' => MergedTo w0 blk d0 P X Y S e w' := by
  have hsum : P.length + X.length + Y.length ≤ d0.size := by rw [← hs, ← Array.length_toList, hd]; simp; omega
  obtain ⟨lx, hlx⟩ : ∃ n, m - a = n := ⟨_, rfl⟩
  obtain ⟨ly, hly⟩ : ∃ n, b - m = n := ⟨_, rfl⟩
  obtain ⟨mid, hmid⟩ : ∃ n, (a + b) / 2 = n := ⟨_, rfl⟩
  obtain ⟨nn, hnn⟩ : ∃ n, mid + m = n := ⟨_, rfl⟩
  obtain ⟨pp, hpp⟩ : ∃ n, nn - 1 = n := ⟨_, rfl⟩
  have hma : (m : Int) - (a : Int) = (lx : Int) := by omega
  have hbm : (b : Int) - (m : Int) = (ly : Int) := by omega
  have hne1 : ((lx : Int) == 1) = false := by simp; omega
  have hne2 : ((ly : Int) == 1) = false := by simp; omega
  have hmidi : ((a : Int) + (b : Int)) / 2 = (mid : Int) := by omega
  have hnni : (mid : Int) + (m : Int) = (nn : Int) := by omega
  have hppi : (nn : Int) - 1 = (pp : Int) := by omega
  have hbb : b ≤ 1048576 := by omega
  have hmb : m ≤ 1048576 := by omega
  have hab : a ≤ 1048576 := by omega
  have hmidb : mid ≤ 1048576 := by omega
  have hnnb : nn ≤ 2097152 := by omega
  have hppb : pp ≤ 2097152 := by omega
  have hlxb : lx ≤ 1048576 := by omega
  have hlyb : ly ≤ 1048576 := by omega
  obtain ⟨s0, r0, hsr⟩ : ∃ s0 r0 : Nat, (mid < m ∧ s0 = nn - b ∧ r0 = mid) ∨ (¬ mid < m ∧ s0 = a ∧ r0 = m) := by
    by_cases h : mid < m
    · exact ⟨_, _, .inl ⟨h, rfl, rfl⟩⟩
    · exact ⟨_, _, .inr ⟨h, rfl, rfl⟩⟩
  have HR := Lib.hid R
  have HWW := Lib.hid hW
  have HC := Lib.hid (show dk.size = d0.size ∧ dk.toList = P ++ (X ++ (Y ++ S)) ∧ SrtL ltS X ∧ SrtL ltS Y from ⟨hs, hd, hX, hY⟩)
  have HN := Lib.hid (show a = P.length ∧ m = P.length + X.length ∧ b = P.length + X.length + Y.length ∧ b ≤ d0.size ∧ a + 2 ≤ m ∧ m + 2 ≤ b ∧ 2 * mid ≤ a + b ∧ a + b ≤ 2 * mid + 1 ∧ nn = mid + m ∧ pp + 1 = nn from by omega)
  have HSR := Lib.hid hsr
  have HI := Lib.hid hI
  have HB := Lib.hid (show s0 ≤ r0 ∧ r0 ≤ m ∧ a ≤ s0 ∧ nn ≤ b + s0 from by omega)
  have hs0b : s0 ≤ 1048576 := by omega
  have hr0b : r0 ≤ 1048576 := by omega
  have mixed : Try.prog.follows .mixedOrders = true := by kernel_rfl
  clear R hW hs hd hX hY ha hm hb hsum hlx hly hmid hnn hpp hI hsr h2 h3
  go_enter Try.func47, Try.ntmps47
  go_upto_if 140 with fail
  go_cut [20, 21] from 138 (fun v20 v21 wx => v20 = .int .i64 s0 ∧ v21 = .int .i64 r0 ∧ wx = W)
  case first =>
    rcases HSR.out with ⟨h1, h2, h3⟩ | ⟨h1, h2, h3⟩
    · have h1i : (mid : Int) < (m : Int) := by omega
      have h2i : (nn : Int) - (b : Int) = (s0 : Int) := by have := HN.out; omega
      subst h3
      clear h2
      go_wp2_with fail
      go_meet
      case rel => exact ⟨by go_num, rfl, rfl⟩
    · have h1i : ¬ (mid : Int) < (m : Int) := by omega
      subst h2 h3
      go_wp2_with fail
      go_meet
      case rel => exact ⟨rfl, rfl, rfl⟩
  case rest =>
    obtain ⟨rfl, rfl, rfl⟩ := hcut
    clear hma hbm hne1 hne2 hmidi hnni
    go_wp2_with fail
    go_loopg [20, 21] (r0 - s0) (fun g v20 v21 wr => ∃ (s r : Nat), v20 = .int .i64 s ∧ v21 = .int .i64 r ∧ s0 ≤ s ∧ s ≤ r ∧ r ≤ r0 ∧ r - s ≤ g ∧ Hid (SWK Hd.cells 7 w0 blk 0 dk wr) ∧ Hid ((s = s0 ∨ ltS dk[nn - s]! dk[s - 1]! = false) ∧ (r = r0 ∨ ltS dk[nn - 1 - r]! dk[r]! = true)))
    case atStart => exact ⟨s0, r0, rfl, rfl, Nat.le_refl _, HB.out.1, Nat.le_refl _, Nat.le_refl _, HWW, Lib.hid ⟨.inl rfl, .inl rfl⟩⟩
    case round =>
      obtain ⟨s, r, rfl, rfl, hs0, hsr, hr0, hg, HW, HJ⟩ := hrel
      clear hppi
      by_cases hlt : s < r
      · have hlti : (s : Int) < (r : Int) := by omega
        obtain ⟨c, hh⟩ : ∃ h, (s + r) / 2 = h := ⟨_, rfl⟩
        have hdiv : ((s : Int) + (r : Int)) / 2 = (c : Int) := by omega
        have hsc : s ≤ c := by omega
        have hcr : c < r := by omega
        obtain ⟨pc, hpc⟩ : ∃ k, pp - c = k := ⟨_, rfl⟩
        have hHN := HN.out
        have hHB := HB.out
        have hpci : (pp : Int) - (c : Int) = (pc : Int) := by omega
        have hpcb : pc ≤ 2097152 := by omega
        have hpcw : IntKind.i64.wrap (pc : Int) = (pc : Int) := by rw [IntKind.wrap_i64]; omega
        have hcd : c < dk.size := by have := HC.out.1; omega
        have hpd : pc < dk.size := by have := HC.out.1; omega
        have hci : (c : Int) < (d0.size : Int) := by omega
        have hpi : (pc : Int) < (d0.size : Int) := by have := HC.out.1; omega
        obtain ⟨y, hy⟩ : ∃ y, dk[pc]! = y := ⟨_, rfl⟩
        obtain ⟨x, hx⟩ : ∃ x, dk[c]! = x := ⟨_, rfl⟩
        obtain ⟨x0, x1, x2, x3, x4, x5, x6⟩ := swk_gd HW.out HR.out HC.out.1 c hcd hx
        obtain ⟨y0, y1, y2, y3, y4, y5, y6⟩ := swk_gd HW.out HR.out HC.out.1 pc hpd hy
        have hc := fun n os => newCmp_any y x (grow (wr.drewN n) os)
        have HG := Lib.hid (fun n os => HW.out.grown n os)
        have Hxy := Lib.hid (show dk[nn - (c + 1)]! = y ∧ dk[c]! = x ∧ nn - 1 - c = nn - (c + 1) from ⟨by rw [← hy]; congr 1; omega, hx, by omega⟩)
        have hl := cmpS_lt y x
        obtain ⟨cv, hcv⟩ : ∃ c, cmpS y x = c := ⟨_, rfl⟩
        rw [hcv] at hc hl
        have HL := Lib.hid hl
        clear hh hcd hpd hy hx hcv hl hpc hHN hHB
        by_cases hneg : cv < 0
        · have HB2 := Lib.hid (show ltS y x = true by rw [← HL.out]; exact decide_eq_true hneg)
          go_wp2_with fail
          go_quiet_grown (first | (go_at_call 38; refine Calls.grown_of (hc _ _)))
          go_wp2
          go_roundg (c - s)
          case measure => omega
          case rel => exact ⟨s, c, rfl, by go_num, hs0, hsc, by omega, Nat.le_refl _, Lib.hid (HG.out _ _), Lib.hid ⟨HJ.out.1, .inr (by rw [Hxy.out.2.2, Hxy.out.1, Hxy.out.2.1]; exact HB2.out)⟩⟩
        · have HB2 := Lib.hid (show ltS y x = false by rw [← HL.out]; exact decide_eq_false hneg)
          have hnb : decide (cv < 0) = false := decide_eq_false hneg
          have hnb2 : 0 ≤ cv := by omega
          go_wp2_with fail
          go_quiet_grown (first | (go_at_call 38; refine Calls.grown_of (hc _ _)))
          go_wp2
          go_roundg (r - (c + 1))
          case measure => omega
          case rel => exact ⟨c + 1, r, by go_num, rfl, by omega, by omega, hr0, Nat.le_refl _, Lib.hid (HG.out _ _), Lib.hid ⟨.inr (by rw [Nat.add_sub_cancel, Hxy.out.1, Hxy.out.2.1]; exact HB2.out), HJ.out.2⟩⟩
      · obtain rfl : s = r := by omega
        obtain ⟨en, hen⟩ : ∃ k, nn - s = k := ⟨_, rfl⟩
        have heni : (nn : Int) - (s : Int) = (en : Int) := by have := HN.out; have := HB.out; omega
        have hcut2 : ∃ X1 X2 Y1 Y2, X = X1 ++ X2 ∧ Y = Y1 ++ Y2 ∧ X1.length = s - a ∧ Y1.length = en - m ∧ (∀ x ∈ X2, ∀ y ∈ Y1, ltS y x = true) ∧ (∀ x ∈ X1, ∀ y ∈ Y2, ltS y x = false) ∧ a ≤ s ∧ s ≤ m ∧ m ≤ en ∧ en ≤ b := by
          obtain ⟨n1, n2, n3, n4, n5, n6, n7, n8, n9, n10⟩ := HN.out
          obtain ⟨b1, b2, b3, b4⟩ := HB.out
          obtain ⟨c1, c2, c3, c4⟩ := HC.out
          have hsr := HSR.out
          have hd2 : dk.toList = P ++ X ++ Y ++ S := by rw [c2]; simp
          have q1 : a ≤ s := by omega
          have q2 : s ≤ m := by omega
          have q3 : m ≤ en := by omega
          have q4 : en ≤ b := by omega
          have := search_cut swoS (P := P) (S := S) (st := s) (en := en) c3 c4 (by omega) (by omega) (by omega) (by omega) (by
            rcases HJ.out.1 with e | e
            · rcases hsr with ⟨g1, g2, g3⟩ | ⟨g1, g2, g3⟩
              · exact .inr (.inl (by omega))
              · exact .inl (by omega)
            · by_cases h1 : s = P.length
              · exact .inl h1
              · by_cases h2 : en = P.length + X.length + Y.length
                · exact .inr (.inl h2)
                · exact .inr (.inr ⟨_, _, by rw [← hd2]; exact arr_some (by omega) rfl, by rw [← hd2, ← hen]; exact arr_some (by omega) rfl, e⟩)) (by
            rcases HJ.out.2 with e | e
            · rcases hsr with ⟨g1, g2, g3⟩ | ⟨g1, g2, g3⟩
              · exact .inr (.inl (by omega))
              · exact .inl (by omega)
            · by_cases h1 : s = P.length + X.length
              · exact .inl h1
              · by_cases h2 : en = P.length + X.length
                · exact .inr (.inl h2)
                · exact .inr (.inr ⟨_, _, by rw [← hd2]; exact arr_some (by omega) rfl, by rw [← hd2, show en - 1 = nn - 1 - s by omega]; exact arr_some (by omega) rfl, e⟩))
          obtain ⟨X1, X2, Y1, Y2, e1, e2, e3, e4, e5, e6⟩ := this
          exact ⟨X1, X2, Y1, Y2, e1, e2, by omega, by omega, e5, e6, q1, q2, q3, q4⟩
        obtain ⟨X1, X2, Y1, Y2, rfl, rfl, hX1, hY1, hc1, hc2, q1, q2, q3, q4⟩ := hcut2
        have HM := Lib.hid (fun Z1 Z2 => stb_mono (Z1 := Z1) (Z2 := Z2) HC.out.2.2.1 HC.out.2.2.2 hc1 hc2)
        have HSx := Lib.hid (show SrtL ltS X1 ∧ SrtL ltS X2 ∧ SrtL ltS Y1 ∧ SrtL ltS Y2 from ⟨HC.out.2.2.1.left, HC.out.2.2.1.right, HC.out.2.2.2.left, HC.out.2.2.2.right⟩)
        have HLn := Lib.hid (show X1.length = s - a ∧ X2.length = m - s ∧ Y1.length = en - m ∧ Y2.length = b - en ∧ P.length = a ∧ mid - a = X1.length + Y1.length ∧ a ≤ mid ∧ mid ≤ en ∧ a ≤ s ∧ s ≤ m ∧ m ≤ en ∧ en ≤ b ∧ en + s = mid + m ∧ a + 2 ≤ m ∧ m + 2 ≤ b ∧ b ≤ 1048576 from by
          obtain ⟨n1, n2, n3, n4, n5, n6, n7, n8, n9, n10⟩ := HN.out
          rw [List.length_append] at n2 n3
          rw [List.length_append] at n3
          omega)
        have hlti : ¬ (s : Int) < (s : Int) := by omega
        have henb : en ≤ 1048576 := by omega
        have hsb : s ≤ 1048576 := by omega
        clear hX1 hY1 hc1 hc2 hen hg hlt
        obtain ⟨t1, ht1⟩ : ∃ t, (decide (s < m) && decide (m < en)) = t := ⟨_, rfl⟩
        obtain ⟨t2, ht2⟩ : ∃ t, (decide (a < s) && decide (s < mid)) = t := ⟨_, rfl⟩
        obtain ⟨t3, ht3⟩ : ∃ t, (decide (mid < en) && decide (en < b)) = t := ⟨_, rfl⟩
        have HT1 := Lib.hid ht1
        have HT2 := Lib.hid ht2
        have HT3 := Lib.hid ht3
        clear ht1 ht2 ht3
        go_upto_region 39 with fail
        go_cut [185] from 178 (fun v wx => v = .bool t1 ∧ wx = wr)
        case first =>
          have ht := HT1.out
          by_cases h1 : s < m
          · have h1i : (s : Int) < (m : Int) := by omega
            by_cases h2 : m < en
            · have h2i : (m : Int) < (en : Int) := by omega
              have h3 : t1 = true := by rw [← ht]; simp [h1, h2]
              subst h3
              clear ht h1 h2
              go_wp2_with fail
              go_meet
              case rel => exact ⟨rfl, rfl⟩
            · have h2i : ¬ (m : Int) < (en : Int) := by omega
              have h3 : t1 = false := by rw [← ht]; simp [h2]
              subst h3
              clear ht h1 h2
              go_wp2_with fail
              go_meet
              case rel => exact ⟨rfl, rfl⟩
          · have h1i : ¬ (s : Int) < (m : Int) := by omega
            have h3 : t1 = false := by rw [← ht]; simp [h1]
            subst h3
            clear ht h1
            go_wp2_with fail
            go_meet
            case rel => exact ⟨rfl, rfl⟩
        case rest =>
        obtain ⟨rfl, rfl⟩ := hcut
        clear hlti
        go_upto_if 185 with fail
        go_cut [24] from 178 (fun v24 wx => v24 = .int .i64 en ∧ ∃ d1 : Array Hd, Hid (SWK Hd.cells 7 w0 blk 0 d1 wx ∧ d1.size = d0.size ∧ d1.toList = P ++ ((X1 ++ Y1) ++ ((X2 ++ Y2) ++ S))))
        case first =>
          cases t1 with
          | true =>
            have h1 := HT1.out
            simp only [Bool.and_eq_true, decide_eq_true_eq] at h1
            have HRt := Lib.hid (rotate_any (cap := cap) HR.out HW.out HC.out.1 hsz (P ++ X1) X2 Y1 (Y2 ++ S) (by rw [HC.out.2.1]; simp) (by have := HLn.out; omega) (by have := HLn.out; omega) s m en (by have := HLn.out; simp; omega) (by have := HLn.out; simp; omega) (by have := HLn.out; simp; omega) (.func (.func 38) #[] #[]))
            clear h1
            go_wp2_with (go_at_call 49; (with_reducible refine Calls.mono HRt.out ?_); rintro r w5 ⟨rfl, d5, hW5, hs5, hd5⟩; have H5 := Lib.hid (show _ ∧ _ ∧ _ from ⟨hW5, hs5, hd5⟩); clear hW5 hs5 hd5)
            go_meet
            case rel => exact ⟨by go_num, d5, Lib.hid ⟨H5.out.1, H5.out.2.1, by rw [H5.out.2.2]; simp⟩⟩
          | false =>
            have hd1 : X2 = [] ∨ Y1 = [] := by
              have h1 := HT1.out
              have h2 := HLn.out
              simp only [Bool.and_eq_false_iff, decide_eq_false_iff_not] at h1
              rcases h1 with h1 | h1
              · exact .inl (List.eq_nil_of_length_eq_zero (by omega))
              · exact .inr (List.eq_nil_of_length_eq_zero (by omega))
            go_wp2_with fail
            go_meet
            case rel => exact ⟨by go_num, dk, Lib.hid ⟨HW.out, HC.out.1, by rw [HC.out.2.1]; rcases hd1 with rfl | rfl <;> simp⟩⟩
        case rest =>
        obtain ⟨rfl, d1, HD⟩ := hcut
        go_upto_region 41 with fail
        go_cut [199] from 192 (fun v wx => v = .bool t2 ∧ wx = wc)
        case first =>
          have ht := HT2.out
          by_cases h1 : a < s
          · have h1i : (a : Int) < (s : Int) := by omega
            by_cases h2 : s < mid
            · have h2i : (s : Int) < (mid : Int) := by omega
              have h3 : t2 = true := by rw [← ht]; simp [h1, h2]
              subst h3
              clear ht h1 h2
              go_wp2_with fail
              go_meet
              case rel => exact ⟨rfl, rfl⟩
            · have h2i : ¬ (s : Int) < (mid : Int) := by omega
              have h3 : t2 = false := by rw [← ht]; simp [h2]
              subst h3
              clear ht h1 h2
              go_wp2_with fail
              go_meet
              case rel => exact ⟨rfl, rfl⟩
          · have h1i : ¬ (a : Int) < (s : Int) := by omega
            have h3 : t2 = false := by rw [← ht]; simp [h1]
            subst h3
            clear ht h1
            go_wp2_with fail
            go_meet
            case rel => exact ⟨rfl, rfl⟩
        case rest =>
        obtain ⟨rfl, rfl⟩ := hcut
        go_upto_if 199 with fail
        go_cut [24] from 192 (fun v24 wx => v24 = .int .i64 en ∧ ∃ (d2 : Array Hd) (Z1 : List Hd), Hid (SWK Hd.cells 7 w0 blk 0 d2 wx ∧ d2.size = d0.size ∧ d2.toList = P ++ (Z1 ++ ((X2 ++ Y2) ++ S)) ∧ Stb ltS (X1 ++ Y1) Z1))
        case first =>
          cases t2 with
          | true =>
            have h1 := HT2.out
            simp only [Bool.and_eq_true, decide_eq_true_eq] at h1
            have HRt := Lib.hid (HI.out _ d1 P X1 Y1 ((X2 ++ Y2) ++ S) a s mid HD.out.1 HD.out.2.1 (by rw [HD.out.2.2]; simp) HSx.out.1 HSx.out.2.2.1 (by have := HLn.out; omega) (by have := HLn.out; omega) (by have := HLn.out; obtain ⟨n1, n2, n3, n4, n5, n6, n7, n8, n9, n10⟩ := HN.out; rw [List.length_append, List.length_append]; omega) (by have := HLn.out; omega) (by have := HLn.out; omega) (by have := HLn.out; omega))
            clear h1
            go_wp2_with (go_at_call 47; (with_reducible refine Calls.mono HRt.out ?_); rintro r w5 ⟨rfl, d5, Z1, hW5, hs5, hd5, hz5⟩; have H5 := Lib.hid (show _ ∧ _ ∧ _ ∧ _ from ⟨hW5, hs5, hd5, hz5⟩); clear hW5 hs5 hd5 hz5)
            go_meet
            case rel => exact ⟨rfl, d5, Z1, H5⟩
          | false =>
            have hd1 : X1 = [] ∨ Y1 = [] := by
              have h1 := HT2.out
              have h2 := HLn.out
              simp only [Bool.and_eq_false_iff, decide_eq_false_iff_not] at h1
              rcases h1 with h1 | h1
              · exact .inl (List.eq_nil_of_length_eq_zero (by omega))
              · exact .inr (List.eq_nil_of_length_eq_zero (by omega))
            go_wp2_with fail
            go_meet
            case rel =>
              refine ⟨rfl, d1, X1 ++ Y1, Lib.hid ⟨HD.out.1, HD.out.2.1, HD.out.2.2, Stb.refl ?_⟩⟩
              rcases hd1 with rfl | rfl
              · simpa using HSx.out.2.2.1
              · simpa using HSx.out.1
        case rest =>
        obtain ⟨rfl, d2, Z1, HE⟩ := hcut
        have hZ1 : Z1.length = X1.length + Y1.length := by have := HE.out.2.2.2.len; rw [List.length_append] at this; omega
        have HZ1 := Lib.hid hZ1
        clear hZ1
        go_upto_region 43 with fail
        go_cut [213] from 206 (fun v wx => v = .bool t3 ∧ wx = wc)
        case first =>
          have ht := HT3.out
          by_cases h1 : mid < en
          · have h1i : (mid : Int) < (en : Int) := by omega
            by_cases h2 : en < b
            · have h2i : (en : Int) < (b : Int) := by omega
              have h3 : t3 = true := by rw [← ht]; simp [h1, h2]
              subst h3
              clear ht h1 h2
              go_wp2_with fail
              go_meet
              case rel => exact ⟨rfl, rfl⟩
            · have h2i : ¬ (en : Int) < (b : Int) := by omega
              have h3 : t3 = false := by rw [← ht]; simp [h2]
              subst h3
              clear ht h1 h2
              go_wp2_with fail
              go_meet
              case rel => exact ⟨rfl, rfl⟩
          · have h1i : ¬ (mid : Int) < (en : Int) := by omega
            have h3 : t3 = false := by rw [← ht]; simp [h1]
            subst h3
            clear ht h1
            go_wp2_with fail
            go_meet
            case rel => exact ⟨rfl, rfl⟩
        case rest =>
        obtain ⟨rfl, rfl⟩ := hcut
        cases t3 with
        | true =>
          have h1 := HT3.out
          simp only [Bool.and_eq_true, decide_eq_true_eq] at h1
          have HRt := Lib.hid (HI.out _ d2 (P ++ Z1) X2 Y2 S mid en b HE.out.1 HE.out.2.1 (by rw [HE.out.2.2.1]; simp) HSx.out.2.1 HSx.out.2.2.2 (by have := HLn.out; omega) (by have := HLn.out; omega) (by have := HLn.out; obtain ⟨n1, n2, n3, n4, n5, n6, n7, n8, n9, n10⟩ := HN.out; rw [List.length_append, List.length_append]; omega) (by have := HLn.out; have := HZ1.out; simp; omega) (by have := HLn.out; have := HZ1.out; simp; omega) (by have := HLn.out; have := HZ1.out; simp; omega))
          clear h1
          go_wp2_with (go_at_call 47; (with_reducible refine Calls.mono HRt.out ?_); rintro r w5 ⟨rfl, d5, Z2, hW5, hs5, hd5, hz5⟩; have H5 := Lib.hid (show _ ∧ _ ∧ _ ∧ _ from ⟨hW5, hs5, hd5, hz5⟩); clear hW5 hs5 hd5 hz5)
          go_end0
          exact ⟨rfl, d5, Z1 ++ Z2, H5.out.1, H5.out.2.1, by rw [H5.out.2.2.1]; simp, HM.out _ _ HE.out.2.2.2 H5.out.2.2.2⟩
        | false =>
          have hd1 : X2 = [] ∨ Y2 = [] := by
            have h1 := HT3.out
            have h2 := HLn.out
            simp only [Bool.and_eq_false_iff, decide_eq_false_iff_not] at h1
            rcases h1 with h1 | h1
            · exact .inl (List.eq_nil_of_length_eq_zero (by omega))
            · exact .inr (List.eq_nil_of_length_eq_zero (by omega))
          go_wp2
          go_end0
          refine ⟨rfl, d2, Z1 ++ (X2 ++ Y2), HE.out.1, HE.out.2.1, by rw [HE.out.2.2.1]; simp, HM.out _ _ HE.out.2.2.2 (Stb.refl ?_)⟩
          rcases hd1 with rfl | rfl
          · simpa using HSx.out.2.2.2
          · simpa using HSx.out.2.1
theorem merge_ok {w0 : World} {blk cap : Nat} {d0 : Array Hd} (R : RowK Hd.cells 7 w0 blk 0 d0) (hsz : d0.size < 2 ^ 20) : ∀ n, MergeOk w0 blk cap d0 n
  | 0 => fun W dk P X Y S a m b _ _ _ _ _ _ _ h => absurd h (by omega)
  | n + 1 => fun W dk P X Y S a m b hW hs hd hX hY h0 h1 hl ha hm hb => by
    by_cases hx : X.length = 1
    · obtain ⟨x, rfl⟩ := List.length_eq_one_iff.1 hx
      exact mergeFirst R hW hs hsz P Y S x (by rw [hd]; simp) hY a m b ha (by rw [hm, hx]) (by rw [hb, hx])
    · by_cases hy : Y.length = 1
      · obtain ⟨y, rfl⟩ := List.length_eq_one_iff.1 hy
        exact mergeLast R hW hs hsz P X S y (by rw [hd]; simp) hX (by omega) a m b ha hm (by rw [hb, hy])
      · refine mergeMain R hW hs hsz P X Y S hd hX hY (by omega) (by omega) a m b ha hm hb ?_
        intro W dk P' X' Y' S' a' m' b' g1 g2 g3 g4 g5 g6 g7 g8
        exact merge_ok R hsz n W dk P' X' Y' S' a' m' b' g1 g2 g3 g4 g5 g6 g7 (by omega)

end Go.Proofs.Ytfpjkeddcagfcaa

/-
  The library's slices.insertionSortCmpFunc, laid at this program: written by lay-plain.mjs of the kit.
-/
namespace Go.Proofs
open Go.Shelf
def Try.insHead_ren : Go.Shelf.Ren := ⟨fun | 20 => 46 | n => n, fun | 24 => 56 | 22 => 31 | 3 => 3 | 25 => 82 | 4 => 4 | 0 => 0 | n => n, fun | n => n⟩
theorem Try.insHead : Go.Proofs.SlLaysF0.n20 Try.prog Try.insHead_ren := {
  mixed := by kernel_rfl
  f20 := ⟨Try.f46.name, by decide, Try.func46.trans (congrArg some (by kernel_rfl))⟩
  t0 := Try.underlying0
  a0 := Try.isAgg0
  z0 := Try.sizeOf0
  v0 := Try.zeroValue0
  t3 := Try.underlying3
  a3 := Try.isAgg3
  z3 := Try.sizeOf3
  v3 := Try.zeroValue3
  t4 := Try.underlying4
  a4 := Try.isAgg4
  z4 := Try.sizeOf4
  v4 := Try.zeroValue4
  t22 := Try.underlying31
  a22 := Try.isAgg31
  z22 := Try.sizeOf31
  v22 := Try.zeroValue31
  t25 := Try.underlying82
  a25 := Try.isAgg82
  z25 := Try.sizeOf82
  v25 := Try.zeroValue82 }
end Go.Proofs

/-
  slices.stableCmpFunc and slices.SortStableFunc at heads: a row is sorted stably, whatever its length.
-/
namespace Go.Proofs.Ytfpjkeddcagfcaa
open Go.RowKit Go.Sort Go.Shelf

def fvS : Value := .func (.func 38) #[] #[]
theorem cmp_lays (blk off size : Nat) (w : World) : CmpLays Try.prog 38 #[] Hd.cells 7 cmpS blk off size w := fun _m _os _dk _ x y => newCmp_any x y _
set_option maxRecDepth 100000 in
theorem insHead_any {w0 W : World} {blk cap : Nat} {d0 dk : Array Hd} (R : RowK Hd.cells 7 w0 blk 0 d0) (hW : SWK Hd.cells 7 w0 blk 0 dk W) (hs : dk.size = d0.size) (hsz : d0.size < 2 ^ 20)
    (P X S : List Hd) (hd : dk.toList = P ++ (X ++ S)) (a b : Nat) (ha : a = P.length) (hb : b = P.length + X.length) :
    Calls Try.prog 46 #[.slice (some ⟨blk, 0, none⟩) d0.size cap, .int .i64 a, .int .i64 b, .func (.func 38) #[] #[]] W fun e w' =>
      e = .returned (.tuple #[]) ∧ ∃ d' Z, SWK Hd.cells 7 w0 blk 0 d' w' ∧ d'.size = d0.size ∧ d'.toList = P ++ (Z ++ S) ∧ Stb ltS X Z := by
  have hsum : P.length + X.length ≤ dk.size := by rw [← Array.length_toList, hd]; simp
  have h := AnyQ.insertionSortCmpFunc Try.insHead 7 Try.isAgg56 Try.sizeOf56 Hd.cells hdC_len hdC_one cmpS 38 #[] blk 0 cap a b dk W call_newCmp (cmp_lays _ _ _ _) (hW.holds R.hblk R.hH hs) (hW.lt R.hblk) (by omega) (by omega) (by omega)
  rw [hs] at h
  refine Calls.mono h ?_
  rintro e w' ⟨rfl, n, os, rfl⟩
  obtain ⟨M, hM, hst⟩ := insertionSort_stb (lt := ltS) swoS hd ha hb
  rw [ltOf_S]
  have hsz2 : (Sort.insertionSort ltS dk a b).size = dk.size := by
    rw [← Array.length_toList, ← Array.length_toList, hM, hd]
    have := hst.len
    simp
    omega
  exact ⟨rfl, _, M, hW.on R.hblk n _ os hsz2, hsz2.trans hs, hM, hst⟩
set_option maxHeartbeats 8000000 in
set_option maxRecDepth 100000 in
theorem stable_any {w0 W : World} {blk cap : Nat} {d0 dk : Array Hd} (R : RowK Hd.cells 7 w0 blk 0 d0) (hW : SWK Hd.cells 7 w0 blk 0 dk W) (hs : dk.size = d0.size) (hsz : d0.size < 2 ^ 20) (n : Nat) (hn : n = d0.size) :
    Calls Try.prog 43 #[.slice (some ⟨blk, 0, none⟩) d0.size cap, .int .i64 n, .func (.func 38) #[] #[]] W fun e w' =>
      e = .returned (.tuple #[]) ∧ ∃ d', SWK Hd.cells 7 w0 blk 0 d' w' ∧ d'.size = d0.size ∧ Stb ltS dk.toList d'.toList := by
  obtain ⟨L0, hL0⟩ : ∃ L, dk.toList = L := ⟨_, rfl⟩
  have hLn : L0.length = n := by rw [← hL0, Array.length_toList]; omega
  rw [hL0]
  have HR := Lib.hid R
  have HWW := Lib.hid hW
  have HS := Lib.hid hs
  have HL0 := Lib.hid hL0
  have HN := Lib.hid (show n = d0.size ∧ L0.length = n from ⟨hn, hLn⟩)
  have HMg := Lib.hid (merge_ok (cap := cap) R hsz)
  have hnb : n < 1048576 := by omega
  clear R hW hs hn hL0 hLn
  go_enter Try.func43, Try.ntmps43
  go_wp2
  go_loopg [7, 8] n (fun g v7 v8 wr => ∃ (a bq : Nat) (dj : Array Hd) (A A' B : List Hd), v7 = .int .i64 a ∧ v8 = .int .i64 bq ∧ Hid (bq = a + 20) ∧ a ≤ n ∧ n ≤ g + a ∧ Hid (SWK Hd.cells 7 w0 blk 0 dj wr ∧ dj.size = d0.size ∧ L0 = A ++ B ∧ dj.toList = A' ++ B ∧ FullB ltS 20 A A' ∧ A.length = a))
  case atStart => exact ⟨0, 20, dk, [], [], L0, rfl, rfl, Lib.hid rfl, by omega, by omega, Lib.hid ⟨HWW.out, HS.out, rfl, by rw [HL0.out]; rfl, .nil, rfl⟩⟩
  case round =>
    obtain ⟨a, bq, dj, A, A', B, rfl, rfl, HBQ, han, hg, HJ⟩ := hrel
    have hlA : A.length = A'.length := HJ.out.2.2.2.2.1.len
    have HlA := Lib.hid hlA
    clear hlA
    by_cases hle : bq ≤ n
    · have hlei : (bq : Int) ≤ (n : Int) := by omega
      obtain ⟨X, B2, rfl, hX⟩ := cut_at B 20 (by have h0 := HBQ.out; have h1 := congrArg List.length HJ.out.2.2.1; rw [List.length_append] at h1; have := HJ.out.2.2.2.2.2; have := HN.out.2; omega)
      have HX := Lib.hid hX
      have HI := Lib.hid (insHead_any (cap := cap) HR.out HJ.out.1 HJ.out.2.1 hsz A' X B2 HJ.out.2.2.2.1 a bq (by have := HJ.out.2.2.2.2.2; have := HlA.out; have := HBQ.out; omega) (by have := HJ.out.2.2.2.2.2; have := HlA.out; have := HBQ.out; omega))
      have hbb : bq ≤ 1048576 := by omega
      clear hX
      go_wp2_with (go_at_call 46; (with_reducible refine Calls.mono HI.out ?_); rintro r w5 ⟨rfl, d5, Z, hW5, hs5, hd5, hz5⟩; have H5 := Lib.hid (show _ ∧ _ ∧ _ ∧ _ from ⟨hW5, hs5, hd5, hz5⟩); clear hW5 hs5 hd5 hz5)
      go_roundg (n - bq)
      case measure => have := HBQ.out; omega
      case rel =>
        have h0 := HBQ.out
        obtain ⟨q1, q2, q3, q4⟩ := H5.out
        obtain ⟨j1, j2, j3, j4, j5, j6⟩ := HJ.out
        exact ⟨bq, bq + 20, d5, A ++ X, A' ++ Z, B2, by go_num, by go_num, Lib.hid rfl, hle, by omega, Lib.hid ⟨q1, q2, by rw [j3]; simp, by rw [q3]; simp, .snoc j5 HX.out q4, by rw [List.length_append, j6, HX.out]; exact HBQ.out.symm⟩⟩
    · have hlei : ¬ (bq : Int) ≤ (n : Int) := by omega
      have HI := Lib.hid (insHead_any (cap := cap) HR.out HJ.out.1 HJ.out.2.1 hsz A' B [] (by rw [HJ.out.2.2.2.1]; simp) a n (by have := HJ.out.2.2.2.2.2; have := HlA.out; have := HBQ.out; omega) (by have h0 := HBQ.out; have h1 := congrArg List.length HJ.out.2.2.1; rw [List.length_append] at h1; have := HJ.out.2.2.2.2.2; have := HlA.out; have := HN.out.2; omega))
      have HB := Lib.hid (show B.length ≤ 20 from by have h0 := HBQ.out; have h1 := congrArg List.length HJ.out.2.2.1; rw [List.length_append] at h1; have := HJ.out.2.2.2.2.2; have := HN.out.2; omega)
      clear hg
      go_wp2_with (go_at_call 46; (with_reducible refine Calls.mono HI.out ?_); rintro r w5 ⟨rfl, d5, Z, hW5, hs5, hd5, hz5⟩; have H5 := Lib.hid (show SWK Hd.cells 7 w0 blk 0 d5 w5 ∧ d5.size = d0.size ∧ BlkStb ltS 20 L0 d5.toList from ⟨hW5, hs5, by rw [hd5, HJ.out.2.2.1, List.append_nil]; exact HJ.out.2.2.2.2.1.app (.last HB.out hz5)⟩); clear hW5 hs5 hd5 hz5)
      go_loopg [6, 7, 8, 9] n (fun g v6 v7 v8 v9 wr => ∃ (bs : Nat) (dj : Array Hd), v6 = .int .i64 bs ∧ 20 ≤ bs ∧ bs ≤ 2097152 ∧ n ≤ g + bs ∧ Hid (SWK Hd.cells 7 w0 blk 0 dj wr ∧ dj.size = d0.size ∧ BlkStb ltS bs L0 dj.toList))
      case atStart => exact ⟨20, d5, rfl, by omega, by omega, by omega, H5⟩
      case round =>
        obtain ⟨bs, d1, rfl, h20, hbsb, hg, HK⟩ := hrel
        have HGo := Lib.hid hg
        clear H5 HJ HI HB HlA HBQ hle hlei han
        by_cases hlt : bs < n
        · have hlti : (bs : Int) < (n : Int) := by omega
          obtain ⟨b2, hb2⟩ : ∃ k, 2 * bs = k := ⟨_, rfl⟩
          have hb2i : (2 : Int) * (bs : Int) = (b2 : Int) := by omega
          have hb2j : (bs : Int) * (2 : Int) = (b2 : Int) := by omega
          have hb2b : b2 ≤ 2097152 := by omega
          obtain ⟨wo, hwo⟩ : ∃ wo : World, wo = wr := ⟨_, rfl⟩
          go_wp2
          go_loopg [7, 8] n (fun g v7 v8 wx => ∃ (a bq : Nat) (dj : Array Hd) (A A' B B' : List Hd), v7 = .int .i64 a ∧ v8 = .int .i64 bq ∧ Hid (bq = a + b2) ∧ a ≤ n ∧ n ≤ g + a ∧ Hid (SWK Hd.cells 7 w0 blk 0 dj wx ∧ dj.size = d0.size ∧ L0 = A ++ B ∧ dj.toList = A' ++ B' ∧ FullB ltS b2 A A' ∧ A.length = a ∧ BlkStb ltS bs B B'))
          case atStart => exact ⟨0, b2, d1, [], [], L0, d1.toList, rfl, by go_num, Lib.hid (by omega), by omega, by omega, Lib.hid ⟨HK.out.1, HK.out.2.1, rfl, rfl, .nil, rfl, HK.out.2.2⟩⟩
          case round =>
            obtain ⟨a, bq, dj, A, A', B, B', rfl, rfl, HBQ, han, hg3, HJ⟩ := hrel
            clear hg
            have hlA : A.length = A'.length := HJ.out.2.2.2.2.1.len
            have hlB : A.length + B.length = n := by have h1 := congrArg List.length HJ.out.2.2.1; rw [List.length_append] at h1; have := HN.out.2; omega
            have HlA := Lib.hid (show A.length = A'.length ∧ A.length + B.length = n ∧ A.length = a ∧ B.length = B'.length from ⟨hlA, hlB, HJ.out.2.2.2.2.2.1, HJ.out.2.2.2.2.2.2.len⟩)
            clear hlA hlB
            by_cases hle : bq ≤ n
            · have hlei : (bq : Int) ≤ (n : Int) := by omega
              obtain ⟨mm, hmm⟩ : ∃ k, a + bs = k := ⟨_, rfl⟩
              have hmmi : (a : Int) + (bs : Int) = (mm : Int) := by omega
              have hmmb : mm ≤ 1048576 := by have := HBQ.out; omega
              have hbqb : bq ≤ 1048576 := by omega
              have HMM := Lib.hid hmm
              have hbk := HJ.out.2.2.2.2.2.2
              obtain ⟨X1, Z1, B1, B1', rfl, rfl, hX1, hs1, hk1⟩ := hbk.head (by have h0 := HBQ.out; have := HlA.out; omega)
              obtain ⟨X2, Z2, B2, B2', rfl, rfl, hX2, hs2, hk2⟩ := hk1.head (by have h0 := HBQ.out; have := HlA.out; rw [List.length_append] at this; omega)
              have HZ := Lib.hid (show X1.length = bs ∧ X2.length = bs ∧ Z1.length = bs ∧ Z2.length = bs ∧ Stb ltS X1 Z1 ∧ Stb ltS X2 Z2 ∧ BlkStb ltS bs B2 B2' from ⟨hX1, hX2, by rw [← hs1.len]; exact hX1, by rw [← hs2.len]; exact hX2, hs1, hs2, hk2⟩)
              have HI := Lib.hid (HMg.out (Z1.length + Z2.length + 1) wr dj A' Z1 Z2 B2' a mm bq HJ.out.1 HJ.out.2.1 HJ.out.2.2.2.1 hs1.srt hs2.srt (by have := HZ.out; omega) (by have := HZ.out; omega) (by omega) (by have := HlA.out; omega) (by have := HlA.out; have := HZ.out; omega) (by have h0 := HBQ.out; have := HlA.out; have := HZ.out; omega))
              clear hbk hX1 hs1 hk1 hX2 hs2 hk2 hmm
              go_wp2_with (go_at_call 47; (with_reducible refine Calls.mono HI.out ?_); rintro r w6 ⟨rfl, d5, Z, hW5, hs5, hd5, hz5⟩; have H5 := Lib.hid (show _ ∧ _ ∧ _ ∧ _ from ⟨hW5, hs5, hd5, hz5⟩); clear hW5 hs5 hd5 hz5)
              go_roundg (n - bq)
              case measure => have := HBQ.out; omega
              case rel =>
                have h0 := HBQ.out
                obtain ⟨q1, q2, q3, q4⟩ := H5.out
                obtain ⟨j1, j2, j3, j4, j5, j6, j7⟩ := HJ.out
                obtain ⟨z1, z2, z3, z4, z5, z6, z7⟩ := HZ.out
                exact ⟨bq, bq + b2, d5, A ++ (X1 ++ X2), A' ++ Z, B2, B2', by go_num, by go_num, Lib.hid rfl, hle, by omega, Lib.hid ⟨q1, q2, by rw [j3]; simp, by rw [q3]; simp, .snoc j5 (by rw [List.length_append]; omega) (z5.two z6 q4), by rw [List.length_append, List.length_append]; omega, z7⟩⟩
            · have hlei : ¬ (bq : Int) ≤ (n : Int) := by omega
              obtain ⟨mm, hmm⟩ : ∃ k, a + bs = k := ⟨_, rfl⟩
              have hmmi : (a : Int) + (bs : Int) = (mm : Int) := by omega
              have hmmb : mm ≤ 3145728 := by omega
              by_cases hmn : mm < n
              · have hmni : (mm : Int) < (n : Int) := by omega
                have hbk := HJ.out.2.2.2.2.2.2
                obtain ⟨X1, Z1, B1, B1', rfl, rfl, hX1, hs1, hk1⟩ := hbk.head (by have h0 := HBQ.out; have := HlA.out; omega)
                have hs2 := hk1.one (by have h0 := HBQ.out; have := HlA.out; rw [List.length_append] at this; omega)
                have HZ := Lib.hid (show X1.length = bs ∧ Z1.length = bs ∧ B1.length = B1'.length ∧ Stb ltS X1 Z1 ∧ Stb ltS B1 B1' from ⟨hX1, by rw [← hs1.len]; exact hX1, hs2.len, hs1, hs2⟩)
                have HI := Lib.hid (HMg.out (Z1.length + B1'.length + 1) wr dj A' Z1 B1' [] a mm n HJ.out.1 HJ.out.2.1 (by rw [HJ.out.2.2.2.1]; simp) hs1.srt hs2.srt (by have := HZ.out; omega) (by have h9 := HlA.out; have := HZ.out; rw [List.length_append] at h9; omega) (by omega) (by have := HlA.out; omega) (by have := HlA.out; have := HZ.out; omega) (by have h9 := HlA.out; have := HZ.out; rw [List.length_append] at h9; omega))
                clear hbk hX1 hs1 hk1 hs2 hmm
                go_wp2_with (go_at_call 47; (with_reducible refine Calls.mono HI.out ?_); rintro r w6 ⟨rfl, d5, Z, hW5, hs5, hd5, hz5⟩; have H5 := Lib.hid (show _ ∧ _ ∧ _ ∧ _ from ⟨hW5, hs5, hd5, hz5⟩); clear hW5 hs5 hd5 hz5)
                go_roundg (n - b2)
                case measure => have := HGo.out; omega
                case rel =>
                  have h0 := HBQ.out
                  have h8 := HGo.out
                  obtain ⟨q1, q2, q3, q4⟩ := H5.out
                  obtain ⟨j1, j2, j3, j4, j5, j6, j7⟩ := HJ.out
                  obtain ⟨z1, z2, z3, z4, z5⟩ := HZ.out
                  have hB : (X1 ++ B1).length ≤ b2 := by have := HlA.out; omega
                  exact ⟨b2, d5, by go_num, by omega, hb2b, by omega, Lib.hid ⟨q1, q2, by rw [q3, j3, List.append_nil]; exact j5.app (.last hB (z4.two z5 q4))⟩⟩
              · have hmni : ¬ (mm : Int) < (n : Int) := by omega
                clear hmm
                go_wp2
                go_roundg (n - b2)
                case measure => have := HGo.out; omega
                case rel =>
                  have h0 := HBQ.out
                  have h8 := HGo.out
                  obtain ⟨j1, j2, j3, j4, j5, j6, j7⟩ := HJ.out
                  have hB : B.length ≤ bs := by have := HlA.out; omega
                  exact ⟨b2, dj, by go_num, by omega, hb2b, by omega, Lib.hid ⟨j1, j2, by rw [j4, j3]; exact j5.app (.last (by omega) (j7.one hB))⟩⟩
        · have hlti : ¬ (bs : Int) < (n : Int) := by omega
          go_wp2
          go_end0
          exact ⟨rfl, d1, HK.out.1, HK.out.2.1, HK.out.2.2.one (by have := HN.out.2; omega)⟩

end Go.Proofs.Ytfpjkeddcagfcaa

/-
  Heads sorted stably by their keys, one put behind the other (plain).
-/
namespace Go.Proofs.Ytfpjkeddcagfcaa
open Go.Sort

def insS (x : Hd) : List Hd → List Hd
  | [] => [x]
  | z :: Z => if ltS x z = true then x :: z :: Z else z :: insS x Z
def stbS (L : List Hd) : List Hd := L.foldl (fun Z x => insS x Z) []
theorem insS_cut (x : Hd) : ∀ {Z : List Hd}, SrtL ltS Z → ∃ Z1 Z2, Z = Z1 ++ Z2 ∧ insS x Z = Z1 ++ [x] ++ Z2 ∧ (∀ z ∈ Z2, ltS x z = true) ∧ (Z1 = [] ∨ ∃ Y z, Z1 = Y ++ [z] ∧ ltS x z = false)
  | [], _ => ⟨[], [], rfl, rfl, by simp, .inl rfl⟩
  | z :: Z, h => by
    obtain ⟨h1, h2⟩ := List.pairwise_cons.1 h
    unfold insS
    by_cases hl : ltS x z = true
    · rw [if_pos hl]
      refine ⟨[], z :: Z, rfl, rfl, fun u hu => ?_, .inl rfl⟩
      rcases List.mem_cons.1 hu with rfl | hu
      · exact hl
      · cases e : ltS x u with
        | true => rfl
        | false => have := swoS.ntrans _ _ _ e (h1 u hu); rw [hl] at this; cases this
    · rw [if_neg hl]
      obtain ⟨Z1, Z2, rfl, g2, g3, g4⟩ := insS_cut x h2
      refine ⟨z :: Z1, Z2, rfl, by rw [g2]; simp, g3, .inr ?_⟩
      rcases g4 with rfl | ⟨Y, u, rfl, hu⟩
      · exact ⟨[], z, rfl, by simpa using hl⟩
      · exact ⟨z :: Y, u, rfl, hu⟩
theorem insS_stb {X Z : List Hd} (h : Stb ltS X Z) (x : Hd) : Stb ltS (X ++ [x]) (insS x Z) := by
  obtain ⟨Z1, Z2, rfl, e, h1, h2⟩ := insS_cut x h.srt
  rw [e]
  exact stb_ins swoS h h1 h2
theorem fold_stb : ∀ (L X Z : List Hd), Stb ltS X Z → Stb ltS (X ++ L) (L.foldl (fun Z x => insS x Z) Z)
  | [], X, Z, h => by simpa using h
  | x :: L, X, Z, h => by
    have := fold_stb L (X ++ [x]) (insS x Z) (insS_stb h x)
    simpa using this
theorem stbS_stb (L : List Hd) : Stb ltS L (stbS L) := fold_stb L [] [] (Stb.refl srt_nil)
theorem stbS_is {L M : List Hd} (h : Stb ltS L M) : M = stbS L := h.unique swoS (stbS_stb L)
theorem stbS_len (L : List Hd) : (stbS L).length = L.length := (stbS_stb L).len.symm
theorem stbS_more (L : List Hd) (x : Hd) {Z1 Z2 : List Hd} (h : stbS L = Z1 ++ Z2) (h1 : ∀ z ∈ Z2, ltS x z = true) (h2 : Z1 = [] ∨ ∃ Y z, Z1 = Y ++ [z] ∧ ltS x z = false) : Z1 ++ x :: Z2 = stbS (L ++ [x]) := by
  have := stbS_is (stb_ins swoS (h ▸ stbS_stb L) h1 h2)
  simpa using this

end Go.Proofs.Ytfpjkeddcagfcaa

/-
  slices.SortStableFunc at a row of heads that a call made itself.
-/
namespace Go.Proofs.Ytfpjkeddcagfcaa
open Go.RowKit Go.Sort Go.Shelf

set_option maxHeartbeats 1000000 in
theorem sortStb (v : Value) (M : List Hd) (B : Nat) (w : World) (hown : OwnR 56 7 Hd.cells w B v M) (hlen : M.length < 2 ^ 20) :
    Calls Try.prog 37 #[v, .func (.func 38) #[] #[]] w fun r w' => r = .returned (.tuple #[]) ∧ OwnR 56 7 Hd.cells w' B v (stbS M) ∧ w.grownBy w' v.ownBlock := by
  obtain ⟨A, cap, rfl⟩ := hown.shape
  by_cases h0 : M.length = 0
  · obtain rfl : M = [] := List.eq_nil_of_length_eq_zero h0
    refine (sortStable0 A cap _ w).mono ?_
    rintro r w' ⟨rfl, rfl⟩
    exact ⟨rfl, hown, World.grownBy.refl _ _⟩
  · rcases hown.2 with ⟨hv, hn⟩ | ⟨g', cap', cur, hv, -⟩
    · omega
    · simp only [Value.slice.injEq, true_and] at hv
      obtain ⟨rfl, rfl⟩ := hv
      obtain ⟨hH, hlt⟩ := ownR_holds (C := 7) (cells := Hd.cells) hdC_len hown
      have HO := Lib.hid hown
      have R : RowK Hd.cells 7 w g' 0 M.toArray := ⟨hdC_len, hdC_one, hH, hlt⟩
      have HC := Lib.hid (stable_any (cap := cap) R (SWK.start hH) rfl (by simpa using hlen) M.length (by simp))
      simp only [List.size_toArray] at HC
      obtain ⟨n, hn⟩ : ∃ n, M.length = n := ⟨_, rfl⟩
      rw [hn] at HC ⊢
      have hnb : n < 1048576 := by omega
      have Hn := Lib.hid hn
      clear hown hH hlt R h0 hn
      go_enter Try.func37, Try.ntmps37
      go_wp2_with (go_at_call 43; (with_reducible refine Calls.mono HC.out ?_); rintro r w2 ⟨rfl, d', ⟨m, os, rfl⟩, hsz, hst⟩; have H5 := Lib.hid (show d'.size = n ∧ Stb ltS M d'.toList from ⟨hsz, hst⟩); clear hsz hst)
      go_end0
      have h1 := stbS_is H5.out.2
      have h2 := ownR_sorted (C := 7) (cells := Hd.cells) (m := m) (os := os) (M := d'.toList) hdC_len HO.out (by rw [Array.length_toList, H5.out.1, Hn.out])
      rw [Array.toArray_toList, h1] at h2
      exact ⟨rfl, by rw [← Hn.out]; exact h2.1, h2.2⟩

end Go.Proofs.Ytfpjkeddcagfcaa

/-
  Layer 13: the heads that are told: the document's way.
-/
namespace Go.Proofs.Ytfpjkeddcagfcaa
open Go.RowKit Go.Sort

/-- one that sinks to its place: Z with x put in at k -/
structure SinkAt (W : World) (B : Nat) (v : Value) (L : List Hd) (x : Hd) (k : Nat) : Prop where
  ex : ∃ Z1 Z2, stbS L = Z1 ++ Z2 ∧ Z1.length = k ∧ (∀ z ∈ Z2, ltS x z = true) ∧ OwnR 56 7 Hd.cells W B v (Z1 ++ x :: Z2)
theorem SinkAt.start {W : World} {B : Nat} {v : Value} {L : List Hd} {x : Hd} (h : OwnR 56 7 Hd.cells W B v (stbS L ++ [x])) : SinkAt W B v L x L.length :=
  ⟨stbS L, [], by simp, stbS_len L, by simp, h⟩
theorem SinkAt.done {W : World} {B : Nat} {v : Value} {L : List Hd} {x : Hd} {k : Nat} (h : SinkAt W B v L x k) (hk : k = 0 ∨ ∃ z, (stbS L)[k - 1]? = some z ∧ ltS x z = false) : OwnR 56 7 Hd.cells W B v (stbS (L ++ [x])) := by
  obtain ⟨Z1, Z2, e, hl, h1, ho⟩ := h.ex
  rw [← stbS_more L x e h1 ?_]
  · exact ho
  · rcases hk with hk | ⟨z, hz, hl2⟩
    · exact .inl (List.eq_nil_of_length_eq_zero (by omega))
    · rcases List.eq_nil_or_concat Z1 with h0 | ⟨Y, y, h0⟩
      · exact .inl h0
      · right
        rw [List.concat_eq_append] at h0
        subst h0
        refine ⟨Y, y, rfl, ?_⟩
        rw [e] at hz
        have : ((Y ++ [y]) ++ Z2)[k - 1]? = some y := by
          rw [List.append_assoc, List.getElem?_append_right (by simp at hl; omega)]
          simp at hl
          rw [show k - 1 - Y.length = 0 by omega]
          rfl
        rw [this] at hz
        cases hz
        exact hl2
theorem sink_cut {L : List Hd} {Z1 Z2 : List Hd} {k : Nat} (e : stbS L = Z1 ++ Z2) (hl : Z1.length = k) (h0 : 0 < k) : ∃ Y z, Z1 = Y ++ [z] ∧ Y.length + 1 = k ∧ (stbS L)[k - 1]? = some z := by
  rcases List.eq_nil_or_concat Z1 with h1 | ⟨Y, y, h1⟩
  · subst h1; simp at hl; omega
  · rw [List.concat_eq_append] at h1
    subst h1
    simp at hl
    refine ⟨Y, y, rfl, by omega, ?_⟩
    rw [e, List.append_assoc, List.getElem?_append_right (by omega), show k - 1 - Y.length = 0 by omega]
    rfl
theorem own_at7 {W : World} {B g c : Nat} {n : Nat} {A C : List Hd} {x : Hd} (h : OwnR 56 7 Hd.cells W B (.slice (some ⟨g, 0, none⟩) n c) (A ++ x :: C)) (k : Nat) (hk : k = A.length) :
    W.cell? ⟨g, k * 7, none⟩ = some (.int .i64 x.age) ∧ W.cell? ⟨g, k * 7 + 1, none⟩ = some (.int .i64 x.kind) ∧ W.cell? ⟨g, k * 7 + 2, none⟩ = some (.int .i64 x.id) ∧ W.cell? ⟨g, k * 7 + 3, none⟩ = some (.int .i64 x.adv) ∧ W.cell? ⟨g, k * 7 + 4, none⟩ = some (.int .i64 x.seq) ∧ W.cell? ⟨g, k * 7 + 5, none⟩ = some (.int .i64 x.sum) ∧ W.cell? ⟨g, k * 7 + 6, none⟩ = some (.int .i64 x.long) := by
  subst hk
  have hl : A.length < (A ++ x :: C).length := by simp
  obtain ⟨g', c', hv, z0, z1, z2, z3, z4, z5, z6⟩ := row_own7 h A.length hl
  injection hv with e
  injection e with e
  injection e with e
  subst e
  have hx : (A ++ x :: C)[A.length] = x := by simp
  rw [hx] at z0 z1 z2 z3 z4 z5 z6
  exact ⟨z0, z1, z2, z3, z4, z5, z6⟩
/-- two neighbors of a row of one's own change places, by a box between -/
theorem own_swap {W : World} {B g c : Nat} {n : Nat} {A C : List Hd} {x z : Hd} (h : OwnR 56 7 Hd.cells W B (.slice (some ⟨g, 0, none⟩) n c) (A ++ z :: x :: C)) (j k : Nat) (hj : j = A.length) (hk : k = A.length + 1) (W5 : World)
    (h5 : ((((((W.setCell ⟨g, k * 7, none⟩ (.int .i64 z.age)).setCell ⟨g, k * 7 + 1, none⟩ (.int .i64 z.kind)).setCell ⟨g, k * 7 + 2, none⟩ (.int .i64 z.id)).setCell ⟨g, k * 7 + 3, none⟩ (.int .i64 z.adv)).setCell ⟨g, k * 7 + 4, none⟩ (.int .i64 z.seq)).setCell ⟨g, k * 7 + 5, none⟩ (.int .i64 z.sum)).setCell ⟨g, k * 7 + 6, none⟩ (.int .i64 z.long) = W5) :
    OwnR 56 7 Hd.cells W5 B (.slice (some ⟨g, 0, none⟩) n c) (A ++ z :: z :: C) ∧
    OwnR 56 7 Hd.cells (((((((W5.setCell ⟨g, j * 7, none⟩ (.int .i64 x.age)).setCell ⟨g, j * 7 + 1, none⟩ (.int .i64 x.kind)).setCell ⟨g, j * 7 + 2, none⟩ (.int .i64 x.id)).setCell ⟨g, j * 7 + 3, none⟩ (.int .i64 x.adv)).setCell ⟨g, j * 7 + 4, none⟩ (.int .i64 x.seq)).setCell ⟨g, j * 7 + 5, none⟩ (.int .i64 x.sum)).setCell ⟨g, j * 7 + 6, none⟩ (.int .i64 x.long)) B (.slice (some ⟨g, 0, none⟩) n c) (A ++ x :: z :: C) := by
  subst hj hk
  have hn : n = (A ++ z :: x :: C).length := (OwnR.rows (C := 7) (cells := Hd.cells) (fun _ => rfl) h).1
  have h1 := OwnH13.set7 h hn (A.length + 1) (by simp) z
  rw [h5] at h1
  have e1 : (A ++ z :: x :: C).set (A.length + 1) z = A ++ z :: z :: C := by
    rw [List.set_append_right _ _ (by omega), show A.length + 1 - A.length = 1 by omega]
    rfl
  rw [e1] at h1
  have h2 := OwnH13.set7 h1 (by rw [hn]; simp) A.length (by simp) x
  have e2 : (A ++ z :: z :: C).set A.length x = A ++ x :: z :: C := by
    rw [List.set_append_right _ _ (by omega), Nat.sub_self]
    rfl
  rw [e2] at h2
  exact ⟨h1, h2⟩

theorem own_snoc {W : World} {B : Nat} {v : Value} {L : List Hd} {x : Hd} {n : Nat} (h : OwnR 56 7 Hd.cells W B v (L ++ [x])) (hn : L.length = n) : ∃ g c, v = .slice (some ⟨g, 0, none⟩) (n + 1) c := by
  rcases h.shape2 with ⟨-, h0⟩ | ⟨g, c, rfl, -⟩
  · simp at h0
  · exact ⟨g, c, by rw [List.length_append, hn]; rfl⟩
theorem stb_len2 {H : List Hd} {x : Hd} {n m : Nat} (h : (stbS H).length = n) (hm : n + 1 = m) : (stbS (H ++ [x])).length = m := by
  rw [stbS_len] at h ⊢
  simp
  omega
set_option maxHeartbeats 8000000 in
set_option maxRecDepth 100000 in
theorem refHeads_any (A : Option Addr) (c : Nat) (l : List Lsa) (w : World) (B : Nat) (h : RowsAt 9 Lsa.cells w B A l) (hB : B ≤ w.heap.size) (hm : l.length ≤ 2 ^ 19) (nn : Nat) (hnn : nn = l.length) :
    Calls Try.prog 14 #[.slice A nn c] w fun r w' => (∃ v, r = .returned v ∧ OwnR 56 7 Hd.cells w' w.heap.size v (stbS (headsOf l))) ∧ Below w.heap.size w w' := by
  subst hnn
  have HL := Lib.hid h
  have hm' : (l.length : Int) ≤ 524288 := by omega
  have CK := Lib.hid (fun w0 a b c d e f g dd os => Calls.regrown_of (w := w0) (d := dd) (os := os) (key_any a b c d e f g _))
  have CL := Lib.hid (fun w0 a1 a2 a3 b1 b2 b3 z hz dd os => Calls.regrown_of (w := w0) (d := dd) (os := os) (Less07 a1 a2 a3 b1 b2 b3 _ (z := z) hz))
  have HBs := Lib.hid hB
  clear h hB
  go_enter Try.func14, Try.ntmps14
  go_wp2
  go_loopw [3, 4, 5, 6] (fun v i v5 v6 wr => ∃ k : Nat, i = .int .i64 k ∧ k ≤ l.length ∧ OwnR 56 7 Hd.cells wr w.heap.size v (stbS (headsOf (l.take k))) ∧ Below w.heap.size w wr) (fun _ i _ _ _ => l.length - (intOf i).toNat)
  case atStart => exact ⟨0, rfl, Nat.zero_le _, OwnR.nil _ _, Below.refl _ _⟩
  case round =>
    obtain ⟨k, rfl, hk, hown, hb⟩ := hrel
    obtain ⟨A7, c7, hv7⟩ := hown.shape
    subst hv7
    have hHl : (headsOf (l.take k)).length ≤ 2 ^ 19 := Nat.le_trans (heads_len _) (by rw [List.length_take]; omega)
    by_cases hlt : k < l.length
    · obtain ⟨g, o, hA, -, x0, x1, x2, x3, x4, x5, x6, x7, x8⟩ := row_lsa9b (HL.out.below (hb.mono HBs.out)) k hlt
      have hkl : (k : Int) < (l.length : Int) := by omega
      have hmore := heads_more hlt
      have HA := Lib.hid hA
      rw [hA]
      have Hlt := Lib.hid hlt
      generalize l[k] = x at *
      obtain ⟨⟨y1, y2, y3, y4, y5, y6, y7⟩, ka, kc, ls, ma, mc, ms⟩ := x
      simp only at x0 x1 x2 x3 x4 x5 x6 x7 x8 hmore
      clear x7 x8
      obtain ⟨H, hH⟩ : ∃ H, headsOf (l.take k) = H := ⟨_, rfl⟩
      rw [hH] at hown hmore hHl ⊢
      obtain ⟨nh, hnh⟩ : ∃ n, (stbS H).length = n := ⟨_, rfl⟩
      have hnhl : nh = H.length := by rw [← hnh, stbS_len]
      rw [hnh] at hown ⊢
      have hnb : nh ≤ 524288 := by omega
      have Hmore := Lib.hid hmore
      have HHl := Lib.hid hHl
      have Hnh := Lib.hid hnh
      have Hnhl := Lib.hid hnhl
      have Hown := Lib.hid hown
      have Hb := Lib.hid hb
      clear hA hlt hk hown hb hmore hHl hH hnh hnhl
      by_cases h60 : y1 = 60
      · subst h60
        rw [if_pos rfl, List.append_nil] at Hmore
        go_wp2
        go_roundw
        case measure => have := Hlt.out; simp only [intOf]; omega
        case rel => exact ⟨k + 1, by go_num, Hlt.out, by rw [Hmore.out]; exact Hown.out, Hb.out⟩
      · rw [if_neg h60] at Hmore
        have h60b : (y1 == 60) = false := by simp [h60]
        clear h60
        go_wp2_with (at_builtin; (refine app_row Hd.cells (fun _ => rfl) (by decide) (bytes := 56) (by decide) infoHd13 rfl Try.underlying31 onesHd13 (by rfl) _ _ (by rfl) w.heap.size _ (stbS H) (by rfl) (Hown.out.alloc _) wr.heap.size ⟨y1, y2, y3, y4, y5, y6, y7⟩ (by rfl) (Blk.new _ _ _) (by have := HHl.out; have := Hnhl.out; have := Hnh.out; omega) (by have := Hb.out.size; simp; omega) ?_); intro v6 w6 hown6 hg6 hor6; have O6 := Lib.hid hown6; have B6 := Lib.hid ((Hb.out.alloc Hb.out.size _).grown hg6 (by have := Hb.out.size; simp; omega) (fun j hj => (Hown.out.block j hj).1)); clear hown6 hg6 hor6; obtain ⟨g6, c6, hv6⟩ := own_snoc O6.out (Hnh.out); subst hv6; obtain ⟨m1, hm1⟩ : ∃ m, nh + 1 = m := ⟨_, rfl⟩; rw [hm1] at O6 ⊢)
        -- the inner loop
        have hm1i : (m1 : Int) - 1 = (nh : Int) := by omega
        have hm1b : m1 ≤ 524289 := by omega
        have HM1 := Lib.hid hm1
        have HS0 := Lib.hid (show SinkAt w6 w.heap.size (.slice (some ⟨g6, 0, none⟩) m1 c6) H ⟨y1, y2, y3, y4, y5, y6, y7⟩ nh by have := SinkAt.start O6.out; rw [← Hnhl.out] at this; exact this)
        clear x0 x1 x2 x3 x4 x5 x6 h60b hm1
        go_loopw [5, 6] (fun v5 v6 wr => ∃ kk : Nat, v5 = .int .i64 kk ∧ kk ≤ nh ∧ SinkAt wr w.heap.size (.slice (some ⟨g6, 0, none⟩) m1 c6) H ⟨y1, y2, y3, y4, y5, y6, y7⟩ kk ∧ Below w.heap.size w wr) (fun v5 _ _ => (intOf v5).toNat)
        case atStart => exact ⟨nh, by go_num, Nat.le_refl _, HS0.out, B6.out⟩
        case round =>
          obtain ⟨kk, rfl, hkk, hsk, hb⟩ := hrel
          have Hsk := Lib.hid hsk
          have Hb2 := Lib.hid hb
          clear hsk hb
          by_cases h0 : 0 < kk
          · have h0i : 0 < (kk : Int) := by omega
            obtain ⟨j, hj⟩ : ∃ j, kk - 1 = j := ⟨_, rfl⟩
            have hji : (kk : Int) - 1 = (j : Int) := by omega
            have hjw : IntKind.i64.wrap (j : Int) = (j : Int) := by rw [IntKind.wrap_i64]; omega
            have hjm : (j : Int) < (m1 : Int) := by have := HM1.out; omega
            have hkm : (kk : Int) < (m1 : Int) := by have := HM1.out; omega
            have hkb : kk ≤ 524288 := by omega
            obtain ⟨Z1, Z2, hZ, hl1, hgt, how⟩ := Hsk.out.ex
            obtain ⟨Y, z, rfl, hYl, hzz⟩ := sink_cut hZ hl1 h0
            have e0 : (Y ++ [z]) ++ (⟨y1, y2, y3, y4, y5, y6, y7⟩ : Hd) :: Z2 = Y ++ z :: (⟨y1, y2, y3, y4, y5, y6, y7⟩ : Hd) :: Z2 := by simp
            have how2 := how
            rw [e0] at how2
            obtain ⟨a0, a1, a2, a3, a4, a5, a6⟩ := own_at7 how kk hl1.symm
            obtain ⟨b0, b1, b2, b3, b4, b5, b6⟩ := own_at7 how2 j (by omega)
            obtain ⟨z1, z2, z3, z4, z5, z6, z7⟩ := z
            simp only at a0 a1 a2 a3 a4 a5 a6 b0 b1 b2 b3 b4 b5 b6
            have hg6 : w.heap.size ≤ g6 := (how2.block g6 rfl).1
            have HOw := Lib.hid how2
            have HZ := Lib.hid (show stbS H = (Y ++ [⟨z1, z2, z3, z4, z5, z6, z7⟩]) ++ Z2 ∧ Y.length + 1 = kk ∧ (∀ z ∈ Z2, ltS ⟨y1, y2, y3, y4, y5, y6, y7⟩ z = true) ∧ (stbS H)[kk - 1]? = some ⟨z1, z2, z3, z4, z5, z6, z7⟩ ∧ j + 1 = kk ∧ w.heap.size ≤ g6 from ⟨hZ, hYl, hgt, hzz, by omega, hg6⟩)
            have e1 := cell_regrown a0
            have e2 := cell_regrown a1
            have e3 := cell_regrown a2
            have e4 := cell_regrown a3
            have e5 := cell_regrown a4
            have e6 := cell_regrown a5
            have e7 := cell_regrown a6
            have f1 := cell_regrown b0
            have f2 := cell_regrown b1
            have f3 := cell_regrown b2
            have f4 := cell_regrown b3
            have f5 := cell_regrown b4
            have f6 := cell_regrown b5
            have f7 := cell_regrown b6
            obtain ⟨t, ht⟩ : ∃ t, lessK ⟨y2, y3, y4⟩ ⟨z2, z3, z4⟩ = t := ⟨_, rfl⟩
            have HT := Lib.hid (show ltS ⟨y1, y2, y3, y4, y5, y6, y7⟩ ⟨z1, z2, z3, z4, z5, z6, z7⟩ = t from ht)
            have CLz := Lib.hid (fun w0 dd os => CL.out w0 y2 y3 y4 z2 z3 z4 t ht dd os)
            clear a0 a1 a2 a3 a4 a5 a6 b0 b1 b2 b3 b4 b5 b6 hZ hl1 hgt how how2 hYl hzz e0 hg6 hj ht
            go_wp2_with fail
            refine wp_region_quiet_below (by kernel_rfl) (by kernel_rfl) ?_
            repeat (go_big_quiet_step (first | exact CK.out _ _ _ _ _ _ _ _ _ _ | exact CLz.out _ _ _))
            refine wpQuiet_nil ?_
            rintro w3 ⟨⟨dq, osq⟩, rfl⟩
            have hb3 := below_regrown wr dq osq
            have O3 := Lib.hid (HOw.out.below hb3)
            have S3 := Lib.hid (show SinkAt (grow (redrawn wr dq) osq) w.heap.size (.slice (some ⟨g6, 0, none⟩) m1 c6) H ⟨y1, y2, y3, y4, y5, y6, y7⟩ kk by
              obtain ⟨Z1, Z2, q1, q2, q3, q4⟩ := Hsk.out.ex
              exact ⟨Z1, Z2, q1, q2, q3, q4.below hb3⟩)
            have B3 := Lib.hid (below_trans Hb2.out Hb2.out.size hb3)
            clear hb3
            generalize grow (redrawn wr dq) osq = w3 at *
            clear e1 e2 e3 e4 e5 e6 e7 f1 f2 f3 f4 f5 f6 f7
            cases t
            · go_wp2
              go_roundw
              case measure => have := Hlt.out; simp only [intOf]; omega
              case rel => exact ⟨k + 1, by go_num, Hlt.out, by rw [Hmore.out]; exact S3.out.done (.inr ⟨_, HZ.out.2.2.2.1, HT.out⟩), B3.out⟩
            · obtain ⟨w4, hw4⟩ : ∃ v, w3.alloc (.cells #[.int .i64 y1, .int .i64 y2, .int .i64 y3, .int .i64 y4, .int .i64 y5, .int .i64 y6, .int .i64 y7] 56) = v := ⟨_, rfl⟩
              obtain ⟨gb, hgb⟩ : ∃ v, w3.heap.size = v := ⟨_, rfl⟩
              have hk4 := Blk.new w3 56 #[.int .i64 y1, .int .i64 y2, .int .i64 y3, .int .i64 y4, .int .i64 y5, .int .i64 y6, .int .i64 y7]
              have hb4 := below_new w3 (.cells #[.int .i64 y1, .int .i64 y2, .int .i64 y3, .int .i64 y4, .int .i64 y5, .int .i64 y6, .int .i64 y7] 56)
              have hne : g6 ≠ gb := by have := (O3.out.block g6 rfl).2; omega
              rw [hw4, hgb] at hk4
              rw [hw4] at hb4
              have O4 := O3.out.below hb4
              have B4 := Lib.hid (below_trans B3.out B3.out.size hb4)
              obtain ⟨a0, a1, a2, a3, a4, a5, a6⟩ := own_at7 (A := Y ++ [⟨z1, z2, z3, z4, z5, z6, z7⟩]) (C := Z2) (x := ⟨y1, y2, y3, y4, y5, y6, y7⟩) (by simpa using O3.out) kk (by have := HZ.out.2.1; simp; omega)
              obtain ⟨c0, c1, c2, c3, c4, c5, c6'⟩ := own_at7 (A := Y ++ [⟨z1, z2, z3, z4, z5, z6, z7⟩]) (C := Z2) (x := ⟨y1, y2, y3, y4, y5, y6, y7⟩) (by simpa using O4) kk (by have := HZ.out.2.1; simp; omega)
              simp only at c0 c1 c2 c3 c4 c5 c6'
              obtain ⟨b0, b1, b2, b3, b4, b5, b6⟩ := own_at7 O4 j (by have := HZ.out; omega)
              simp only at a0 a1 a2 a3 a4 a5 a6 b0 b1 b2 b3 b4 b5 b6
              have hfz := fun i => OwnH13.frozen O4 i
              obtain ⟨w5, hw5⟩ : ∃ v, (((((((w4.setCell ⟨g6, kk * 7, none⟩ (.int .i64 z1)).setCell ⟨g6, kk * 7 + 1, none⟩ (.int .i64 z2)).setCell ⟨g6, kk * 7 + 2, none⟩ (.int .i64 z3)).setCell ⟨g6, kk * 7 + 3, none⟩ (.int .i64 z4)).setCell ⟨g6, kk * 7 + 4, none⟩ (.int .i64 z5)).setCell ⟨g6, kk * 7 + 5, none⟩ (.int .i64 z6)).setCell ⟨g6, kk * 7 + 6, none⟩ (.int .i64 z7)) = v := ⟨_, rfl⟩
              obtain ⟨o5, o6⟩ := own_swap O4 j kk (by have := HZ.out; omega) (by have := HZ.out; omega) w5 hw5
              have hfz5 := fun i => OwnH13.frozen o5 i
              obtain ⟨d0, d1, d2, d3, d4, d5, d6⟩ := own_at7 o5 j (by have := HZ.out; omega)
              simp only at d0 d1 d2 d3 d4 d5 d6
              have hk5 : Blk w5 gb 56 #[.int .i64 y1, .int .i64 y2, .int .i64 y3, .int .i64 y4, .int .i64 y5, .int .i64 y6, .int .i64 y7] := by
                rw [← hw5]
                exact hk4.grown (grown7 w4 g6 (kk * 7) _ _ _ _ _ _ _) (fun e => hne (by injection e with e; exact e.symm))
              obtain ⟨q0, q1, q2, q3, q4, q5, q6⟩ : _ ∧ _ ∧ _ ∧ _ ∧ _ ∧ _ ∧ _ := ⟨hk5.cell 0, hk5.cell 1, hk5.cell 2, hk5.cell 3, hk5.cell 4, hk5.cell 5, hk5.cell 6⟩
              simp only [List.getElem?_toArray, List.getElem?_cons_zero, List.getElem?_cons_succ] at q0 q1 q2 q3 q4 q5 q6
              simp only at o6
              have HO6 := Lib.hid o6
              have HB5 := Lib.hid (show Below w.heap.size w w5 by rw [← hw5]; exact below_set7k B4.out HZ.out.2.2.2.2.2 (kk * 7) _ _ _ _ _ _ _)
              clear hk4 hb4 O4 o5 o6 hk5 hne
              go_wp2
              go_roundw
              case measure => have := HZ.out; simp only [intOf]; omega
              case rel =>
                obtain ⟨r1, r2, r3, r4, r5, r6⟩ := HZ.out
                refine ⟨j, by go_num, by omega, ⟨Y, ⟨z1, z2, z3, z4, z5, z6, z7⟩ :: Z2, by rw [r1]; simp, by omega, fun u hu => ?_, HO6.out⟩, below_set7k HB5.out r6 (j * 7) _ _ _ _ _ _ _⟩
                rcases List.mem_cons.1 hu with rfl | hu
                · exact HT.out
                · exact r3 u hu
          · have hk0 : kk = 0 := by omega
            subst hk0
            clear h0
            go_wp2_with fail
            go_quiet (fail)
            go_wp2
            go_roundw
            case measure => have := Hlt.out; simp only [intOf]; omega
            case rel =>
              have hbd := below_drewN (Below.refl wr.heap.size wr)
              refine ⟨k + 1, by go_num, Hlt.out, ?_, below_trans Hb2.out Hb2.out.size (hbd _)⟩
              rw [Hmore.out]
              exact (Hsk.out.done (.inl rfl)).below (hbd _)
    · have hke : k = l.length := by omega
      subst hke
      have hkl : ¬ (l.length : Int) < (l.length : Int) := by omega
      have O8 := Lib.hid hown
      have B8 := Lib.hid hb
      clear hown hb hlt
      rw [List.take_length] at O8
      go_wp2
      go_ret
      exact ⟨⟨_, rfl, O8.out⟩, B8.out⟩

end Go.Proofs.Ytfpjkeddcagfcaa

/-
  Layer 14: an exchange and the document's beside each other; new ones.
-/
namespace Go.Proofs.Ytfpjkeddcagfcaa
open Go.RowKit Go.Sort

/-- blocks of other types may have changed -/
theorem RxAt.moved {w w' : World} {P : Nat → Prop} {py J : Nat} {x : ExM} (h : RxAt w py x J) (hm : Mvs P w w') (hP : ∀ g, P g → ∃ t cs, Blk w g t cs ∧ 56 ≠ t ∧ 31 ≠ t ∧ 68 ≠ t) : RxAt w' py x J := by
  obtain ⟨hl, hv, pv, j, h1, h2, h3⟩ := h
  have far : ∀ {B : Nat} {v : Value} {L : List Hd}, OwnR 56 7 Hd.cells w B v L → ∀ g, v.ownBlock = some g → ¬ P g := fun ho g e hg => by
    obtain ⟨t, cs, hb, hne, -, -⟩ := hP g hg
    exact own_ne14 ho hb hne e
  have hpy : ¬ P py := fun hg => by
    obtain ⟨t, cs, hb, -, -, hne⟩ := hP py hg
    exact hne (blk_type h1 hb)
  refine ⟨hl, hv, pv, j, hm.blk h1 hpy, hm.own h2 (far h2), ⟨h3.le, h3.isl, h3.no, fun e => ?_, h3.rng⟩⟩
  obtain ⟨⟨V, hp⟩, h5⟩ := h3.yes e
  exact ⟨⟨V, hm.own hp.row (fun g e hg => by
    obtain ⟨t, cs, hb, -, hne, -⟩ := hP g hg
    exact own_ne14 hp.row hb hne e), fun i hi => hm.own (hp.each i hi) (far (hp.each i hi)), hp.num⟩, h5⟩
/-- an exchange, and the document's, side by side -/
structure PairM (w0 W : World) (px s0 py J : Nat) (x : ExM) : Prop where
  ex : ExAt (fun _ => False) W px s0 x
  rx : RxAt W py x J
  pb : w0.heap.size ≤ px ∧ w0.heap.size ≤ s0 ∧ w0.heap.size ≤ py
  said : x.said.hs.length ≤ 60
  below : Below w0.heap.size w0 W
section
variable {w0 W W' : World} {px s0 py J : Nat} {x : ExM}
theorem PairM.keep (h : PairM w0 W px s0 py J x) (hb : Below W.heap.size W W') : PairM w0 W' px s0 py J x :=
  ⟨h.ex.below hb, h.rx.below hb, h.pb, h.said, below_trans h.below h.below.size hb⟩
/-- the exchange heard -/
theorem PairM.heard (h : PairM w0 W px s0 py J x) {d : DdV} {S : List Hd} {r : Ending} (hh : Heard (fun _ => False) x d S px s0 W W' r) : r = .returned (.int .i64 (hearM x d S).2) ∧ ∃ s, ExAt (fun _ => False) W' px s (hearM x d S).1 ∧ w0.heap.size ≤ s ∧ RxAt W' py x J ∧ Below w0.heap.size w0 W' := by
  obtain ⟨s, hr, he, h1, h2, hm⟩ := hh
  have hP : ∀ g, (g = px ∨ (x.ag = true ∧ g = s0)) → ∃ t cs, Blk W g t cs ∧ 56 ≠ t ∧ 31 ≠ t ∧ 68 ≠ t := fun g hg => by
    rcases hg with rfl | ⟨ha, rfl⟩
    · obtain ⟨hv, hp, -⟩ := h.ex.ptr
      exact ⟨_, _, hp, by decide, by decide, by decide⟩
    · obtain ⟨v, hs⟩ := h.ex.sum ha
      exact ⟨_, _, hs.ptr, by decide, by decide, by decide⟩
  refine ⟨hr, s, he, ?_, h.rx.moved hm hP, hm.bel h.below h.below.size (fun g hg => by rcases hg with rfl | ⟨-, rfl⟩; exact h.pb.1; exact h.pb.2.1)⟩
  cases hag : x.ag with
  | true => rw [h1 hag]; exact h.pb.2.1
  | false => rcases h2 hag with e | e
             · rw [e]; exact h.pb.2.1
             · exact Nat.le_trans h.below.size e
/-- then the document's heard -/
theorem PairM.both {W2 : World} (h : PairM w0 W px s0 py J x) {d : DdV} {S : List Hd} {s : Nat} {r : Ending} (he : ExAt (fun _ => False) W2 px s (hearM x d S).1) (hs : w0.heap.size ≤ s) (hb : Below w0.heap.size w0 W2) (hh : RHeard x d S py J W2 W' r) (hx : ∃ t cs, Blk W2 py t cs ∧ t = 68) : r = .returned (.int .i64 (hearM x d S).2) ∧ PairM w0 W' px s py (J + 1) (hearM x d S).1 := by
  obtain ⟨hr, h1, hg⟩ := hh
  obtain ⟨t, cs, hbk, rfl⟩ := hx
  refine ⟨hr, ⟨?_, h1, ⟨h.pb.1, hs, h.pb.2.2⟩, hearM_said _ _ _ h.said, hb.grown hg hb.size (fun g e => by injection e with e; rw [← e]; exact h.pb.2.2)⟩⟩
  refine he.moved (P := fun g => g = py) (.one hg rfl) (fun e => ?_) (fun e1 e2 => ?_) (fun g e => .inr ⟨_, _, e ▸ hbk, by decide⟩)
  · obtain ⟨hv, hp, -⟩ := he.ptr
    have := blk_type (e ▸ hp) hbk
    revert this; decide
  · obtain ⟨v, hsm⟩ := he.sum e1
    have := blk_type (e2 ▸ hsm.ptr) hbk
    revert this; decide
end
theorem RxAt.blk {w : World} {p J : Nat} {x : ExM} (h : RxAt w p x J) : ∃ t cs, Blk w p t cs ∧ t = 68 := by
  obtain ⟨hl, hv, pv, j, h1, -⟩ := h
  exact ⟨_, _, h1, rfl⟩
theorem ExAt.fresh {X : Nat → Prop} {w : World} {p s : Nat} {a b n : Int} (h : Blk w p 65 (exA a b n false false false false false false 0 true true true n (.slice none 0 0) (.pointer none))) (hn : 0 ≤ n ∧ n ≤ 4294967295) : ExAt X w p s (freshX a b n) :=
  .of ⟨_, h, OwnR.nil _ _, (fun g e => by cases e)⟩ (fun e => by cases e) (fun e => by cases e) hn
theorem RxAt.fresh {w : World} {p : Nat} {a b n : Int} (h : Blk w p 68 (rxA a b n false false false false false false 0 (.slice none 0 0) true true true n (.slice none 0 0) (.slice none 0 0) 0)) (hn : 0 ≤ n ∧ n ≤ 4294967295) : RxAt w p (freshX a b n) 0 :=
  ⟨_, _, _, 0, h, OwnR.nil _ _, ⟨Nat.le_refl _, ⟨_, _, _, rfl⟩, fun _ => ⟨rfl, rfl, rfl⟩, (fun e => by cases e), hn⟩⟩
/-- summ.New of rows that stay -/
theorem suNew_stays (A : Option Addr) (cap : Nat) (l : List Lsa) (w0 : World) (hl : RowsAt 9 Lsa.cells w0 w0.heap.size A l) (hm : l.length ≤ 60) (W : World) (hW : Below w0.heap.size w0 W) : Calls Try.prog 34 #[.slice A l.length cap] W fun r w' => r = .returned (.pointer (some ⟨W.heap.size, 0, none⟩)) ∧ (∃ v, SmAt w' W.heap.size v 0 (stbS (headsOf l))) ∧ Below W.heap.size W w' :=
  SuNew_any A cap l W w0.heap.size (hl.below hW) hW.size (by omega) l.length rfl (stbS (headsOf l)) (fun W' v ho => sortStb v _ _ W' ho (by have := heads_len l; omega))
theorem rHeads_stays (A : Option Addr) (cap : Nat) (l : List Lsa) (w0 : World) (hl : RowsAt 9 Lsa.cells w0 w0.heap.size A l) (hm : l.length ≤ 60) (W : World) (hW : Below w0.heap.size w0 W) : Calls Try.prog 14 #[.slice A l.length cap] W fun r w' => (∃ v, r = .returned v ∧ OwnR 56 7 Hd.cells w' W.heap.size v (stbS (headsOf l))) ∧ Below W.heap.size W w' :=
  refHeads_any A cap l W w0.heap.size (hl.below hW) hW.size (by omega) l.length rfl
theorem heads60 {l : List Lsa} (h : l.length ≤ 60) : (stbS (headsOf l)).length ≤ 60 := by rw [stbS_len]; exact Nat.le_trans (heads_len l) h

end Go.Proofs.Ytfpjkeddcagfcaa
