/-
  slices.symMergeCmpFunc at heads: two parts that are sorted, side by side, are merged stably.
-/
import Derived.Deep.Cut
import Derived.Deep.CutRange
import Derived.Shelf.SlGeneric
import Derived.Shelf.SlSortCmp.InsertionK
import Derived.Ground.SlsfProg
import Derived.Test.YtpnbibokddhheaaGreatProg
import Derived.Lib.QuietBelow
import Derived.Test.YtpnbibokddhheaaGreatBab
import Derived.Test.YtpnbibokddhheaaGreatBac
import Derived.Test.YtpnbibokddhheaaGreatBag
import Derived.Test.YtpnbibokddhheaaGreatBaj
import Derived.Test.YtpnbibokddhheaaGreatBak
import Derived.Test.YtpnbibokddhheaaGreatBal
import Derived.Test.YtpnbibokddhheaaGreatBam
namespace Go.Proofs.YtpnbibokddhheaaGreat
open Go.RowKit Go.Sort Go.Shelf

/-- merging is right where less than n elements are merged -/
def MergeOk (w0 : World) (blk cap : Nat) (d0 : Array Hd) (n : Nat) : Prop := ∀ (W : World) (dk : Array Hd) (P X Y S : List Hd) (a m b : Nat), SWK Hd.cells 7 w0 blk 0 dk W → dk.size = d0.size → dk.toList = P ++ (X ++ (Y ++ S)) → SrtL ltS X → SrtL ltS Y → 0 < X.length → 0 < Y.length → X.length + Y.length < n → a = P.length → m = P.length + X.length → b = P.length + X.length + Y.length →
    Calls Tryz.prog 129 #[.slice (some ⟨blk, 0, none⟩) d0.size cap, .int .i64 a, .int .i64 m, .int .i64 b, .func (.func 47) #[] #[]] W fun e w' => MergedTo w0 blk d0 P X Y S e w'
theorem stb_mono {X1 X2 Y1 Y2 Z1 Z2 : List Hd} (hX : SrtL ltS (X1 ++ X2)) (hY : SrtL ltS (Y1 ++ Y2)) (h1 : ∀ x ∈ X2, ∀ y ∈ Y1, ltS y x = true) (h2 : ∀ x ∈ X1, ∀ y ∈ Y2, ltS y x = false) (g1 : Stb ltS (X1 ++ Y1) Z1) (g2 : Stb ltS (X2 ++ Y2) Z2) : Stb ltS ((X1 ++ X2) ++ (Y1 ++ Y2)) (Z1 ++ Z2) := merge_cut swoS hX hY h1 h2 g1 g2
set_option maxHeartbeats 8000000 in
set_option maxRecDepth 100000 in
theorem mergeMain {w0 W : World} {blk cap : Nat} {d0 dk : Array Hd} (R : RowK Hd.cells 7 w0 blk 0 d0) (hW : SWK Hd.cells 7 w0 blk 0 dk W) (hs : dk.size = d0.size) (hsz : d0.size < 2 ^ 20)
    (P X Y S : List Hd) (hd : dk.toList = P ++ (X ++ (Y ++ S))) (hX : SrtL ltS X) (hY : SrtL ltS Y) (h2 : 1 < X.length) (h3 : 1 < Y.length) (a m b : Nat) (ha : a = P.length) (hm : m = P.length + X.length) (hb : b = P.length + X.length + Y.length) (hI : MergeOk w0 blk cap d0 (X.length + Y.length)) :
    Calls Tryz.prog 129 #[.slice (some ⟨blk, 0, none⟩) d0.size cap, .int .i64 a, .int .i64 m, .int .i64 b, .func (.func 47) #[] #[]] W fun e w' => MergedTo w0 blk d0 P X Y S e w' := by
  have hsum : P.length + X.length + Y.length ≤ d0.size := by rw [← hs, ← Array.length_toList, hd]; simp; omega
  obtain ⟨lx, hlx⟩ : ∃ n, m - a = n := ⟨_, rfl⟩
  obtain ⟨ly, hly⟩ : ∃ n, b - m = n := ⟨_, rfl⟩
  obtain ⟨mid, hmid⟩ : ∃ n, (a + b) / 2 = n := ⟨_, rfl⟩
  obtain ⟨nn, hnn⟩ : ∃ n, mid + m = n := ⟨_, rfl⟩
  obtain ⟨pp, hpp⟩ : ∃ n, nn - 1 = n := ⟨_, rfl⟩
  have hma : (m : Int) - (a : Int) = (lx : Int) := by omega
  have hbm : (b : Int) - (m : Int) = (ly : Int) := by omega
  have hne1 : ((lx : Int) == 1) = false := by simp; omega
  have hne2 : ((ly : Int) == 1) = false := by simp; omega
  have hmidi : ((a : Int) + (b : Int)) / 2 = (mid : Int) := by omega
  have hnni : (mid : Int) + (m : Int) = (nn : Int) := by omega
  have hppi : (nn : Int) - 1 = (pp : Int) := by omega
  have hbb : b ≤ 1048576 := by omega
  have hmb : m ≤ 1048576 := by omega
  have hab : a ≤ 1048576 := by omega
  have hmidb : mid ≤ 1048576 := by omega
  have hnnb : nn ≤ 2097152 := by omega
  have hppb : pp ≤ 2097152 := by omega
  have hlxb : lx ≤ 1048576 := by omega
  have hlyb : ly ≤ 1048576 := by omega
  obtain ⟨s0, r0, hsr⟩ : ∃ s0 r0 : Nat, (mid < m ∧ s0 = nn - b ∧ r0 = mid) ∨ (¬ mid < m ∧ s0 = a ∧ r0 = m) := by
    by_cases h : mid < m
    · exact ⟨_, _, .inl ⟨h, rfl, rfl⟩⟩
    · exact ⟨_, _, .inr ⟨h, rfl, rfl⟩⟩
  have HR := Lib.hid R
  have HWW := Lib.hid hW
  have HC := Lib.hid (show dk.size = d0.size ∧ dk.toList = P ++ (X ++ (Y ++ S)) ∧ SrtL ltS X ∧ SrtL ltS Y from ⟨hs, hd, hX, hY⟩)
  have HN := Lib.hid (show a = P.length ∧ m = P.length + X.length ∧ b = P.length + X.length + Y.length ∧ b ≤ d0.size ∧ a + 2 ≤ m ∧ m + 2 ≤ b ∧ 2 * mid ≤ a + b ∧ a + b ≤ 2 * mid + 1 ∧ nn = mid + m ∧ pp + 1 = nn from by omega)
  have HSR := Lib.hid hsr
  have HI := Lib.hid hI
  have HB := Lib.hid (show s0 ≤ r0 ∧ r0 ≤ m ∧ a ≤ s0 ∧ nn ≤ b + s0 from by omega)
  have hs0b : s0 ≤ 1048576 := by omega
  have hr0b : r0 ≤ 1048576 := by omega
  have mixed : Tryz.prog.follows .mixedOrders = true := by kernel_rfl
  clear R hW hs hd hX hY ha hm hb hsum hlx hly hmid hnn hpp hI hsr h2 h3
  go_enter Tryz.func129, Tryz.ntmps129
  go_upto_if 140 with fail
  go_cut [20, 21] from 138 (fun v20 v21 wx => v20 = .int .i64 s0 ∧ v21 = .int .i64 r0 ∧ wx = W)
  case first =>
    rcases HSR.out with ⟨h1, h2, h3⟩ | ⟨h1, h2, h3⟩
    · have h1i : (mid : Int) < (m : Int) := by omega
      have h2i : (nn : Int) - (b : Int) = (s0 : Int) := by have := HN.out; omega
      subst h3
      clear h2
      go_wp2_with fail
      go_meet
      case rel => exact ⟨by go_num, rfl, rfl⟩
    · have h1i : ¬ (mid : Int) < (m : Int) := by omega
      subst h2 h3
      go_wp2_with fail
      go_meet
      case rel => exact ⟨rfl, rfl, rfl⟩
  case rest =>
    obtain ⟨rfl, rfl, rfl⟩ := hcut
    clear hma hbm hne1 hne2 hmidi hnni
    go_wp2_with fail
    go_loopg [20, 21] (r0 - s0) (fun g v20 v21 wr => ∃ (s r : Nat), v20 = .int .i64 s ∧ v21 = .int .i64 r ∧ s0 ≤ s ∧ s ≤ r ∧ r ≤ r0 ∧ r - s ≤ g ∧ Hid (SWK Hd.cells 7 w0 blk 0 dk wr) ∧ Hid ((s = s0 ∨ ltS dk[nn - s]! dk[s - 1]! = false) ∧ (r = r0 ∨ ltS dk[nn - 1 - r]! dk[r]! = true)))
    case atStart => exact ⟨s0, r0, rfl, rfl, Nat.le_refl _, HB.out.1, Nat.le_refl _, Nat.le_refl _, HWW, Lib.hid ⟨.inl rfl, .inl rfl⟩⟩
    case round =>
      obtain ⟨s, r, rfl, rfl, hs0, hsr, hr0, hg, HW, HJ⟩ := hrel
      clear hppi
      by_cases hlt : s < r
      · have hlti : (s : Int) < (r : Int) := by omega
        obtain ⟨c, hh⟩ : ∃ h, (s + r) / 2 = h := ⟨_, rfl⟩
        have hdiv : ((s : Int) + (r : Int)) / 2 = (c : Int) := by omega
        have hsc : s ≤ c := by omega
        have hcr : c < r := by omega
        obtain ⟨pc, hpc⟩ : ∃ k, pp - c = k := ⟨_, rfl⟩
        have hHN := HN.out
        have hHB := HB.out
        have hpci : (pp : Int) - (c : Int) = (pc : Int) := by omega
        have hpcb : pc ≤ 2097152 := by omega
        have hpcw : IntKind.i64.wrap (pc : Int) = (pc : Int) := by rw [IntKind.wrap_i64]; omega
        have hcd : c < dk.size := by have := HC.out.1; omega
        have hpd : pc < dk.size := by have := HC.out.1; omega
        have hci : (c : Int) < (d0.size : Int) := by omega
        have hpi : (pc : Int) < (d0.size : Int) := by have := HC.out.1; omega
        obtain ⟨y, hy⟩ : ∃ y, dk[pc]! = y := ⟨_, rfl⟩
        obtain ⟨x, hx⟩ : ∃ x, dk[c]! = x := ⟨_, rfl⟩
        obtain ⟨x0, x1, x2, x3, x4, x5, x6⟩ := swk_gd HW.out HR.out HC.out.1 c hcd hx
        obtain ⟨y0, y1, y2, y3, y4, y5, y6⟩ := swk_gd HW.out HR.out HC.out.1 pc hpd hy
        have hc := fun n os => newCmp_any y x (grow (wr.drewN n) os)
        have HG := Lib.hid (fun n os => HW.out.grown n os)
        have Hxy := Lib.hid (show dk[nn - (c + 1)]! = y ∧ dk[c]! = x ∧ nn - 1 - c = nn - (c + 1) from ⟨by rw [← hy]; congr 1; omega, hx, by omega⟩)
        have hl := cmpS_lt y x
        obtain ⟨cv, hcv⟩ : ∃ c, cmpS y x = c := ⟨_, rfl⟩
        rw [hcv] at hc hl
        have HL := Lib.hid hl
        clear hh hcd hpd hy hx hcv hl hpc hHN hHB
        by_cases hneg : cv < 0
        · have HB2 := Lib.hid (show ltS y x = true by rw [← HL.out]; exact decide_eq_true hneg)
          go_wp2_with fail
          go_quiet_grown (first | (go_at_call 47; refine Calls.grown_of (hc _ _)))
          go_wp2
          go_roundg (c - s)
          case measure => omega
          case rel => exact ⟨s, c, rfl, by go_num, hs0, hsc, by omega, Nat.le_refl _, Lib.hid (HG.out _ _), Lib.hid ⟨HJ.out.1, .inr (by rw [Hxy.out.2.2, Hxy.out.1, Hxy.out.2.1]; exact HB2.out)⟩⟩
        · have HB2 := Lib.hid (show ltS y x = false by rw [← HL.out]; exact decide_eq_false hneg)
          have hnb : decide (cv < 0) = false := decide_eq_false hneg
          have hnb2 : 0 ≤ cv := by omega
          go_wp2_with fail
          go_quiet_grown (first | (go_at_call 47; refine Calls.grown_of (hc _ _)))
          go_wp2
          go_roundg (r - (c + 1))
          case measure => omega
          case rel => exact ⟨c + 1, r, by go_num, rfl, by omega, by omega, hr0, Nat.le_refl _, Lib.hid (HG.out _ _), Lib.hid ⟨.inr (by rw [Nat.add_sub_cancel, Hxy.out.1, Hxy.out.2.1]; exact HB2.out), HJ.out.2⟩⟩
      · obtain rfl : s = r := by omega
        obtain ⟨en, hen⟩ : ∃ k, nn - s = k := ⟨_, rfl⟩
        have heni : (nn : Int) - (s : Int) = (en : Int) := by have := HN.out; have := HB.out; omega
        have hcut2 : ∃ X1 X2 Y1 Y2, X = X1 ++ X2 ∧ Y = Y1 ++ Y2 ∧ X1.length = s - a ∧ Y1.length = en - m ∧ (∀ x ∈ X2, ∀ y ∈ Y1, ltS y x = true) ∧ (∀ x ∈ X1, ∀ y ∈ Y2, ltS y x = false) ∧ a ≤ s ∧ s ≤ m ∧ m ≤ en ∧ en ≤ b := by
          obtain ⟨n1, n2, n3, n4, n5, n6, n7, n8, n9, n10⟩ := HN.out
          obtain ⟨b1, b2, b3, b4⟩ := HB.out
          obtain ⟨c1, c2, c3, c4⟩ := HC.out
          have hsr := HSR.out
          have hd2 : dk.toList = P ++ X ++ Y ++ S := by rw [c2]; simp
          have q1 : a ≤ s := by omega
          have q2 : s ≤ m := by omega
          have q3 : m ≤ en := by omega
          have q4 : en ≤ b := by omega
          have := search_cut swoS (P := P) (S := S) (st := s) (en := en) c3 c4 (by omega) (by omega) (by omega) (by omega) (by
            rcases HJ.out.1 with e | e
            · rcases hsr with ⟨g1, g2, g3⟩ | ⟨g1, g2, g3⟩
              · exact .inr (.inl (by omega))
              · exact .inl (by omega)
            · by_cases h1 : s = P.length
              · exact .inl h1
              · by_cases h2 : en = P.length + X.length + Y.length
                · exact .inr (.inl h2)
                · exact .inr (.inr ⟨_, _, by rw [← hd2]; exact arr_some (by omega) rfl, by rw [← hd2, ← hen]; exact arr_some (by omega) rfl, e⟩)) (by
            rcases HJ.out.2 with e | e
            · rcases hsr with ⟨g1, g2, g3⟩ | ⟨g1, g2, g3⟩
              · exact .inr (.inl (by omega))
              · exact .inl (by omega)
            · by_cases h1 : s = P.length + X.length
              · exact .inl h1
              · by_cases h2 : en = P.length + X.length
                · exact .inr (.inl h2)
                · exact .inr (.inr ⟨_, _, by rw [← hd2]; exact arr_some (by omega) rfl, by rw [← hd2, show en - 1 = nn - 1 - s by omega]; exact arr_some (by omega) rfl, e⟩))
          obtain ⟨X1, X2, Y1, Y2, e1, e2, e3, e4, e5, e6⟩ := this
          exact ⟨X1, X2, Y1, Y2, e1, e2, by omega, by omega, e5, e6, q1, q2, q3, q4⟩
        obtain ⟨X1, X2, Y1, Y2, rfl, rfl, hX1, hY1, hc1, hc2, q1, q2, q3, q4⟩ := hcut2
        have HM := Lib.hid (fun Z1 Z2 => stb_mono (Z1 := Z1) (Z2 := Z2) HC.out.2.2.1 HC.out.2.2.2 hc1 hc2)
        have HSx := Lib.hid (show SrtL ltS X1 ∧ SrtL ltS X2 ∧ SrtL ltS Y1 ∧ SrtL ltS Y2 from ⟨HC.out.2.2.1.left, HC.out.2.2.1.right, HC.out.2.2.2.left, HC.out.2.2.2.right⟩)
        have HLn := Lib.hid (show X1.length = s - a ∧ X2.length = m - s ∧ Y1.length = en - m ∧ Y2.length = b - en ∧ P.length = a ∧ mid - a = X1.length + Y1.length ∧ a ≤ mid ∧ mid ≤ en ∧ a ≤ s ∧ s ≤ m ∧ m ≤ en ∧ en ≤ b ∧ en + s = mid + m ∧ a + 2 ≤ m ∧ m + 2 ≤ b ∧ b ≤ 1048576 from by
          obtain ⟨n1, n2, n3, n4, n5, n6, n7, n8, n9, n10⟩ := HN.out
          rw [List.length_append] at n2 n3
          rw [List.length_append] at n3
          omega)
        have hlti : ¬ (s : Int) < (s : Int) := by omega
        have henb : en ≤ 1048576 := by omega
        have hsb : s ≤ 1048576 := by omega
        clear hX1 hY1 hc1 hc2 hen hg hlt
        obtain ⟨t1, ht1⟩ : ∃ t, (decide (s < m) && decide (m < en)) = t := ⟨_, rfl⟩
        obtain ⟨t2, ht2⟩ : ∃ t, (decide (a < s) && decide (s < mid)) = t := ⟨_, rfl⟩
        obtain ⟨t3, ht3⟩ : ∃ t, (decide (mid < en) && decide (en < b)) = t := ⟨_, rfl⟩
        have HT1 := Lib.hid ht1
        have HT2 := Lib.hid ht2
        have HT3 := Lib.hid ht3
        clear ht1 ht2 ht3
        go_upto_region 39 with fail
        go_cut [185] from 178 (fun v wx => v = .bool t1 ∧ wx = wr)
        case first =>
          have ht := HT1.out
          by_cases h1 : s < m
          · have h1i : (s : Int) < (m : Int) := by omega
            by_cases h2 : m < en
            · have h2i : (m : Int) < (en : Int) := by omega
              have h3 : t1 = true := by rw [← ht]; simp [h1, h2]
              subst h3
              clear ht h1 h2
              go_wp2_with fail
              go_meet
              case rel => exact ⟨rfl, rfl⟩
            · have h2i : ¬ (m : Int) < (en : Int) := by omega
              have h3 : t1 = false := by rw [← ht]; simp [h2]
              subst h3
              clear ht h1 h2
              go_wp2_with fail
              go_meet
              case rel => exact ⟨rfl, rfl⟩
          · have h1i : ¬ (s : Int) < (m : Int) := by omega
            have h3 : t1 = false := by rw [← ht]; simp [h1]
            subst h3
            clear ht h1
            go_wp2_with fail
            go_meet
            case rel => exact ⟨rfl, rfl⟩
        case rest =>
        obtain ⟨rfl, rfl⟩ := hcut
        clear hlti
        go_upto_if 185 with fail
        go_cut [24] from 178 (fun v24 wx => v24 = .int .i64 en ∧ ∃ d1 : Array Hd, Hid (SWK Hd.cells 7 w0 blk 0 d1 wx ∧ d1.size = d0.size ∧ d1.toList = P ++ ((X1 ++ Y1) ++ ((X2 ++ Y2) ++ S))))
        case first =>
          cases t1 with
          | true =>
            have h1 := HT1.out
            simp only [Bool.and_eq_true, decide_eq_true_eq] at h1
            have HRt := Lib.hid (rotate_any (cap := cap) HR.out HW.out HC.out.1 hsz (P ++ X1) X2 Y1 (Y2 ++ S) (by rw [HC.out.2.1]; simp) (by have := HLn.out; omega) (by have := HLn.out; omega) s m en (by have := HLn.out; simp; omega) (by have := HLn.out; simp; omega) (by have := HLn.out; simp; omega) (.func (.func 47) #[] #[]))
            clear h1
            go_wp2_with (go_at_call 185; (with_reducible refine Calls.mono HRt.out ?_); rintro r w5 ⟨rfl, d5, hW5, hs5, hd5⟩; have H5 := Lib.hid (show _ ∧ _ ∧ _ from ⟨hW5, hs5, hd5⟩); clear hW5 hs5 hd5)
            go_meet
            case rel => exact ⟨by go_num, d5, Lib.hid ⟨H5.out.1, H5.out.2.1, by rw [H5.out.2.2]; simp⟩⟩
          | false =>
            have hd1 : X2 = [] ∨ Y1 = [] := by
              have h1 := HT1.out
              have h2 := HLn.out
              simp only [Bool.and_eq_false_iff, decide_eq_false_iff_not] at h1
              rcases h1 with h1 | h1
              · exact .inl (List.eq_nil_of_length_eq_zero (by omega))
              · exact .inr (List.eq_nil_of_length_eq_zero (by omega))
            go_wp2_with fail
            go_meet
            case rel => exact ⟨by go_num, dk, Lib.hid ⟨HW.out, HC.out.1, by rw [HC.out.2.1]; rcases hd1 with rfl | rfl <;> simp⟩⟩
        case rest =>
        obtain ⟨rfl, d1, HD⟩ := hcut
        go_upto_region 41 with fail
        go_cut [199] from 192 (fun v wx => v = .bool t2 ∧ wx = wc)
        case first =>
          have ht := HT2.out
          by_cases h1 : a < s
          · have h1i : (a : Int) < (s : Int) := by omega
            by_cases h2 : s < mid
            · have h2i : (s : Int) < (mid : Int) := by omega
              have h3 : t2 = true := by rw [← ht]; simp [h1, h2]
              subst h3
              clear ht h1 h2
              go_wp2_with fail
              go_meet
              case rel => exact ⟨rfl, rfl⟩
            · have h2i : ¬ (s : Int) < (mid : Int) := by omega
              have h3 : t2 = false := by rw [← ht]; simp [h2]
              subst h3
              clear ht h1 h2
              go_wp2_with fail
              go_meet
              case rel => exact ⟨rfl, rfl⟩
          · have h1i : ¬ (a : Int) < (s : Int) := by omega
            have h3 : t2 = false := by rw [← ht]; simp [h1]
            subst h3
            clear ht h1
            go_wp2_with fail
            go_meet
            case rel => exact ⟨rfl, rfl⟩
        case rest =>
        obtain ⟨rfl, rfl⟩ := hcut
        go_upto_if 199 with fail
        go_cut [24] from 192 (fun v24 wx => v24 = .int .i64 en ∧ ∃ (d2 : Array Hd) (Z1 : List Hd), Hid (SWK Hd.cells 7 w0 blk 0 d2 wx ∧ d2.size = d0.size ∧ d2.toList = P ++ (Z1 ++ ((X2 ++ Y2) ++ S)) ∧ Stb ltS (X1 ++ Y1) Z1))
        case first =>
          cases t2 with
          | true =>
            have h1 := HT2.out
            simp only [Bool.and_eq_true, decide_eq_true_eq] at h1
            have HRt := Lib.hid (HI.out _ d1 P X1 Y1 ((X2 ++ Y2) ++ S) a s mid HD.out.1 HD.out.2.1 (by rw [HD.out.2.2]; simp) HSx.out.1 HSx.out.2.2.1 (by have := HLn.out; omega) (by have := HLn.out; omega) (by have := HLn.out; obtain ⟨n1, n2, n3, n4, n5, n6, n7, n8, n9, n10⟩ := HN.out; rw [List.length_append, List.length_append]; omega) (by have := HLn.out; omega) (by have := HLn.out; omega) (by have := HLn.out; omega))
            clear h1
            go_wp2_with (go_at_call 129; (with_reducible refine Calls.mono HRt.out ?_); rintro r w5 ⟨rfl, d5, Z1, hW5, hs5, hd5, hz5⟩; have H5 := Lib.hid (show _ ∧ _ ∧ _ ∧ _ from ⟨hW5, hs5, hd5, hz5⟩); clear hW5 hs5 hd5 hz5)
            go_meet
            case rel => exact ⟨rfl, d5, Z1, H5⟩
          | false =>
            have hd1 : X1 = [] ∨ Y1 = [] := by
              have h1 := HT2.out
              have h2 := HLn.out
              simp only [Bool.and_eq_false_iff, decide_eq_false_iff_not] at h1
              rcases h1 with h1 | h1
              · exact .inl (List.eq_nil_of_length_eq_zero (by omega))
              · exact .inr (List.eq_nil_of_length_eq_zero (by omega))
            go_wp2_with fail
            go_meet
            case rel =>
              refine ⟨rfl, d1, X1 ++ Y1, Lib.hid ⟨HD.out.1, HD.out.2.1, HD.out.2.2, Stb.refl ?_⟩⟩
              rcases hd1 with rfl | rfl
              · simpa using HSx.out.2.2.1
              · simpa using HSx.out.1
        case rest =>
        obtain ⟨rfl, d2, Z1, HE⟩ := hcut
        have hZ1 : Z1.length = X1.length + Y1.length := by have := HE.out.2.2.2.len; rw [List.length_append] at this; omega
        have HZ1 := Lib.hid hZ1
        clear hZ1
        go_upto_region 43 with fail
        go_cut [213] from 206 (fun v wx => v = .bool t3 ∧ wx = wc)
        case first =>
          have ht := HT3.out
          by_cases h1 : mid < en
          · have h1i : (mid : Int) < (en : Int) := by omega
            by_cases h2 : en < b
            · have h2i : (en : Int) < (b : Int) := by omega
              have h3 : t3 = true := by rw [← ht]; simp [h1, h2]
              subst h3
              clear ht h1 h2
              go_wp2_with fail
              go_meet
              case rel => exact ⟨rfl, rfl⟩
            · have h2i : ¬ (en : Int) < (b : Int) := by omega
              have h3 : t3 = false := by rw [← ht]; simp [h2]
              subst h3
              clear ht h1 h2
              go_wp2_with fail
              go_meet
              case rel => exact ⟨rfl, rfl⟩
          · have h1i : ¬ (mid : Int) < (en : Int) := by omega
            have h3 : t3 = false := by rw [← ht]; simp [h1]
            subst h3
            clear ht h1
            go_wp2_with fail
            go_meet
            case rel => exact ⟨rfl, rfl⟩
        case rest =>
        obtain ⟨rfl, rfl⟩ := hcut
        cases t3 with
        | true =>
          have h1 := HT3.out
          simp only [Bool.and_eq_true, decide_eq_true_eq] at h1
          have HRt := Lib.hid (HI.out _ d2 (P ++ Z1) X2 Y2 S mid en b HE.out.1 HE.out.2.1 (by rw [HE.out.2.2.1]; simp) HSx.out.2.1 HSx.out.2.2.2 (by have := HLn.out; omega) (by have := HLn.out; omega) (by have := HLn.out; obtain ⟨n1, n2, n3, n4, n5, n6, n7, n8, n9, n10⟩ := HN.out; rw [List.length_append, List.length_append]; omega) (by have := HLn.out; have := HZ1.out; simp; omega) (by have := HLn.out; have := HZ1.out; simp; omega) (by have := HLn.out; have := HZ1.out; simp; omega))
          clear h1
          go_wp2_with (go_at_call 129; (with_reducible refine Calls.mono HRt.out ?_); rintro r w5 ⟨rfl, d5, Z2, hW5, hs5, hd5, hz5⟩; have H5 := Lib.hid (show _ ∧ _ ∧ _ ∧ _ from ⟨hW5, hs5, hd5, hz5⟩); clear hW5 hs5 hd5 hz5)
          go_end0
          exact ⟨rfl, d5, Z1 ++ Z2, H5.out.1, H5.out.2.1, by rw [H5.out.2.2.1]; simp, HM.out _ _ HE.out.2.2.2 H5.out.2.2.2⟩
        | false =>
          have hd1 : X2 = [] ∨ Y2 = [] := by
            have h1 := HT3.out
            have h2 := HLn.out
            simp only [Bool.and_eq_false_iff, decide_eq_false_iff_not] at h1
            rcases h1 with h1 | h1
            · exact .inl (List.eq_nil_of_length_eq_zero (by omega))
            · exact .inr (List.eq_nil_of_length_eq_zero (by omega))
          go_wp2
          go_end0
          refine ⟨rfl, d2, Z1 ++ (X2 ++ Y2), HE.out.1, HE.out.2.1, by rw [HE.out.2.2.1]; simp, HM.out _ _ HE.out.2.2.2 (Stb.refl ?_)⟩
          rcases hd1 with rfl | rfl
          · simpa using HSx.out.2.2.2
          · simpa using HSx.out.2.1
theorem merge_ok {w0 : World} {blk cap : Nat} {d0 : Array Hd} (R : RowK Hd.cells 7 w0 blk 0 d0) (hsz : d0.size < 2 ^ 20) : ∀ n, MergeOk w0 blk cap d0 n
  | 0 => fun W dk P X Y S a m b _ _ _ _ _ _ _ h => absurd h (by omega)
  | n + 1 => fun W dk P X Y S a m b hW hs hd hX hY h0 h1 hl ha hm hb => by
    by_cases hx : X.length = 1
    · obtain ⟨x, rfl⟩ := List.length_eq_one_iff.1 hx
      exact mergeFirst R hW hs hsz P Y S x (by rw [hd]; simp) hY a m b ha (by rw [hm, hx]) (by rw [hb, hx])
    · by_cases hy : Y.length = 1
      · obtain ⟨y, rfl⟩ := List.length_eq_one_iff.1 hy
        exact mergeLast R hW hs hsz P X S y (by rw [hd]; simp) hX (by omega) a m b ha hm (by rw [hb, hy])
      · refine mergeMain R hW hs hsz P X Y S hd hX hY (by omega) (by omega) a m b ha hm hb ?_
        intro W dk P' X' Y' S' a' m' b' g1 g2 g3 g4 g5 g6 g7 g8
        exact merge_ok R hsz n W dk P' X' Y' S' a' m' b' g1 g2 g3 g4 g5 g6 g7 (by omega)

end Go.Proofs.YtpnbibokddhheaaGreat

/-
  The library's slices.insertionSortCmpFunc, laid at this program: written by lay-plain.mjs of the kit.
-/
namespace Go.Proofs
open Go.Shelf
def Tryz.insHead_ren : Go.Shelf.Ren := ⟨fun | 20 => 128 | n => n, fun | 24 => 27 | 22 => 58 | 3 => 3 | 25 => 121 | 4 => 4 | 0 => 0 | n => n, fun | n => n⟩
theorem Tryz.insHead : Go.Proofs.SlLaysF0.n20 Tryz.prog Tryz.insHead_ren := {
  mixed := by kernel_rfl
  f20 := ⟨Tryz.f128.name, by decide, Tryz.func128.trans (congrArg some (by kernel_rfl))⟩
  t0 := Tryz.underlying0
  a0 := Tryz.isAgg0
  z0 := Tryz.sizeOf0
  v0 := Tryz.zeroValue0
  t3 := Tryz.underlying3
  a3 := Tryz.isAgg3
  z3 := Tryz.sizeOf3
  v3 := Tryz.zeroValue3
  t4 := Tryz.underlying4
  a4 := Tryz.isAgg4
  z4 := Tryz.sizeOf4
  v4 := Tryz.zeroValue4
  t22 := Tryz.underlying58
  a22 := Tryz.isAgg58
  z22 := Tryz.sizeOf58
  v22 := Tryz.zeroValue58
  t25 := Tryz.underlying121
  a25 := Tryz.isAgg121
  z25 := Tryz.sizeOf121
  v25 := Tryz.zeroValue121 }
end Go.Proofs

/-
  slices.stableCmpFunc and slices.SortStableFunc at heads: a row is sorted stably, whatever its length.
-/
namespace Go.Proofs.YtpnbibokddhheaaGreat
open Go.RowKit Go.Sort Go.Shelf

def fvS : Value := .func (.func 47) #[] #[]
theorem cmp_lays (blk off size : Nat) (w : World) : CmpLays Tryz.prog 47 #[] Hd.cells 7 cmpS blk off size w := fun _m _os _dk _ x y => newCmp_any x y _
set_option maxRecDepth 100000 in
theorem insHead_any {w0 W : World} {blk cap : Nat} {d0 dk : Array Hd} (R : RowK Hd.cells 7 w0 blk 0 d0) (hW : SWK Hd.cells 7 w0 blk 0 dk W) (hs : dk.size = d0.size) (hsz : d0.size < 2 ^ 20)
    (P X S : List Hd) (hd : dk.toList = P ++ (X ++ S)) (a b : Nat) (ha : a = P.length) (hb : b = P.length + X.length) :
    Calls Tryz.prog 128 #[.slice (some ⟨blk, 0, none⟩) d0.size cap, .int .i64 a, .int .i64 b, .func (.func 47) #[] #[]] W fun e w' =>
      e = .returned (.tuple #[]) ∧ ∃ d' Z, SWK Hd.cells 7 w0 blk 0 d' w' ∧ d'.size = d0.size ∧ d'.toList = P ++ (Z ++ S) ∧ Stb ltS X Z := by
  have hsum : P.length + X.length ≤ dk.size := by rw [← Array.length_toList, hd]; simp
  have h := AnyQ.insertionSortCmpFunc Tryz.insHead 7 Tryz.isAgg27 Tryz.sizeOf27 Hd.cells hdC_len hdC_one cmpS 47 #[] blk 0 cap a b dk W call_newCmp (cmp_lays _ _ _ _) (hW.holds R.hblk R.hH hs) (hW.lt R.hblk) (by omega) (by omega) (by omega)
  rw [hs] at h
  refine Calls.mono h ?_
  rintro e w' ⟨rfl, n, os, rfl⟩
  obtain ⟨M, hM, hst⟩ := insertionSort_stb (lt := ltS) swoS hd ha hb
  rw [ltOf_S]
  have hsz2 : (Sort.insertionSort ltS dk a b).size = dk.size := by
    rw [← Array.length_toList, ← Array.length_toList, hM, hd]
    have := hst.len
    simp
    omega
  exact ⟨rfl, _, M, hW.on R.hblk n _ os hsz2, hsz2.trans hs, hM, hst⟩
set_option maxHeartbeats 8000000 in
set_option maxRecDepth 100000 in
theorem stable_any {w0 W : World} {blk cap : Nat} {d0 dk : Array Hd} (R : RowK Hd.cells 7 w0 blk 0 d0) (hW : SWK Hd.cells 7 w0 blk 0 dk W) (hs : dk.size = d0.size) (hsz : d0.size < 2 ^ 20) (n : Nat) (hn : n = d0.size) :
    Calls Tryz.prog 83 #[.slice (some ⟨blk, 0, none⟩) d0.size cap, .int .i64 n, .func (.func 47) #[] #[]] W fun e w' =>
      e = .returned (.tuple #[]) ∧ ∃ d', SWK Hd.cells 7 w0 blk 0 d' w' ∧ d'.size = d0.size ∧ Stb ltS dk.toList d'.toList := by
  obtain ⟨L0, hL0⟩ : ∃ L, dk.toList = L := ⟨_, rfl⟩
  have hLn : L0.length = n := by rw [← hL0, Array.length_toList]; omega
  rw [hL0]
  have HR := Lib.hid R
  have HWW := Lib.hid hW
  have HS := Lib.hid hs
  have HL0 := Lib.hid hL0
  have HN := Lib.hid (show n = d0.size ∧ L0.length = n from ⟨hn, hLn⟩)
  have HMg := Lib.hid (merge_ok (cap := cap) R hsz)
  have hnb : n < 1048576 := by omega
  clear R hW hs hn hL0 hLn
  go_enter Tryz.func83, Tryz.ntmps83
  go_wp2
  go_loopg [7, 8] n (fun g v7 v8 wr => ∃ (a bq : Nat) (dj : Array Hd) (A A' B : List Hd), v7 = .int .i64 a ∧ v8 = .int .i64 bq ∧ Hid (bq = a + 20) ∧ a ≤ n ∧ n ≤ g + a ∧ Hid (SWK Hd.cells 7 w0 blk 0 dj wr ∧ dj.size = d0.size ∧ L0 = A ++ B ∧ dj.toList = A' ++ B ∧ FullB ltS 20 A A' ∧ A.length = a))
  case atStart => exact ⟨0, 20, dk, [], [], L0, rfl, rfl, Lib.hid rfl, by omega, by omega, Lib.hid ⟨HWW.out, HS.out, rfl, by rw [HL0.out]; rfl, .nil, rfl⟩⟩
  case round =>
    obtain ⟨a, bq, dj, A, A', B, rfl, rfl, HBQ, han, hg, HJ⟩ := hrel
    have hlA : A.length = A'.length := HJ.out.2.2.2.2.1.len
    have HlA := Lib.hid hlA
    clear hlA
    by_cases hle : bq ≤ n
    · have hlei : (bq : Int) ≤ (n : Int) := by omega
      obtain ⟨X, B2, rfl, hX⟩ := cut_at B 20 (by have h0 := HBQ.out; have h1 := congrArg List.length HJ.out.2.2.1; rw [List.length_append] at h1; have := HJ.out.2.2.2.2.2; have := HN.out.2; omega)
      have HX := Lib.hid hX
      have HI := Lib.hid (insHead_any (cap := cap) HR.out HJ.out.1 HJ.out.2.1 hsz A' X B2 HJ.out.2.2.2.1 a bq (by have := HJ.out.2.2.2.2.2; have := HlA.out; have := HBQ.out; omega) (by have := HJ.out.2.2.2.2.2; have := HlA.out; have := HBQ.out; omega))
      have hbb : bq ≤ 1048576 := by omega
      clear hX
      go_wp2_with (go_at_call 128; (with_reducible refine Calls.mono HI.out ?_); rintro r w5 ⟨rfl, d5, Z, hW5, hs5, hd5, hz5⟩; have H5 := Lib.hid (show _ ∧ _ ∧ _ ∧ _ from ⟨hW5, hs5, hd5, hz5⟩); clear hW5 hs5 hd5 hz5)
      go_roundg (n - bq)
      case measure => have := HBQ.out; omega
      case rel =>
        have h0 := HBQ.out
        obtain ⟨q1, q2, q3, q4⟩ := H5.out
        obtain ⟨j1, j2, j3, j4, j5, j6⟩ := HJ.out
        exact ⟨bq, bq + 20, d5, A ++ X, A' ++ Z, B2, by go_num, by go_num, Lib.hid rfl, hle, by omega, Lib.hid ⟨q1, q2, by rw [j3]; simp, by rw [q3]; simp, .snoc j5 HX.out q4, by rw [List.length_append, j6, HX.out]; exact HBQ.out.symm⟩⟩
    · have hlei : ¬ (bq : Int) ≤ (n : Int) := by omega
      have HI := Lib.hid (insHead_any (cap := cap) HR.out HJ.out.1 HJ.out.2.1 hsz A' B [] (by rw [HJ.out.2.2.2.1]; simp) a n (by have := HJ.out.2.2.2.2.2; have := HlA.out; have := HBQ.out; omega) (by have h0 := HBQ.out; have h1 := congrArg List.length HJ.out.2.2.1; rw [List.length_append] at h1; have := HJ.out.2.2.2.2.2; have := HlA.out; have := HN.out.2; omega))
      have HB := Lib.hid (show B.length ≤ 20 from by have h0 := HBQ.out; have h1 := congrArg List.length HJ.out.2.2.1; rw [List.length_append] at h1; have := HJ.out.2.2.2.2.2; have := HN.out.2; omega)
      clear hg
      go_wp2_with (go_at_call 128; (with_reducible refine Calls.mono HI.out ?_); rintro r w5 ⟨rfl, d5, Z, hW5, hs5, hd5, hz5⟩; have H5 := Lib.hid (show SWK Hd.cells 7 w0 blk 0 d5 w5 ∧ d5.size = d0.size ∧ BlkStb ltS 20 L0 d5.toList from ⟨hW5, hs5, by rw [hd5, HJ.out.2.2.1, List.append_nil]; exact HJ.out.2.2.2.2.1.app (.last HB.out hz5)⟩); clear hW5 hs5 hd5 hz5)
      go_loopg [6, 7, 8, 9] n (fun g v6 v7 v8 v9 wr => ∃ (bs : Nat) (dj : Array Hd), v6 = .int .i64 bs ∧ 20 ≤ bs ∧ bs ≤ 2097152 ∧ n ≤ g + bs ∧ Hid (SWK Hd.cells 7 w0 blk 0 dj wr ∧ dj.size = d0.size ∧ BlkStb ltS bs L0 dj.toList))
      case atStart => exact ⟨20, d5, rfl, by omega, by omega, by omega, H5⟩
      case round =>
        obtain ⟨bs, d1, rfl, h20, hbsb, hg, HK⟩ := hrel
        have HGo := Lib.hid hg
        clear H5 HJ HI HB HlA HBQ hle hlei han
        by_cases hlt : bs < n
        · have hlti : (bs : Int) < (n : Int) := by omega
          obtain ⟨b2, hb2⟩ : ∃ k, 2 * bs = k := ⟨_, rfl⟩
          have hb2i : (2 : Int) * (bs : Int) = (b2 : Int) := by omega
          have hb2j : (bs : Int) * (2 : Int) = (b2 : Int) := by omega
          have hb2b : b2 ≤ 2097152 := by omega
          obtain ⟨wo, hwo⟩ : ∃ wo : World, wo = wr := ⟨_, rfl⟩
          go_wp2
          go_loopg [7, 8] n (fun g v7 v8 wx => ∃ (a bq : Nat) (dj : Array Hd) (A A' B B' : List Hd), v7 = .int .i64 a ∧ v8 = .int .i64 bq ∧ Hid (bq = a + b2) ∧ a ≤ n ∧ n ≤ g + a ∧ Hid (SWK Hd.cells 7 w0 blk 0 dj wx ∧ dj.size = d0.size ∧ L0 = A ++ B ∧ dj.toList = A' ++ B' ∧ FullB ltS b2 A A' ∧ A.length = a ∧ BlkStb ltS bs B B'))
          case atStart => exact ⟨0, b2, d1, [], [], L0, d1.toList, rfl, by go_num, Lib.hid (by omega), by omega, by omega, Lib.hid ⟨HK.out.1, HK.out.2.1, rfl, rfl, .nil, rfl, HK.out.2.2⟩⟩
          case round =>
            obtain ⟨a, bq, dj, A, A', B, B', rfl, rfl, HBQ, han, hg3, HJ⟩ := hrel
            clear hg
            have hlA : A.length = A'.length := HJ.out.2.2.2.2.1.len
            have hlB : A.length + B.length = n := by have h1 := congrArg List.length HJ.out.2.2.1; rw [List.length_append] at h1; have := HN.out.2; omega
            have HlA := Lib.hid (show A.length = A'.length ∧ A.length + B.length = n ∧ A.length = a ∧ B.length = B'.length from ⟨hlA, hlB, HJ.out.2.2.2.2.2.1, HJ.out.2.2.2.2.2.2.len⟩)
            clear hlA hlB
            by_cases hle : bq ≤ n
            · have hlei : (bq : Int) ≤ (n : Int) := by omega
              obtain ⟨mm, hmm⟩ : ∃ k, a + bs = k := ⟨_, rfl⟩
              have hmmi : (a : Int) + (bs : Int) = (mm : Int) := by omega
              have hmmb : mm ≤ 1048576 := by have := HBQ.out; omega
              have hbqb : bq ≤ 1048576 := by omega
              have HMM := Lib.hid hmm
              have hbk := HJ.out.2.2.2.2.2.2
              obtain ⟨X1, Z1, B1, B1', rfl, rfl, hX1, hs1, hk1⟩ := hbk.head (by have h0 := HBQ.out; have := HlA.out; omega)
              obtain ⟨X2, Z2, B2, B2', rfl, rfl, hX2, hs2, hk2⟩ := hk1.head (by have h0 := HBQ.out; have := HlA.out; rw [List.length_append] at this; omega)
              have HZ := Lib.hid (show X1.length = bs ∧ X2.length = bs ∧ Z1.length = bs ∧ Z2.length = bs ∧ Stb ltS X1 Z1 ∧ Stb ltS X2 Z2 ∧ BlkStb ltS bs B2 B2' from ⟨hX1, hX2, by rw [← hs1.len]; exact hX1, by rw [← hs2.len]; exact hX2, hs1, hs2, hk2⟩)
              have HI := Lib.hid (HMg.out (Z1.length + Z2.length + 1) wr dj A' Z1 Z2 B2' a mm bq HJ.out.1 HJ.out.2.1 HJ.out.2.2.2.1 hs1.srt hs2.srt (by have := HZ.out; omega) (by have := HZ.out; omega) (by omega) (by have := HlA.out; omega) (by have := HlA.out; have := HZ.out; omega) (by have h0 := HBQ.out; have := HlA.out; have := HZ.out; omega))
              clear hbk hX1 hs1 hk1 hX2 hs2 hk2 hmm
              go_wp2_with (go_at_call 129; (with_reducible refine Calls.mono HI.out ?_); rintro r w6 ⟨rfl, d5, Z, hW5, hs5, hd5, hz5⟩; have H5 := Lib.hid (show _ ∧ _ ∧ _ ∧ _ from ⟨hW5, hs5, hd5, hz5⟩); clear hW5 hs5 hd5 hz5)
              go_roundg (n - bq)
              case measure => have := HBQ.out; omega
              case rel =>
                have h0 := HBQ.out
                obtain ⟨q1, q2, q3, q4⟩ := H5.out
                obtain ⟨j1, j2, j3, j4, j5, j6, j7⟩ := HJ.out
                obtain ⟨z1, z2, z3, z4, z5, z6, z7⟩ := HZ.out
                exact ⟨bq, bq + b2, d5, A ++ (X1 ++ X2), A' ++ Z, B2, B2', by go_num, by go_num, Lib.hid rfl, hle, by omega, Lib.hid ⟨q1, q2, by rw [j3]; simp, by rw [q3]; simp, .snoc j5 (by rw [List.length_append]; omega) (z5.two z6 q4), by rw [List.length_append, List.length_append]; omega, z7⟩⟩
            · have hlei : ¬ (bq : Int) ≤ (n : Int) := by omega
              obtain ⟨mm, hmm⟩ : ∃ k, a + bs = k := ⟨_, rfl⟩
              have hmmi : (a : Int) + (bs : Int) = (mm : Int) := by omega
              have hmmb : mm ≤ 3145728 := by omega
              by_cases hmn : mm < n
              · have hmni : (mm : Int) < (n : Int) := by omega
                have hbk := HJ.out.2.2.2.2.2.2
                obtain ⟨X1, Z1, B1, B1', rfl, rfl, hX1, hs1, hk1⟩ := hbk.head (by have h0 := HBQ.out; have := HlA.out; omega)
                have hs2 := hk1.one (by have h0 := HBQ.out; have := HlA.out; rw [List.length_append] at this; omega)
                have HZ := Lib.hid (show X1.length = bs ∧ Z1.length = bs ∧ B1.length = B1'.length ∧ Stb ltS X1 Z1 ∧ Stb ltS B1 B1' from ⟨hX1, by rw [← hs1.len]; exact hX1, hs2.len, hs1, hs2⟩)
                have HI := Lib.hid (HMg.out (Z1.length + B1'.length + 1) wr dj A' Z1 B1' [] a mm n HJ.out.1 HJ.out.2.1 (by rw [HJ.out.2.2.2.1]; simp) hs1.srt hs2.srt (by have := HZ.out; omega) (by have h9 := HlA.out; have := HZ.out; rw [List.length_append] at h9; omega) (by omega) (by have := HlA.out; omega) (by have := HlA.out; have := HZ.out; omega) (by have h9 := HlA.out; have := HZ.out; rw [List.length_append] at h9; omega))
                clear hbk hX1 hs1 hk1 hs2 hmm
                go_wp2_with (go_at_call 129; (with_reducible refine Calls.mono HI.out ?_); rintro r w6 ⟨rfl, d5, Z, hW5, hs5, hd5, hz5⟩; have H5 := Lib.hid (show _ ∧ _ ∧ _ ∧ _ from ⟨hW5, hs5, hd5, hz5⟩); clear hW5 hs5 hd5 hz5)
                go_roundg (n - b2)
                case measure => have := HGo.out; omega
                case rel =>
                  have h0 := HBQ.out
                  have h8 := HGo.out
                  obtain ⟨q1, q2, q3, q4⟩ := H5.out
                  obtain ⟨j1, j2, j3, j4, j5, j6, j7⟩ := HJ.out
                  obtain ⟨z1, z2, z3, z4, z5⟩ := HZ.out
                  have hB : (X1 ++ B1).length ≤ b2 := by have := HlA.out; omega
                  exact ⟨b2, d5, by go_num, by omega, hb2b, by omega, Lib.hid ⟨q1, q2, by rw [q3, j3, List.append_nil]; exact j5.app (.last hB (z4.two z5 q4))⟩⟩
              · have hmni : ¬ (mm : Int) < (n : Int) := by omega
                clear hmm
                go_wp2
                go_roundg (n - b2)
                case measure => have := HGo.out; omega
                case rel =>
                  have h0 := HBQ.out
                  have h8 := HGo.out
                  obtain ⟨j1, j2, j3, j4, j5, j6, j7⟩ := HJ.out
                  have hB : B.length ≤ bs := by have := HlA.out; omega
                  exact ⟨b2, dj, by go_num, by omega, hb2b, by omega, Lib.hid ⟨j1, j2, by rw [j4, j3]; exact j5.app (.last (by omega) (j7.one hB))⟩⟩
        · have hlti : ¬ (bs : Int) < (n : Int) := by omega
          go_wp2
          go_end0
          exact ⟨rfl, d1, HK.out.1, HK.out.2.1, HK.out.2.2.one (by have := HN.out.2; omega)⟩

end Go.Proofs.YtpnbibokddhheaaGreat

/-
  Heads sorted stably by their keys, one put behind the other (plain).
-/
namespace Go.Proofs.YtpnbibokddhheaaGreat
open Go.Sort

def insS (x : Hd) : List Hd → List Hd
  | [] => [x]
  | z :: Z => if ltS x z = true then x :: z :: Z else z :: insS x Z
def stbS (L : List Hd) : List Hd := L.foldl (fun Z x => insS x Z) []
theorem insS_cut (x : Hd) : ∀ {Z : List Hd}, SrtL ltS Z → ∃ Z1 Z2, Z = Z1 ++ Z2 ∧ insS x Z = Z1 ++ [x] ++ Z2 ∧ (∀ z ∈ Z2, ltS x z = true) ∧ (Z1 = [] ∨ ∃ Y z, Z1 = Y ++ [z] ∧ ltS x z = false)
  | [], _ => ⟨[], [], rfl, rfl, by simp, .inl rfl⟩
  | z :: Z, h => by
    obtain ⟨h1, h2⟩ := List.pairwise_cons.1 h
    unfold insS
    by_cases hl : ltS x z = true
    · rw [if_pos hl]
      refine ⟨[], z :: Z, rfl, rfl, fun u hu => ?_, .inl rfl⟩
      rcases List.mem_cons.1 hu with rfl | hu
      · exact hl
      · cases e : ltS x u with
        | true => rfl
        | false => have := swoS.ntrans _ _ _ e (h1 u hu); rw [hl] at this; cases this
    · rw [if_neg hl]
      obtain ⟨Z1, Z2, rfl, g2, g3, g4⟩ := insS_cut x h2
      refine ⟨z :: Z1, Z2, rfl, by rw [g2]; simp, g3, .inr ?_⟩
      rcases g4 with rfl | ⟨Y, u, rfl, hu⟩
      · exact ⟨[], z, rfl, by simpa using hl⟩
      · exact ⟨z :: Y, u, rfl, hu⟩
theorem insS_stb {X Z : List Hd} (h : Stb ltS X Z) (x : Hd) : Stb ltS (X ++ [x]) (insS x Z) := by
  obtain ⟨Z1, Z2, rfl, e, h1, h2⟩ := insS_cut x h.srt
  rw [e]
  exact stb_ins swoS h h1 h2
theorem fold_stb : ∀ (L X Z : List Hd), Stb ltS X Z → Stb ltS (X ++ L) (L.foldl (fun Z x => insS x Z) Z)
  | [], X, Z, h => by simpa using h
  | x :: L, X, Z, h => by
    have := fold_stb L (X ++ [x]) (insS x Z) (insS_stb h x)
    simpa using this
theorem stbS_stb (L : List Hd) : Stb ltS L (stbS L) := fold_stb L [] [] (Stb.refl srt_nil)
theorem stbS_is {L M : List Hd} (h : Stb ltS L M) : M = stbS L := h.unique swoS (stbS_stb L)
theorem stbS_len (L : List Hd) : (stbS L).length = L.length := (stbS_stb L).len.symm
theorem stbS_more (L : List Hd) (x : Hd) {Z1 Z2 : List Hd} (h : stbS L = Z1 ++ Z2) (h1 : ∀ z ∈ Z2, ltS x z = true) (h2 : Z1 = [] ∨ ∃ Y z, Z1 = Y ++ [z] ∧ ltS x z = false) : Z1 ++ x :: Z2 = stbS (L ++ [x]) := by
  have := stbS_is (stb_ins swoS (h ▸ stbS_stb L) h1 h2)
  simpa using this

end Go.Proofs.YtpnbibokddhheaaGreat

/-
  slices.SortStableFunc at a row of heads that a call made itself.
-/
namespace Go.Proofs.YtpnbibokddhheaaGreat
open Go.RowKit Go.Sort Go.Shelf

set_option maxHeartbeats 1000000 in
theorem sortStb (v : Value) (M : List Hd) (B : Nat) (w : World) (hown : OwnR 27 7 Hd.cells w B v M) (hlen : M.length < 2 ^ 20) :
    Calls Tryz.prog 46 #[v, .func (.func 47) #[] #[]] w fun r w' => r = .returned (.tuple #[]) ∧ OwnR 27 7 Hd.cells w' B v (stbS M) ∧ w.grownBy w' v.ownBlock := by
  obtain ⟨A, cap, rfl⟩ := hown.shape
  by_cases h0 : M.length = 0
  · obtain rfl : M = [] := List.eq_nil_of_length_eq_zero h0
    refine (sortStable0 A cap _ w).mono ?_
    rintro r w' ⟨rfl, rfl⟩
    exact ⟨rfl, hown, World.grownBy.refl _ _⟩
  · rcases hown.2 with ⟨hv, hn⟩ | ⟨g', cap', cur, hv, -⟩
    · omega
    · simp only [Value.slice.injEq, true_and] at hv
      obtain ⟨rfl, rfl⟩ := hv
      obtain ⟨hH, hlt⟩ := ownR_holds (C := 7) (cells := Hd.cells) hdC_len hown
      have HO := Lib.hid hown
      have R : RowK Hd.cells 7 w g' 0 M.toArray := ⟨hdC_len, hdC_one, hH, hlt⟩
      have HC := Lib.hid (stable_any (cap := cap) R (SWK.start hH) rfl (by simpa using hlen) M.length (by simp))
      simp only [List.size_toArray] at HC
      obtain ⟨n, hn⟩ : ∃ n, M.length = n := ⟨_, rfl⟩
      rw [hn] at HC ⊢
      have hnb : n < 1048576 := by omega
      have Hn := Lib.hid hn
      clear hown hH hlt R h0 hn
      go_enter Tryz.func46, Tryz.ntmps46
      go_wp2_with (go_at_call 83; (with_reducible refine Calls.mono HC.out ?_); rintro r w2 ⟨rfl, d', ⟨m, os, rfl⟩, hsz, hst⟩; have H5 := Lib.hid (show d'.size = n ∧ Stb ltS M d'.toList from ⟨hsz, hst⟩); clear hsz hst)
      go_end0
      have h1 := stbS_is H5.out.2
      have h2 := ownR_sorted (C := 7) (cells := Hd.cells) (m := m) (os := os) (M := d'.toList) hdC_len HO.out (by rw [Array.length_toList, H5.out.1, Hn.out])
      rw [Array.toArray_toList, h1] at h2
      exact ⟨rfl, by rw [← Hn.out]; exact h2.1, h2.2⟩

end Go.Proofs.YtpnbibokddhheaaGreat

/-
  Layer 13: the keys of what is gone: the document's way.
-/
namespace Go.Proofs.YtpnbibokddhheaaGreat
open Go.RowKit Go.Sort

/-- the row that is made, beside what it is made of -/
structure GoneAt (w0 W : World) (B Bi g6 : Nat) (k : K3) (v : Value) (N : List K3) (vo : Value) (G : List K3) : Prop where
  nx : OwnKy W Bi v N
  out : OwnKy W B vo G
  box : Blk W g6 69 #[.int .i64 k.kind, .int .i64 k.id, .int .i64 k.adv]
  lo : ∀ m, vo.ownBlock = some m → m < Bi
  lg : g6 < Bi
  bel : Below B w0 W
  low : B ≤ Bi
  siz : B ≤ W.heap.size
  bi : Bi ≤ W.heap.size
section
variable {w0 W W' : World} {B Bi g6 : Nat} {k : K3} {v v' : Value} {N N' : List K3} {vo : Value} {G : List K3}
theorem GoneAt.keep (h : GoneAt w0 W B Bi g6 k v N vo G) (hb : Below W.heap.size W W') : GoneAt w0 W' B Bi g6 k v N vo G :=
  ⟨h.nx.below hb, h.out.below hb, h.box.below hb h.box.lt, h.lo, h.lg, below_trans h.bel h.siz hb, h.low, Nat.le_trans h.siz hb.size, Nat.le_trans h.bi hb.size⟩
theorem GoneAt.app (h : GoneAt w0 W B Bi g6 k v N vo G) (hn : OwnKy W' Bi v' N') (hg : W.grownBy W' v.ownBlock) : GoneAt w0 W' B Bi g6 k v' N' vo G where
  nx := hn
  out := h.out.kept hg (by
    cases hv : vo.ownBlock with
    | none => exact .inl rfl
    | some m => right; intro e; have := h.lo m hv; have := (h.nx.block m e.symm).1; omega)
  box := h.box.grown hg (fun e => by have := (h.nx.block g6 e.symm).1; have := h.lg; omega)
  lo := h.lo
  lg := h.lg
  bel := h.bel.grown hg h.siz (fun m e => Nat.le_trans h.low (h.nx.block m e).1)
  low := h.low
  siz := Nat.le_trans h.siz hg.size
  bi := Nat.le_trans h.bi hg.size
end
theorem row_ky {W : World} {B : Nat} {v : Value} {G : List K3} (h : OwnKy W B v G) (j : Nat) (hj : j < G.length) : ∃ g c, v = .slice (some ⟨g, 0, none⟩) G.length c ∧ W.cell? ⟨g, j * 3, none⟩ = some (.int .i64 G[j].kind) ∧ W.cell? ⟨g, j * 3 + 1, none⟩ = some (.int .i64 G[j].id) ∧ W.cell? ⟨g, j * 3 + 2, none⟩ = some (.int .i64 G[j].adv) := by
  rcases h.shape2 with ⟨-, hn⟩ | ⟨g, c, rfl, hc⟩
  · subst hn; simp at hj
  · obtain ⟨b, o, e, -, z⟩ := row_k3b (OwnR.rows (C := 3) (cells := K3.cells) (fun _ => rfl) h).2 j hj
    injection e with e
    injection e with e1 e2
    subst e1 e2
    simp only [Nat.zero_add] at z
    exact ⟨g, c, rfl, z.1, z.2.1, z.2.2⟩
theorem gone_cells {w0 W W' : World} {B Bi g6 : Nat} {k : K3} {v v' : Value} {N N' : List K3} {vo : Value} {G : List K3} (h : GoneAt w0 W B Bi g6 k v N vo G) (h' : GoneAt w0 W' B Bi g6 k v' N' vo G) (j : Nat) (hj : j < G.length) {g c : Nat} (hv : vo = .slice (some ⟨g, 0, none⟩) G.length c) {a b d : Value}
    (z0 : W.cell? ⟨g, j * 3, none⟩ = some a) (z1 : W.cell? ⟨g, j * 3 + 1, none⟩ = some b) (z2 : W.cell? ⟨g, j * 3 + 2, none⟩ = some d) : W'.cell? ⟨g, j * 3, none⟩ = some a ∧ W'.cell? ⟨g, j * 3 + 1, none⟩ = some b ∧ W'.cell? ⟨g, j * 3 + 2, none⟩ = some d := by
  subst hv
  obtain ⟨g1, c1, e1, y0, y1, y2⟩ := row_ky h.out j hj
  obtain ⟨g2, c2, e2, x0, x1, x2⟩ := row_ky h'.out j hj
  injection e1 with e1
  injection e1 with e1
  injection e1 with e1
  injection e2 with e2
  injection e2 with e2
  injection e2 with e2
  subst e1 e2
  exact ⟨x0.trans (y0.symm.trans z0), x1.trans (y1.symm.trans z1), x2.trans (y2.symm.trans z2)⟩
theorem InAt.len {k : K3} {G N : List K3} {j : Nat} (h : InAt k (G.take j) false N) : N.length ≤ j := by
  rcases h with ⟨-, rfl, -⟩ | ⟨h, -⟩
  · rw [List.length_take]; omega
  · cases h
set_option maxHeartbeats 16000000 in
set_option maxRecDepth 100000 in
theorem refGone_any (A : Option Addr) (c : Nat) (l : List Lsa) (w : World) (B : Nat) (h : RowsAt 9 Lsa.cells w B A l) (hB : B ≤ w.heap.size) (hm : l.length ≤ 2 ^ 18) (nn : Nat) (hnn : nn = l.length) :
    Calls Tryz.prog 15 #[.slice A nn c] w fun r w' => (∃ v, r = .returned v ∧ OwnKy w' w.heap.size v (goneL (goneOf l))) ∧ Below w.heap.size w w' := by
  subst hnn
  have HL := Lib.hid h
  have hm' : (l.length : Int) ≤ 262144 := by omega
  have HBs := Lib.hid hB
  clear h hB
  go_enter Tryz.func15, Tryz.ntmps15
  go_wp2
  go_loopw [3, 4, 5, 6, 7, 8] (fun v i v5 v6 v7 v8 wr => ∃ k : Nat, i = .int .i64 k ∧ k ≤ l.length ∧ OwnKy wr w.heap.size v (goneL (goneOf (l.take k))) ∧ Below w.heap.size w wr) (fun _ i _ _ _ _ _ => l.length - (intOf i).toNat)
  case atStart => exact ⟨0, rfl, Nat.zero_le _, OwnR.nil _ _, Below.refl _ _⟩
  case round =>
    obtain ⟨k, rfl, hk, hown, hb⟩ := hrel
    have hGl : (goneL (goneOf (l.take k))).length ≤ 2 ^ 18 := Nat.le_trans (goneL_len _) (Nat.le_trans (gone_len _) (by rw [List.length_take]; omega))
    by_cases hlt : k < l.length
    · obtain ⟨g, o, hA, -, x0, x1, x2, x3, x4, x5, x6, x7, x8⟩ := row_lsa9b (HL.out.below (hb.mono HBs.out)) k hlt
      have hkl : (k : Int) < (l.length : Int) := by omega
      have hmore := gone_more hlt
      have HA := Lib.hid hA
      rw [hA]
      have Hlt := Lib.hid hlt
      generalize l[k] = x at *
      obtain ⟨⟨y1, y2, y3, y4, y5, y6, y7⟩, ka, kc, ls, ma, mc, ms⟩ := x
      simp only at x0 x1 x2 x3 x4 x5 x6 x7 x8 hmore
      clear x7 x8
      have hmk : keyX ⟨⟨y1, y2, y3, y4, y5, y6, y7⟩, ka, kc, ls, ma, mc, ms⟩ = ⟨y2, y3, y4⟩ := rfl
      rw [hmk] at hmore
      obtain ⟨G, hG⟩ : ∃ G, goneL (goneOf (l.take k)) = G := ⟨_, rfl⟩
      obtain ⟨m, hmm⟩ : ∃ m, G.length = m := ⟨_, rfl⟩
      rw [hG] at hown hGl
      rw [hmm] at hGl
      obtain ⟨Ao, co, hvo⟩ := hown.shape
      rw [hmm] at hvo
      subst hvo
      have hmb : (m : Int) ≤ 262144 := by omega
      have Hmore := Lib.hid hmore
      have HG := Lib.hid hG
      have Hm := Lib.hid hmm
      have Hown := Lib.hid hown
      have Hb := Lib.hid hb
      clear hA hlt hk hown hb hmore hG hmm hGl hmk
      by_cases h60 : y1 = 60
      · subst h60
        rw [if_pos rfl] at Hmore
        have HGm := Lib.hid (show goneL (goneOf (l.take (k + 1))) = addKy ⟨y2, y3, y4⟩ G by rw [Hmore.out, goneL_more, HG.out])
        go_wp2_with fail
        with_reducible refine Calls.mono (key_any 60 y2 y3 y4 y5 y6 y7 _) ?_
        rintro r w5 ⟨rfl, hb5⟩
        obtain ⟨w6, hw6⟩ : ∃ v, w5.alloc (.cells #[.int .i64 y2, .int .i64 y3, .int .i64 y4] 69) = v := ⟨_, rfl⟩
        obtain ⟨g6, hg6⟩ : ∃ v, w5.heap.size = v := ⟨_, rfl⟩
        have hk6 := Blk.new w5 69 #[.int .i64 y2, .int .i64 y3, .int .i64 y4]
        have hb6 := below_new w5 (.cells #[.int .i64 y2, .int .i64 y3, .int .i64 y4] 69)
        have hs6 : w6.heap.size = g6 + 1 := by rw [← hw6, ← hg6]; simp
        rw [hw6, hg6] at hk6
        rw [hw6] at hb6
        have hb56 := below_trans hb5 hb5.size hb6
        have HS := Lib.hid (show GoneAt w w6 w.heap.size w6.heap.size g6 ⟨y2, y3, y4⟩ (.slice none 0 0) [] (.slice Ao m co) G from ⟨OwnR.nil _ _, Hown.out.below hb56, hk6, fun b e => by have := ((Hown.out.below hb56).block b e).2; exact this, by omega, below_trans Hb.out Hb.out.size hb56, by have := Hb.out.size; have := hb56.size; omega, by have := Hb.out.size; have := hb56.size; omega, Nat.le_refl _⟩)
        obtain ⟨Bi, hBi⟩ : ∃ b, w6.heap.size = b := ⟨_, rfl⟩
        rw [hBi] at HS
        clear x0 x1 x2 x3 x4 x5 x6 hb5 hk6 hb6 hb56 hs6
        go_wp2
        clear hw6 hg6
        go_loopw [6, 7, 8] (fun v6 v7 v8 wr => ∃ (j : Nat) (d : Bool) (N : List K3), v8 = .int .i64 j ∧ v7 = .bool d ∧ j ≤ m ∧ Hid (GoneAt w wr w.heap.size Bi g6 ⟨y2, y3, y4⟩ v6 N (.slice Ao m co) G ∧ InAt ⟨y2, y3, y4⟩ (G.take j) d N ∧ N.length ≤ j + 1)) (fun _ _ v8 _ => m - (intOf v8).toNat)
        case atStart => exact ⟨0, false, [], rfl, rfl, Nat.zero_le _, Lib.hid ⟨HS.out, InAt.start _, by simp⟩⟩
        case round =>
          obtain ⟨j, d, N, rfl, rfl, hjm, HJ⟩ := hrel
          clear HS
          obtain ⟨A6, c6, hv6⟩ := HJ.out.1.nx.shape
          subst hv6
          have hmj : m ≤ 262144 := by omega
          have HNl := Lib.hid (show N.length ≤ 262145 by have := HJ.out.2.2; omega)
          have hbx := HJ.out.1.box
          by_cases hjl : j < m
          · have hjli : (j : Int) < (m : Int) := by omega
            have hjG : j < G.length := by have := Hm.out; omega
            obtain ⟨g7, c7, hv7, z0, z1, z2⟩ := row_ky HJ.out.1.out j hjG
            injection hv7 with hA7 hn7 hc7
            have htk : G.take (j + 1) = G.take j ++ [G[j]] := List.take_succ_eq_append_getElem hjG
            subst hA7 hc7
            generalize G[j] = x at *
            obtain ⟨e1, e2, e3⟩ := x
            simp only at z0 z1 z2
            obtain ⟨q0, q1, q2⟩ : _ ∧ _ ∧ _ := ⟨hbx.cell 0, hbx.cell 1, hbx.cell 2⟩
            simp only [List.getElem?_toArray, List.getElem?_cons_zero, List.getElem?_cons_succ] at q0 q1 q2
            have heq := fun w => eqKyN e1 e2 e3 y2 y3 y4 w
            have Htk := Lib.hid htk
            have HjG := Lib.hid hjG
            clear hbx hjG hn7 htk
            have HJd := Lib.hid HJ.out.1
            cases d with
            | true =>
              have hin := Lib.hid (HJ.out.2.1.on (x := ⟨e1, e2, e3⟩))
              by_cases he : (⟨e1, e2, e3⟩ : K3) = ⟨y2, y3, y4⟩
              · rw [decide_eq_true he] at heq
                clear he
                go_wp2_with fail
                go_quiet (fail)
                have HD := Lib.hid (HJd.out.keep (below_drewN (Below.refl _ _) nq))
                have z0 := (show (wr.drewN nq).cell? ⟨g7, j * 3, none⟩ = _ from z0)
                have z1 := (show (wr.drewN nq).cell? ⟨g7, j * 3 + 1, none⟩ = _ from z1)
                have z2 := (show (wr.drewN nq).cell? ⟨g7, j * 3 + 2, none⟩ = _ from z2)
                have q0 := (show (wr.drewN nq).cell? ⟨g6, 0, none⟩ = _ from q0)
                have q1 := (show (wr.drewN nq).cell? ⟨g6, 1, none⟩ = _ from q1)
                have q2 := (show (wr.drewN nq).cell? ⟨g6, 2, none⟩ = _ from q2)
                generalize wr.drewN nq = wd at *
                go_wp2_with fail
                go_quiet (fail)
                have HD2 := Lib.hid (HD.out.keep (below_drewN (Below.refl _ _) nq))
                have z0 := (show (wd.drewN nq).cell? ⟨g7, j * 3, none⟩ = _ from z0)
                have z1 := (show (wd.drewN nq).cell? ⟨g7, j * 3 + 1, none⟩ = _ from z1)
                have z2 := (show (wd.drewN nq).cell? ⟨g7, j * 3 + 2, none⟩ = _ from z2)
                have q0 := (show (wd.drewN nq).cell? ⟨g6, 0, none⟩ = _ from q0)
                have q1 := (show (wd.drewN nq).cell? ⟨g6, 1, none⟩ = _ from q1)
                have q2 := (show (wd.drewN nq).cell? ⟨g6, 2, none⟩ = _ from q2)
                generalize wd.drewN nq = we at *
                have HD2n := Lib.hid HD2.out.nx
                go_wp2_with (at_builtin; (refine app_row K3.cells (fun _ => rfl) (by decide) (bytes := 24) (by decide) infoK13 rfl Tryz.underlying54 onesK13 (by rfl) _ _ (by rfl) Bi _ N (by rfl) (HD2n.out.alloc _) we.heap.size ⟨e1, e2, e3⟩ (by rfl) (Blk.new _ _ _) (by have := HNl.out; simp; omega) (by have := HD2.out.bi; simp; omega) ?_); intro v8 w8 hownX hgX hor; have R8 := Lib.hid hownX; have G8 := Lib.hid hgX; clear hownX hgX hor)
                obtain ⟨A8, c8, hv8⟩ := R8.out.shape
                subst hv8
                have HE := Lib.hid ((HD2.out.keep (below_new we _)).app R8.out G8.out)
                go_wp2
                go_roundw
                case measure => simp only [intOf]; omega
                case rel => exact ⟨j + 1, true, _, by go_num, rfl, hjl, Lib.hid ⟨HE.out, by rw [Htk.out]; exact hin.out, by have := HJ.out.2.2; simp; omega⟩⟩
              · rw [decide_eq_false he] at heq
                clear he
                go_wp2_with fail
                go_quiet (fail)
                have HD := Lib.hid (HJd.out.keep (below_drewN (Below.refl _ _) nq))
                have z0 := (show (wr.drewN nq).cell? ⟨g7, j * 3, none⟩ = _ from z0)
                have z1 := (show (wr.drewN nq).cell? ⟨g7, j * 3 + 1, none⟩ = _ from z1)
                have z2 := (show (wr.drewN nq).cell? ⟨g7, j * 3 + 2, none⟩ = _ from z2)
                have q0 := (show (wr.drewN nq).cell? ⟨g6, 0, none⟩ = _ from q0)
                have q1 := (show (wr.drewN nq).cell? ⟨g6, 1, none⟩ = _ from q1)
                have q2 := (show (wr.drewN nq).cell? ⟨g6, 2, none⟩ = _ from q2)
                generalize wr.drewN nq = wd at *
                go_wp2_with fail
                go_quiet (fail)
                have HD2 := Lib.hid (HD.out.keep (below_drewN (Below.refl _ _) nq))
                have z0 := (show (wd.drewN nq).cell? ⟨g7, j * 3, none⟩ = _ from z0)
                have z1 := (show (wd.drewN nq).cell? ⟨g7, j * 3 + 1, none⟩ = _ from z1)
                have z2 := (show (wd.drewN nq).cell? ⟨g7, j * 3 + 2, none⟩ = _ from z2)
                have q0 := (show (wd.drewN nq).cell? ⟨g6, 0, none⟩ = _ from q0)
                have q1 := (show (wd.drewN nq).cell? ⟨g6, 1, none⟩ = _ from q1)
                have q2 := (show (wd.drewN nq).cell? ⟨g6, 2, none⟩ = _ from q2)
                generalize wd.drewN nq = we at *
                have HD2n := Lib.hid HD2.out.nx
                go_wp2_with (at_builtin; (refine app_row K3.cells (fun _ => rfl) (by decide) (bytes := 24) (by decide) infoK13 rfl Tryz.underlying54 onesK13 (by rfl) _ _ (by rfl) Bi _ N (by rfl) (HD2n.out.alloc _) we.heap.size ⟨e1, e2, e3⟩ (by rfl) (Blk.new _ _ _) (by have := HNl.out; simp; omega) (by have := HD2.out.bi; simp; omega) ?_); intro v8 w8 hownX hgX hor; have R8 := Lib.hid hownX; have G8 := Lib.hid hgX; clear hownX hgX hor)
                obtain ⟨A8, c8, hv8⟩ := R8.out.shape
                subst hv8
                have HE := Lib.hid ((HD2.out.keep (below_new we _)).app R8.out G8.out)
                go_wp2
                go_roundw
                case measure => simp only [intOf]; omega
                case rel => exact ⟨j + 1, true, _, by go_num, rfl, hjl, Lib.hid ⟨HE.out, by rw [Htk.out]; exact hin.out, by have := HJ.out.2.2; simp; omega⟩⟩
            | false =>
              by_cases he : (⟨e1, e2, e3⟩ : K3) = ⟨y2, y3, y4⟩
              · rw [decide_eq_true he] at heq
                have hin := Lib.hid (show InAt ⟨y2, y3, y4⟩ (G.take j ++ [⟨e1, e2, e3⟩]) true (N ++ [⟨e1, e2, e3⟩]) by rw [he]; exact HJ.out.2.1.met)
                clear he
                go_wp2_with fail
                go_quiet (fail)
                have HD := Lib.hid (HJd.out.keep (below_drewN (Below.refl _ _) nq))
                have z0 := (show (wr.drewN nq).cell? ⟨g7, j * 3, none⟩ = _ from z0)
                have z1 := (show (wr.drewN nq).cell? ⟨g7, j * 3 + 1, none⟩ = _ from z1)
                have z2 := (show (wr.drewN nq).cell? ⟨g7, j * 3 + 2, none⟩ = _ from z2)
                have q0 := (show (wr.drewN nq).cell? ⟨g6, 0, none⟩ = _ from q0)
                have q1 := (show (wr.drewN nq).cell? ⟨g6, 1, none⟩ = _ from q1)
                have q2 := (show (wr.drewN nq).cell? ⟨g6, 2, none⟩ = _ from q2)
                generalize wr.drewN nq = wd at *
                go_wp2_with fail
                go_quiet (fail)
                have HD2 := Lib.hid (HD.out.keep (below_drewN (Below.refl _ _) nq))
                have z0 := (show (wd.drewN nq).cell? ⟨g7, j * 3, none⟩ = _ from z0)
                have z1 := (show (wd.drewN nq).cell? ⟨g7, j * 3 + 1, none⟩ = _ from z1)
                have z2 := (show (wd.drewN nq).cell? ⟨g7, j * 3 + 2, none⟩ = _ from z2)
                have q0 := (show (wd.drewN nq).cell? ⟨g6, 0, none⟩ = _ from q0)
                have q1 := (show (wd.drewN nq).cell? ⟨g6, 1, none⟩ = _ from q1)
                have q2 := (show (wd.drewN nq).cell? ⟨g6, 2, none⟩ = _ from q2)
                generalize wd.drewN nq = we at *
                have HD2n := Lib.hid HD2.out.nx
                go_wp2_with (at_builtin; (refine app_row K3.cells (fun _ => rfl) (by decide) (bytes := 24) (by decide) infoK13 rfl Tryz.underlying54 onesK13 (by rfl) _ _ (by rfl) Bi _ N (by rfl) (HD2n.out.alloc _) we.heap.size ⟨e1, e2, e3⟩ (by rfl) (Blk.new _ _ _) (by have := HNl.out; simp; omega) (by have := HD2.out.bi; simp; omega) ?_); intro v8 w8 hownX hgX hor; have R8 := Lib.hid hownX; have G8 := Lib.hid hgX; clear hownX hgX hor)
                obtain ⟨A8, c8, hv8⟩ := R8.out.shape
                subst hv8
                have HE := Lib.hid ((HD2.out.keep (below_new we _)).app R8.out G8.out)
                go_wp2
                go_roundw
                case measure => simp only [intOf]; omega
                case rel => exact ⟨j + 1, true, _, by go_num, rfl, hjl, Lib.hid ⟨HE.out, by rw [Htk.out]; exact hin.out, by have := HJ.out.2.2; simp; omega⟩⟩
              · rw [decide_eq_false he] at heq
                have He := Lib.hid he
                clear he
                go_wp2_with fail
                go_quiet (fail)
                have HD := Lib.hid (HJd.out.keep (below_drewN (Below.refl _ _) nq))
                have z0 := (show (wr.drewN nq).cell? ⟨g7, j * 3, none⟩ = _ from z0)
                have z1 := (show (wr.drewN nq).cell? ⟨g7, j * 3 + 1, none⟩ = _ from z1)
                have z2 := (show (wr.drewN nq).cell? ⟨g7, j * 3 + 2, none⟩ = _ from z2)
                have q0 := (show (wr.drewN nq).cell? ⟨g6, 0, none⟩ = _ from q0)
                have q1 := (show (wr.drewN nq).cell? ⟨g6, 1, none⟩ = _ from q1)
                have q2 := (show (wr.drewN nq).cell? ⟨g6, 2, none⟩ = _ from q2)
                generalize wr.drewN nq = wd at *
                obtain ⟨t, ht⟩ : ∃ t, lessK ⟨y2, y3, y4⟩ ⟨e1, e2, e3⟩ = t := ⟨_, rfl⟩
                have HT := Lib.hid ht
                have CL := Lib.hid (fun dd os => Calls.regrown_of (w := wd) (d := dd) (os := os) (Less07 y2 y3 y4 e1 e2 e3 _ ht))
                have r0 := cell_regrown z0
                have r1 := cell_regrown z1
                have r2 := cell_regrown z2
                have s0 := cell_regrown q0
                have s1 := cell_regrown q1
                have s2 := cell_regrown q2
                clear z0 z1 z2 q0 q1 q2 ht
                go_wp2_with fail
                refine wp_region_quiet_below (by kernel_rfl) (by kernel_rfl) ?_
                repeat (go_big_quiet_step (exact CL.out _ _))
                refine wpQuiet_nil ?_
                rintro w3 ⟨⟨dq, osq⟩, rfl⟩
                have HD2 := Lib.hid (HD.out.keep (below_regrown wd dq osq))
                have z0 := r0 dq osq
                have z1 := r1 dq osq
                have z2 := r2 dq osq
                have q0 := s0 dq osq
                have q1 := s1 dq osq
                have q2 := s2 dq osq
                generalize grow (redrawn wd dq) osq = we at *
                clear r0 r1 r2 s0 s1 s2
                cases t with
                | false =>
                  have hin := Lib.hid (HJ.out.2.1.past He.out HT.out)
                  have HD2n := Lib.hid HD2.out.nx
                  go_wp2_with (at_builtin; (refine app_row K3.cells (fun _ => rfl) (by decide) (bytes := 24) (by decide) infoK13 rfl Tryz.underlying54 onesK13 (by rfl) _ _ (by rfl) Bi _ N (by rfl) (HD2n.out.alloc _) we.heap.size ⟨e1, e2, e3⟩ (by rfl) (Blk.new _ _ _) (by have := HNl.out; simp; omega) (by have := HD2.out.bi; simp; omega) ?_); intro v8 w8 hownX hgX hor; have R8 := Lib.hid hownX; have G8 := Lib.hid hgX; clear hownX hgX hor)
                  obtain ⟨A8, c8, hv8⟩ := R8.out.shape
                  subst hv8
                  have HE := Lib.hid ((HD2.out.keep (below_new we _)).app R8.out G8.out)
                  go_wp2
                  go_roundw
                  case measure => simp only [intOf]; omega
                  case rel => exact ⟨j + 1, false, _, by go_num, rfl, hjl, Lib.hid ⟨HE.out, by rw [Htk.out]; exact hin.out, by have := HJ.out.2.2; simp; omega⟩⟩
                | true =>
                  have hin := Lib.hid (HJ.out.2.1.put He.out HT.out)
                  have HD2n := Lib.hid HD2.out.nx
                  have HNj := Lib.hid (HJ.out.2.1.len)
                  go_wp2_with (first | (have _ := HD3n.out; at_builtin; (refine app_row K3.cells (fun _ => rfl) (by decide) (bytes := 24) (by decide) infoK13 rfl Tryz.underlying54 onesK13 (by rfl) _ _ (by rfl) Bi _ (N ++ [⟨y2, y3, y4⟩]) (by rfl) (HD3n.out.alloc _) w7.heap.size ⟨e1, e2, e3⟩ (by rfl) (Blk.new _ _ _) (by have := HNl.out; simp; omega) (by have := HD3.out.bi; simp; omega) ?_); intro v8 w8 hownX hgX hor; have R8 := Lib.hid hownX; have G8 := Lib.hid hgX; clear hownX hgX hor) | (at_builtin; (refine app_row K3.cells (fun _ => rfl) (by decide) (bytes := 24) (by decide) infoK13 rfl Tryz.underlying54 onesK13 (by rfl) _ _ (by rfl) Bi _ N (by rfl) (HD2n.out.alloc _) we.heap.size ⟨y2, y3, y4⟩ (by rfl) (Blk.new _ _ _) (by have := HNl.out; simp; omega) (by have := HD2.out.bi; simp; omega) ?_); intro v7 w7 hownX hgX hor; have R7 := Lib.hid hownX; have G7 := Lib.hid hgX; clear hownX hgX hor; go_must (obtain ⟨A7, c7, hv7⟩ := R7.out.shape; subst hv7; obtain ⟨n7, hn7⟩ : ∃ n, (N ++ [(⟨y2, y3, y4⟩ : K3)]).length = n := ⟨_, rfl⟩; rw [hn7] at R7 ⊢; clear hn7; have HD3 := Lib.hid ((HD2.out.keep (below_new we _)).app R7.out G7.out); obtain ⟨z0, z1, z2⟩ := gone_cells HD2.out HD3.out j HjG.out (by rw [Hm.out]) z0 z1 z2; have HD3n := Lib.hid HD3.out.nx)))
                  obtain ⟨A8, c8, hv8⟩ := R8.out.shape
                  subst hv8
                  have HE := Lib.hid ((HD3.out.keep (below_new w7 _)).app R8.out G8.out)
                  go_wp2
                  go_roundw
                  case measure => simp only [intOf]; omega
                  case rel => exact ⟨j + 1, true, _, by go_num, rfl, hjl, Lib.hid ⟨HE.out, by rw [Htk.out]; exact hin.out, by have := HNj.out; simp; omega⟩⟩
          · have hje : j = m := by omega
            subst hje
            have hjli : ¬ (j : Int) < (j : Int) := by omega
            have hall : G.take j = G := by rw [← Hm.out, List.take_length]
            have hin := HJ.out.2.1
            rw [hall] at hin
            have hend := hin.ends
            obtain ⟨q0, q1, q2⟩ : _ ∧ _ ∧ _ := ⟨hbx.cell 0, hbx.cell 1, hbx.cell 2⟩
            simp only [List.getElem?_toArray, List.getElem?_cons_zero, List.getElem?_cons_succ] at q0 q1 q2
            have Hend := Lib.hid hend
            have HJn := Lib.hid HJ.out.1.nx
            clear hbx hall hin hend hjl
            cases d with
            | true =>
              go_wp2
              go_roundw
              case measure => have := Hlt.out; simp only [intOf]; omega
              case rel =>
                refine ⟨k + 1, by go_num, Hlt.out, ?_, HJ.out.1.bel⟩
                rw [HGm.out, Hend.out, if_pos rfl]
                exact HJ.out.1.nx.lower HJ.out.1.low
            | false =>
              go_wp2_with (at_builtin; (refine app_row K3.cells (fun _ => rfl) (by decide) (bytes := 24) (by decide) infoK13 rfl Tryz.underlying54 onesK13 (by rfl) _ _ (by rfl) Bi _ N (by rfl) (HJn.out.alloc _) wr.heap.size ⟨y2, y3, y4⟩ (by rfl) (Blk.new _ _ _) (by have := HNl.out; simp; omega) (by have := HJ.out.1.bi; simp; omega) ?_); intro v8 w8 hownX hgX hor; have R8 := Lib.hid hownX; have G8 := Lib.hid hgX; clear hownX hgX hor)
              obtain ⟨A8, c8, hv8⟩ := R8.out.shape
              subst hv8
              have HE := Lib.hid ((HJ.out.1.keep (below_new wr _)).app R8.out G8.out)
              go_wp2
              go_roundw
              case measure => have := Hlt.out; simp only [intOf]; omega
              case rel =>
                refine ⟨k + 1, by go_num, Hlt.out, ?_, HE.out.bel⟩
                rw [HGm.out, Hend.out, if_neg (by decide)]
                exact HE.out.nx.lower HE.out.low
      · rw [if_neg h60, List.append_nil] at Hmore
        have h60b : (y1 != 60) = true := by simp [h60]
        have h60c : (y1 == 60) = false := by simp [h60]
        have HGm := Lib.hid (show goneL (goneOf (l.take (k + 1))) = G by rw [Hmore.out, HG.out])
        clear h60
        go_wp2
        go_roundw
        case measure => have := Hlt.out; simp only [intOf]; omega
        case rel => exact ⟨k + 1, by go_num, Hlt.out, by rw [HGm.out]; exact Hown.out, Hb.out⟩
    · have hke : k = l.length := by omega
      subst hke
      have hkl : ¬ (l.length : Int) < (l.length : Int) := by omega
      obtain ⟨A7, c7, hv7⟩ := hown.shape
      have hH2 : goneL (goneOf (l.take l.length)) = goneL (goneOf l) := by rw [List.take_length]
      rw [hH2] at hown hv7
      subst hv7
      have O8 := Lib.hid hown
      have B8 := Lib.hid hb
      clear hown hb hlt hGl
      go_wp2
      go_ret
      exact ⟨⟨_, rfl, O8.out⟩, B8.out⟩

end Go.Proofs.YtpnbibokddhheaaGreat

/-
  Layer 13: what is gone, and what is told, are all.
-/
namespace Go.Proofs.YtpnbibokddhheaaGreat
open Go.RowKit Go.Sort

theorem SuGoneK (A : Option Addr) (c : Nat) (l : List Lsa) (w : World) (B : Nat) (h : RowsAt 9 Lsa.cells w B A l) (hB : B ≤ w.heap.size) (hm : l.length ≤ 2 ^ 20) (nn : Nat) (hnn : nn = l.length) :
    Calls Tryz.prog 14 #[.slice A nn c] w fun r w' => (∃ v, r = .returned v ∧ OwnKy w' w.heap.size v (goneL (goneOf l))) ∧ Below w.heap.size w w' := by
  refine SuGone_any A c l w B h hB hm nn hnn (goneL (goneOf l)) (fun W A n c N hown hp hs => ?_)
  have hn : n = N.length := (OwnR.rows (C := 3) (cells := K3.cells) (fun _ => rfl) hown).1
  have hl : N.length ≤ 2 ^ 20 := by
    have h1 := hp.length_eq
    have h2 := gone_len l
    omega
  refine (compactK A c n N W w.heap.size hown hn hl).mono ?_
  rintro r W' ⟨v, rfl, ho, hg, -⟩
  rw [goneL_of hp hs] at ho
  exact ⟨⟨v, rfl, ho⟩, hg⟩
theorem headsOf_v (l : List Lsa) : headsOf l = ((l.map vX).filter fun v => decide (v.1.age ≠ 60)).map fun v => v.1 := by
  unfold headsOf
  rw [List.filter_map, List.map_map]
  rfl
theorem goneOf_v (l : List Lsa) : goneOf l = ((l.map vX).filter fun v => decide (v.1.age = 60)).map keyV := by
  unfold goneOf
  rw [List.filter_map, List.map_map]
  rfl
theorem gone_nodup {l : List Lsa} (h : (l.map keyX).Nodup) : (goneOf l).Nodup := by
  unfold goneOf
  exact h.sublist (List.filter_sublist.map keyX)
theorem filter_two {α : Type} (p : α → Bool) : ∀ l : List α, (l.filter p).length + (l.filter fun x => !p x).length = l.length
  | [] => rfl
  | x :: l => by
    have := filter_two p l
    cases h : p x <;> simp [h] <;> omega
/-- what is gone, and what is told, are all -/
theorem gone_told {N N' M : List Lsa} (h : (N.map vX).Perm (M.map vX)) (h' : (N'.map vX).Perm (M.map vX)) (hn : (N.map keyX).Nodup) : (goneL (goneOf N)).length + (stbS (headsOf N')).length = M.length := by
  rw [goneL_new (gone_nodup hn), stbS_len, goneOf_v, headsOf_v, List.length_map, List.length_map, (h.filter _).length_eq, (h'.filter _).length_eq]
  have := filter_two (fun v : VX => decide (v.1.age = 60)) (M.map vX)
  rw [List.length_map] at this
  have e : (M.map vX).filter (fun v => decide (v.1.age ≠ 60)) = (M.map vX).filter (fun v => !decide (v.1.age = 60)) := by
    congr 1
    funext v
    by_cases hv : v.1.age = 60 <;> simp [hv]
  rw [e]
  omega

end Go.Proofs.YtpnbibokddhheaaGreat
