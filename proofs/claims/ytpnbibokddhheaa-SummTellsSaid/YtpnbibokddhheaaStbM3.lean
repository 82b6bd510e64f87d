/-
  slices.symMergeCmpFunc at heads: two parts that are sorted, side by side, are merged stably.
-/
import Derived.Test.YtpnbibokddhheaaStbM2
import Derived.Deep.Cut
import Derived.Deep.CutRange
namespace Go.Proofs.Ytpnbibokddhheaa
open Go.RowKit Go.Sort Go.Shelf

/-- merging is right where less than n elements are merged -/
def MergeOk (w0 : World) (blk cap : Nat) (d0 : Array Hd) (n : Nat) : Prop := ∀ (W : World) (dk : Array Hd) (P X Y S : List Hd) (a m b : Nat), SWK Hd.cells 7 w0 blk 0 dk W → dk.size = d0.size → dk.toList = P ++ (X ++ (Y ++ S)) → SrtL ltS X → SrtL ltS Y → 0 < X.length → 0 < Y.length → X.length + Y.length < n → a = P.length → m = P.length + X.length → b = P.length + X.length + Y.length →
    Calls Try.prog 94 #[.slice (some ⟨blk, 0, none⟩) d0.size cap, .int .i64 a, .int .i64 m, .int .i64 b, .func (.func 45) #[] #[]] W fun e w' => MergedTo w0 blk d0 P X Y S e w'
theorem stb_mono {X1 X2 Y1 Y2 Z1 Z2 : List Hd} (hX : SrtL ltS (X1 ++ X2)) (hY : SrtL ltS (Y1 ++ Y2)) (h1 : ∀ x ∈ X2, ∀ y ∈ Y1, ltS y x = true) (h2 : ∀ x ∈ X1, ∀ y ∈ Y2, ltS y x = false) (g1 : Stb ltS (X1 ++ Y1) Z1) (g2 : Stb ltS (X2 ++ Y2) Z2) : Stb ltS ((X1 ++ X2) ++ (Y1 ++ Y2)) (Z1 ++ Z2) := merge_cut swoS hX hY h1 h2 g1 g2
set_option maxHeartbeats 8000000 in
set_option maxRecDepth 100000 in
theorem mergeMain {w0 W : World} {blk cap : Nat} {d0 dk : Array Hd} (R : RowK Hd.cells 7 w0 blk 0 d0) (hW : SWK Hd.cells 7 w0 blk 0 dk W) (hs : dk.size = d0.size) (hsz : d0.size < 2 ^ 20)
    (P X Y S : List Hd) (hd : dk.toList = P ++ (X ++ (Y ++ S))) (hX : SrtL ltS X) (hY : SrtL ltS Y) (h2 : 1 < X.length) (h3 : 1 < Y.length) (a m b : Nat) (ha : a = P.length) (hm : m = P.length + X.length) (hb : b = P.length + X.length + Y.length) (hI : MergeOk w0 blk cap d0 (X.length + Y.length)) :
    Calls Try.prog 94 #[.slice (some ⟨blk, 0, none⟩) d0.size cap, .int .i64 a, .int .i64 m, .int .i64 b, .func (.func 45) #[] #[]] W fun e w' => MergedTo w0 blk d0 P X Y S e w' := by
  have hsum : P.length + X.length + Y.length ≤ d0.size := by rw [← hs, ← Array.length_toList, hd]; simp; omega
  obtain ⟨lx, hlx⟩ : ∃ n, m - a = n := ⟨_, rfl⟩
  obtain ⟨ly, hly⟩ : ∃ n, b - m = n := ⟨_, rfl⟩
  obtain ⟨mid, hmid⟩ : ∃ n, (a + b) / 2 = n := ⟨_, rfl⟩
  obtain ⟨nn, hnn⟩ : ∃ n, mid + m = n := ⟨_, rfl⟩
  obtain ⟨pp, hpp⟩ : ∃ n, nn - 1 = n := ⟨_, rfl⟩
  have hma : (m : Int) - (a : Int) = (lx : Int) := by omega
  have hbm : (b : Int) - (m : Int) = (ly : Int) := by omega
  have hne1 : ((lx : Int) == 1) = false := by simp; omega
  have hne2 : ((ly : Int) == 1) = false := by simp; omega
  have hmidi : ((a : Int) + (b : Int)) / 2 = (mid : Int) := by omega
  have hnni : (mid : Int) + (m : Int) = (nn : Int) := by omega
  have hppi : (nn : Int) - 1 = (pp : Int) := by omega
  have hbb : b ≤ 1048576 := by omega
  have hmb : m ≤ 1048576 := by omega
  have hab : a ≤ 1048576 := by omega
  have hmidb : mid ≤ 1048576 := by omega
  have hnnb : nn ≤ 2097152 := by omega
  have hppb : pp ≤ 2097152 := by omega
  have hlxb : lx ≤ 1048576 := by omega
  have hlyb : ly ≤ 1048576 := by omega
  obtain ⟨s0, r0, hsr⟩ : ∃ s0 r0 : Nat, (mid < m ∧ s0 = nn - b ∧ r0 = mid) ∨ (¬ mid < m ∧ s0 = a ∧ r0 = m) := by
    by_cases h : mid < m
    · exact ⟨_, _, .inl ⟨h, rfl, rfl⟩⟩
    · exact ⟨_, _, .inr ⟨h, rfl, rfl⟩⟩
  have HR := Lib.hid R
  have HWW := Lib.hid hW
  have HC := Lib.hid (show dk.size = d0.size ∧ dk.toList = P ++ (X ++ (Y ++ S)) ∧ SrtL ltS X ∧ SrtL ltS Y from ⟨hs, hd, hX, hY⟩)
  have HN := Lib.hid (show a = P.length ∧ m = P.length + X.length ∧ b = P.length + X.length + Y.length ∧ b ≤ d0.size ∧ a + 2 ≤ m ∧ m + 2 ≤ b ∧ 2 * mid ≤ a + b ∧ a + b ≤ 2 * mid + 1 ∧ nn = mid + m ∧ pp + 1 = nn from by omega)
  have HSR := Lib.hid hsr
  have HI := Lib.hid hI
  have HB := Lib.hid (show s0 ≤ r0 ∧ r0 ≤ m ∧ a ≤ s0 ∧ nn ≤ b + s0 from by omega)
  have hs0b : s0 ≤ 1048576 := by omega
  have hr0b : r0 ≤ 1048576 := by omega
  have mixed : Try.prog.follows .mixedOrders = true := by kernel_rfl
  clear R hW hs hd hX hY ha hm hb hsum hlx hly hmid hnn hpp hI hsr h2 h3
  go_enter Try.func94, Try.ntmps94
  go_upto_if 140 with fail
  go_cut [20, 21] from 138 (fun v20 v21 wx => v20 = .int .i64 s0 ∧ v21 = .int .i64 r0 ∧ wx = W)
  case first =>
    rcases HSR.out with ⟨h1, h2, h3⟩ | ⟨h1, h2, h3⟩
    · have h1i : (mid : Int) < (m : Int) := by omega
      have h2i : (nn : Int) - (b : Int) = (s0 : Int) := by have := HN.out; omega
      subst h3
      clear h2
      go_wp2_with fail
      go_meet
      case rel => exact ⟨by go_num, rfl, rfl⟩
    · have h1i : ¬ (mid : Int) < (m : Int) := by omega
      subst h2 h3
      go_wp2_with fail
      go_meet
      case rel => exact ⟨rfl, rfl, rfl⟩
  case rest =>
    obtain ⟨rfl, rfl, rfl⟩ := hcut
    clear hma hbm hne1 hne2 hmidi hnni
    go_wp2_with fail
    go_loopg [20, 21] (r0 - s0) (fun g v20 v21 wr => ∃ (s r : Nat), v20 = .int .i64 s ∧ v21 = .int .i64 r ∧ s0 ≤ s ∧ s ≤ r ∧ r ≤ r0 ∧ r - s ≤ g ∧ Hid (SWK Hd.cells 7 w0 blk 0 dk wr) ∧ Hid ((s = s0 ∨ ltS dk[nn - s]! dk[s - 1]! = false) ∧ (r = r0 ∨ ltS dk[nn - 1 - r]! dk[r]! = true)))
    case atStart => exact ⟨s0, r0, rfl, rfl, Nat.le_refl _, HB.out.1, Nat.le_refl _, Nat.le_refl _, HWW, Lib.hid ⟨.inl rfl, .inl rfl⟩⟩
    case round =>
      obtain ⟨s, r, rfl, rfl, hs0, hsr, hr0, hg, HW, HJ⟩ := hrel
      clear hppi
      by_cases hlt : s < r
      · have hlti : (s : Int) < (r : Int) := by omega
        obtain ⟨c, hh⟩ : ∃ h, (s + r) / 2 = h := ⟨_, rfl⟩
        have hdiv : ((s : Int) + (r : Int)) / 2 = (c : Int) := by omega
        have hsc : s ≤ c := by omega
        have hcr : c < r := by omega
        obtain ⟨pc, hpc⟩ : ∃ k, pp - c = k := ⟨_, rfl⟩
        have hHN := HN.out
        have hHB := HB.out
        have hpci : (pp : Int) - (c : Int) = (pc : Int) := by omega
        have hpcb : pc ≤ 2097152 := by omega
        have hpcw : IntKind.i64.wrap (pc : Int) = (pc : Int) := by rw [IntKind.wrap_i64]; omega
        have hcd : c < dk.size := by have := HC.out.1; omega
        have hpd : pc < dk.size := by have := HC.out.1; omega
        have hci : (c : Int) < (d0.size : Int) := by omega
        have hpi : (pc : Int) < (d0.size : Int) := by have := HC.out.1; omega
        obtain ⟨y, hy⟩ : ∃ y, dk[pc]! = y := ⟨_, rfl⟩
        obtain ⟨x, hx⟩ : ∃ x, dk[c]! = x := ⟨_, rfl⟩
        obtain ⟨x0, x1, x2, x3, x4, x5, x6⟩ := swk_gd HW.out HR.out HC.out.1 c hcd hx
        obtain ⟨y0, y1, y2, y3, y4, y5, y6⟩ := swk_gd HW.out HR.out HC.out.1 pc hpd hy
        have hc := fun n os => newCmp_any y x (grow (wr.drewN n) os)
        have HG := Lib.hid (fun n os => HW.out.grown n os)
        have Hxy := Lib.hid (show dk[nn - (c + 1)]! = y ∧ dk[c]! = x ∧ nn - 1 - c = nn - (c + 1) from ⟨by rw [← hy]; congr 1; omega, hx, by omega⟩)
        have hl := cmpS_lt y x
        obtain ⟨cv, hcv⟩ : ∃ c, cmpS y x = c := ⟨_, rfl⟩
        rw [hcv] at hc hl
        have HL := Lib.hid hl
        clear hh hcd hpd hy hx hcv hl hpc hHN hHB
        by_cases hneg : cv < 0
        · have HB2 := Lib.hid (show ltS y x = true by rw [← HL.out]; exact decide_eq_true hneg)
          go_wp2_with fail
          go_quiet_grown (first | (go_at_call 45; refine Calls.grown_of (hc _ _)))
          go_wp2
          go_roundg (c - s)
          case measure => omega
          case rel => exact ⟨s, c, rfl, by go_num, hs0, hsc, by omega, Nat.le_refl _, Lib.hid (HG.out _ _), Lib.hid ⟨HJ.out.1, .inr (by rw [Hxy.out.2.2, Hxy.out.1, Hxy.out.2.1]; exact HB2.out)⟩⟩
        · have HB2 := Lib.hid (show ltS y x = false by rw [← HL.out]; exact decide_eq_false hneg)
          have hnb : decide (cv < 0) = false := decide_eq_false hneg
          have hnb2 : 0 ≤ cv := by omega
          go_wp2_with fail
          go_quiet_grown (first | (go_at_call 45; refine Calls.grown_of (hc _ _)))
          go_wp2
          go_roundg (r - (c + 1))
          case measure => omega
          case rel => exact ⟨c + 1, r, by go_num, rfl, by omega, by omega, hr0, Nat.le_refl _, Lib.hid (HG.out _ _), Lib.hid ⟨.inr (by rw [Nat.add_sub_cancel, Hxy.out.1, Hxy.out.2.1]; exact HB2.out), HJ.out.2⟩⟩
      · obtain rfl : s = r := by omega
        obtain ⟨en, hen⟩ : ∃ k, nn - s = k := ⟨_, rfl⟩
        have heni : (nn : Int) - (s : Int) = (en : Int) := by have := HN.out; have := HB.out; omega
        have hcut2 : ∃ X1 X2 Y1 Y2, X = X1 ++ X2 ∧ Y = Y1 ++ Y2 ∧ X1.length = s - a ∧ Y1.length = en - m ∧ (∀ x ∈ X2, ∀ y ∈ Y1, ltS y x = true) ∧ (∀ x ∈ X1, ∀ y ∈ Y2, ltS y x = false) ∧ a ≤ s ∧ s ≤ m ∧ m ≤ en ∧ en ≤ b := by
          obtain ⟨n1, n2, n3, n4, n5, n6, n7, n8, n9, n10⟩ := HN.out
          obtain ⟨b1, b2, b3, b4⟩ := HB.out
          obtain ⟨c1, c2, c3, c4⟩ := HC.out
          have hsr := HSR.out
          have hd2 : dk.toList = P ++ X ++ Y ++ S := by rw [c2]; simp
          have q1 : a ≤ s := by omega
          have q2 : s ≤ m := by omega
          have q3 : m ≤ en := by omega
          have q4 : en ≤ b := by omega
          have := search_cut swoS (P := P) (S := S) (st := s) (en := en) c3 c4 (by omega) (by omega) (by omega) (by omega) (by
            rcases HJ.out.1 with e | e
            · rcases hsr with ⟨g1, g2, g3⟩ | ⟨g1, g2, g3⟩
              · exact .inr (.inl (by omega))
              · exact .inl (by omega)
            · by_cases h1 : s = P.length
              · exact .inl h1
              · by_cases h2 : en = P.length + X.length + Y.length
                · exact .inr (.inl h2)
                · exact .inr (.inr ⟨_, _, by rw [← hd2]; exact arr_some (by omega) rfl, by rw [← hd2, ← hen]; exact arr_some (by omega) rfl, e⟩)) (by
            rcases HJ.out.2 with e | e
            · rcases hsr with ⟨g1, g2, g3⟩ | ⟨g1, g2, g3⟩
              · exact .inr (.inl (by omega))
              · exact .inl (by omega)
            · by_cases h1 : s = P.length + X.length
              · exact .inl h1
              · by_cases h2 : en = P.length + X.length
                · exact .inr (.inl h2)
                · exact .inr (.inr ⟨_, _, by rw [← hd2]; exact arr_some (by omega) rfl, by rw [← hd2, show en - 1 = nn - 1 - s by omega]; exact arr_some (by omega) rfl, e⟩))
          obtain ⟨X1, X2, Y1, Y2, e1, e2, e3, e4, e5, e6⟩ := this
          exact ⟨X1, X2, Y1, Y2, e1, e2, by omega, by omega, e5, e6, q1, q2, q3, q4⟩
        obtain ⟨X1, X2, Y1, Y2, rfl, rfl, hX1, hY1, hc1, hc2, q1, q2, q3, q4⟩ := hcut2
        have HM := Lib.hid (fun Z1 Z2 => stb_mono (Z1 := Z1) (Z2 := Z2) HC.out.2.2.1 HC.out.2.2.2 hc1 hc2)
        have HSx := Lib.hid (show SrtL ltS X1 ∧ SrtL ltS X2 ∧ SrtL ltS Y1 ∧ SrtL ltS Y2 from ⟨HC.out.2.2.1.left, HC.out.2.2.1.right, HC.out.2.2.2.left, HC.out.2.2.2.right⟩)
        have HLn := Lib.hid (show X1.length = s - a ∧ X2.length = m - s ∧ Y1.length = en - m ∧ Y2.length = b - en ∧ P.length = a ∧ mid - a = X1.length + Y1.length ∧ a ≤ mid ∧ mid ≤ en ∧ a ≤ s ∧ s ≤ m ∧ m ≤ en ∧ en ≤ b ∧ en + s = mid + m ∧ a + 2 ≤ m ∧ m + 2 ≤ b ∧ b ≤ 1048576 from by
          obtain ⟨n1, n2, n3, n4, n5, n6, n7, n8, n9, n10⟩ := HN.out
          rw [List.length_append] at n2 n3
          rw [List.length_append] at n3
          omega)
        have hlti : ¬ (s : Int) < (s : Int) := by omega
        have henb : en ≤ 1048576 := by omega
        have hsb : s ≤ 1048576 := by omega
        clear hX1 hY1 hc1 hc2 hen hg hlt
        obtain ⟨t1, ht1⟩ : ∃ t, (decide (s < m) && decide (m < en)) = t := ⟨_, rfl⟩
        obtain ⟨t2, ht2⟩ : ∃ t, (decide (a < s) && decide (s < mid)) = t := ⟨_, rfl⟩
        obtain ⟨t3, ht3⟩ : ∃ t, (decide (mid < en) && decide (en < b)) = t := ⟨_, rfl⟩
        have HT1 := Lib.hid ht1
        have HT2 := Lib.hid ht2
        have HT3 := Lib.hid ht3
        clear ht1 ht2 ht3
        go_upto_region 39 with fail
        go_cut [185] from 178 (fun v wx => v = .bool t1 ∧ wx = wr)
        case first =>
          have ht := HT1.out
          by_cases h1 : s < m
          · have h1i : (s : Int) < (m : Int) := by omega
            by_cases h2 : m < en
            · have h2i : (m : Int) < (en : Int) := by omega
              have h3 : t1 = true := by rw [← ht]; simp [h1, h2]
              subst h3
              clear ht h1 h2
              go_wp2_with fail
              go_meet
              case rel => exact ⟨rfl, rfl⟩
            · have h2i : ¬ (m : Int) < (en : Int) := by omega
              have h3 : t1 = false := by rw [← ht]; simp [h2]
              subst h3
              clear ht h1 h2
              go_wp2_with fail
              go_meet
              case rel => exact ⟨rfl, rfl⟩
          · have h1i : ¬ (s : Int) < (m : Int) := by omega
            have h3 : t1 = false := by rw [← ht]; simp [h1]
            subst h3
            clear ht h1
            go_wp2_with fail
            go_meet
            case rel => exact ⟨rfl, rfl⟩
        case rest =>
        obtain ⟨rfl, rfl⟩ := hcut
        clear hlti
        go_upto_if 185 with fail
        go_cut [24] from 178 (fun v24 wx => v24 = .int .i64 en ∧ ∃ d1 : Array Hd, Hid (SWK Hd.cells 7 w0 blk 0 d1 wx ∧ d1.size = d0.size ∧ d1.toList = P ++ ((X1 ++ Y1) ++ ((X2 ++ Y2) ++ S))))
        case first =>
          cases t1 with
          | true =>
            have h1 := HT1.out
            simp only [Bool.and_eq_true, decide_eq_true_eq] at h1
            have HRt := Lib.hid (rotate_any (cap := cap) HR.out HW.out HC.out.1 hsz (P ++ X1) X2 Y1 (Y2 ++ S) (by rw [HC.out.2.1]; simp) (by have := HLn.out; omega) (by have := HLn.out; omega) s m en (by have := HLn.out; simp; omega) (by have := HLn.out; simp; omega) (by have := HLn.out; simp; omega) (.func (.func 45) #[] #[]))
            clear h1
            go_wp2_with (go_at_call 120; (with_reducible refine Calls.mono HRt.out ?_); rintro r w5 ⟨rfl, d5, hW5, hs5, hd5⟩; have H5 := Lib.hid (show _ ∧ _ ∧ _ from ⟨hW5, hs5, hd5⟩); clear hW5 hs5 hd5)
            go_meet
            case rel => exact ⟨by go_num, d5, Lib.hid ⟨H5.out.1, H5.out.2.1, by rw [H5.out.2.2]; simp⟩⟩
          | false =>
            have hd1 : X2 = [] ∨ Y1 = [] := by
              have h1 := HT1.out
              have h2 := HLn.out
              simp only [Bool.and_eq_false_iff, decide_eq_false_iff_not] at h1
              rcases h1 with h1 | h1
              · exact .inl (List.eq_nil_of_length_eq_zero (by omega))
              · exact .inr (List.eq_nil_of_length_eq_zero (by omega))
            go_wp2_with fail
            go_meet
            case rel => exact ⟨by go_num, dk, Lib.hid ⟨HW.out, HC.out.1, by rw [HC.out.2.1]; rcases hd1 with rfl | rfl <;> simp⟩⟩
        case rest =>
        obtain ⟨rfl, d1, HD⟩ := hcut
        go_upto_region 41 with fail
        go_cut [199] from 192 (fun v wx => v = .bool t2 ∧ wx = wc)
        case first =>
          have ht := HT2.out
          by_cases h1 : a < s
          · have h1i : (a : Int) < (s : Int) := by omega
            by_cases h2 : s < mid
            · have h2i : (s : Int) < (mid : Int) := by omega
              have h3 : t2 = true := by rw [← ht]; simp [h1, h2]
              subst h3
              clear ht h1 h2
              go_wp2_with fail
              go_meet
              case rel => exact ⟨rfl, rfl⟩
            · have h2i : ¬ (s : Int) < (mid : Int) := by omega
              have h3 : t2 = false := by rw [← ht]; simp [h2]
              subst h3
              clear ht h1 h2
              go_wp2_with fail
              go_meet
              case rel => exact ⟨rfl, rfl⟩
          · have h1i : ¬ (a : Int) < (s : Int) := by omega
            have h3 : t2 = false := by rw [← ht]; simp [h1]
            subst h3
            clear ht h1
            go_wp2_with fail
            go_meet
            case rel => exact ⟨rfl, rfl⟩
        case rest =>
        obtain ⟨rfl, rfl⟩ := hcut
        go_upto_if 199 with fail
        go_cut [24] from 192 (fun v24 wx => v24 = .int .i64 en ∧ ∃ (d2 : Array Hd) (Z1 : List Hd), Hid (SWK Hd.cells 7 w0 blk 0 d2 wx ∧ d2.size = d0.size ∧ d2.toList = P ++ (Z1 ++ ((X2 ++ Y2) ++ S)) ∧ Stb ltS (X1 ++ Y1) Z1))
        case first =>
          cases t2 with
          | true =>
            have h1 := HT2.out
            simp only [Bool.and_eq_true, decide_eq_true_eq] at h1
            have HRt := Lib.hid (HI.out _ d1 P X1 Y1 ((X2 ++ Y2) ++ S) a s mid HD.out.1 HD.out.2.1 (by rw [HD.out.2.2]; simp) HSx.out.1 HSx.out.2.2.1 (by have := HLn.out; omega) (by have := HLn.out; omega) (by have := HLn.out; obtain ⟨n1, n2, n3, n4, n5, n6, n7, n8, n9, n10⟩ := HN.out; rw [List.length_append, List.length_append]; omega) (by have := HLn.out; omega) (by have := HLn.out; omega) (by have := HLn.out; omega))
            clear h1
            go_wp2_with (go_at_call 94; (with_reducible refine Calls.mono HRt.out ?_); rintro r w5 ⟨rfl, d5, Z1, hW5, hs5, hd5, hz5⟩; have H5 := Lib.hid (show _ ∧ _ ∧ _ ∧ _ from ⟨hW5, hs5, hd5, hz5⟩); clear hW5 hs5 hd5 hz5)
            go_meet
            case rel => exact ⟨rfl, d5, Z1, H5⟩
          | false =>
            have hd1 : X1 = [] ∨ Y1 = [] := by
              have h1 := HT2.out
              have h2 := HLn.out
              simp only [Bool.and_eq_false_iff, decide_eq_false_iff_not] at h1
              rcases h1 with h1 | h1
              · exact .inl (List.eq_nil_of_length_eq_zero (by omega))
              · exact .inr (List.eq_nil_of_length_eq_zero (by omega))
            go_wp2_with fail
            go_meet
            case rel =>
              refine ⟨rfl, d1, X1 ++ Y1, Lib.hid ⟨HD.out.1, HD.out.2.1, HD.out.2.2, Stb.refl ?_⟩⟩
              rcases hd1 with rfl | rfl
              · simpa using HSx.out.2.2.1
              · simpa using HSx.out.1
        case rest =>
        obtain ⟨rfl, d2, Z1, HE⟩ := hcut
        have hZ1 : Z1.length = X1.length + Y1.length := by have := HE.out.2.2.2.len; rw [List.length_append] at this; omega
        have HZ1 := Lib.hid hZ1
        clear hZ1
        go_upto_region 43 with fail
        go_cut [213] from 206 (fun v wx => v = .bool t3 ∧ wx = wc)
        case first =>
          have ht := HT3.out
          by_cases h1 : mid < en
          · have h1i : (mid : Int) < (en : Int) := by omega
            by_cases h2 : en < b
            · have h2i : (en : Int) < (b : Int) := by omega
              have h3 : t3 = true := by rw [← ht]; simp [h1, h2]
              subst h3
              clear ht h1 h2
              go_wp2_with fail
              go_meet
              case rel => exact ⟨rfl, rfl⟩
            · have h2i : ¬ (en : Int) < (b : Int) := by omega
              have h3 : t3 = false := by rw [← ht]; simp [h2]
              subst h3
              clear ht h1 h2
              go_wp2_with fail
              go_meet
              case rel => exact ⟨rfl, rfl⟩
          · have h1i : ¬ (mid : Int) < (en : Int) := by omega
            have h3 : t3 = false := by rw [← ht]; simp [h1]
            subst h3
            clear ht h1
            go_wp2_with fail
            go_meet
            case rel => exact ⟨rfl, rfl⟩
        case rest =>
        obtain ⟨rfl, rfl⟩ := hcut
        cases t3 with
        | true =>
          have h1 := HT3.out
          simp only [Bool.and_eq_true, decide_eq_true_eq] at h1
          have HRt := Lib.hid (HI.out _ d2 (P ++ Z1) X2 Y2 S mid en b HE.out.1 HE.out.2.1 (by rw [HE.out.2.2.1]; simp) HSx.out.2.1 HSx.out.2.2.2 (by have := HLn.out; omega) (by have := HLn.out; omega) (by have := HLn.out; obtain ⟨n1, n2, n3, n4, n5, n6, n7, n8, n9, n10⟩ := HN.out; rw [List.length_append, List.length_append]; omega) (by have := HLn.out; have := HZ1.out; simp; omega) (by have := HLn.out; have := HZ1.out; simp; omega) (by have := HLn.out; have := HZ1.out; simp; omega))
          clear h1
          go_wp2_with (go_at_call 94; (with_reducible refine Calls.mono HRt.out ?_); rintro r w5 ⟨rfl, d5, Z2, hW5, hs5, hd5, hz5⟩; have H5 := Lib.hid (show _ ∧ _ ∧ _ ∧ _ from ⟨hW5, hs5, hd5, hz5⟩); clear hW5 hs5 hd5 hz5)
          go_end0
          exact ⟨rfl, d5, Z1 ++ Z2, H5.out.1, H5.out.2.1, by rw [H5.out.2.2.1]; simp, HM.out _ _ HE.out.2.2.2 H5.out.2.2.2⟩
        | false =>
          have hd1 : X2 = [] ∨ Y2 = [] := by
            have h1 := HT3.out
            have h2 := HLn.out
            simp only [Bool.and_eq_false_iff, decide_eq_false_iff_not] at h1
            rcases h1 with h1 | h1
            · exact .inl (List.eq_nil_of_length_eq_zero (by omega))
            · exact .inr (List.eq_nil_of_length_eq_zero (by omega))
          go_wp2
          go_end0
          refine ⟨rfl, d2, Z1 ++ (X2 ++ Y2), HE.out.1, HE.out.2.1, by rw [HE.out.2.2.1]; simp, HM.out _ _ HE.out.2.2.2 (Stb.refl ?_)⟩
          rcases hd1 with rfl | rfl
          · simpa using HSx.out.2.2.2
          · simpa using HSx.out.2.1
theorem merge_ok {w0 : World} {blk cap : Nat} {d0 : Array Hd} (R : RowK Hd.cells 7 w0 blk 0 d0) (hsz : d0.size < 2 ^ 20) : ∀ n, MergeOk w0 blk cap d0 n
  | 0 => fun W dk P X Y S a m b _ _ _ _ _ _ _ h => absurd h (by omega)
  | n + 1 => fun W dk P X Y S a m b hW hs hd hX hY h0 h1 hl ha hm hb => by
    by_cases hx : X.length = 1
    · obtain ⟨x, rfl⟩ := List.length_eq_one_iff.1 hx
      exact mergeFirst R hW hs hsz P Y S x (by rw [hd]; simp) hY a m b ha (by rw [hm, hx]) (by rw [hb, hx])
    · by_cases hy : Y.length = 1
      · obtain ⟨y, rfl⟩ := List.length_eq_one_iff.1 hy
        exact mergeLast R hW hs hsz P X S y (by rw [hd]; simp) hX (by omega) a m b ha hm (by rw [hb, hy])
      · refine mergeMain R hW hs hsz P X Y S hd hX hY (by omega) (by omega) a m b ha hm hb ?_
        intro W dk P' X' Y' S' a' m' b' g1 g2 g3 g4 g5 g6 g7 g8
        exact merge_ok R hsz n W dk P' X' Y' S' a' m' b' g1 g2 g3 g4 g5 g6 g7 (by omega)

end Go.Proofs.Ytpnbibokddhheaa
