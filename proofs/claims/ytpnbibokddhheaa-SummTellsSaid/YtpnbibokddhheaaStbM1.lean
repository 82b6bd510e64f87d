/-
  slices.symMergeCmpFunc at heads where one of its two parts has one element.
-/
import Derived.Test.YtpnbibokddhheaaStbRot
import Derived.Test.YtpnbibokddhheaaStbX
import Derived.Test.YtpnbibokddhheaaStbCmp
import Derived.Test.YtpnbibokddhheaaStbBlk
import Derived.Shelf.SlSortCmp.QuietGrown
namespace Go.Proofs.Ytpnbibokddhheaa
open Go.RowKit Go.Sort Go.Shelf

/-- what a merge leaves: the part from a on is sorted stably -/
def MergedTo (w0 : World) (blk : Nat) (d0 : Array Hd) (P X Y S : List Hd) (e : Ending) (w' : World) : Prop :=
  e = .returned (.tuple #[]) ∧ ∃ d' Z, SWK Hd.cells 7 w0 blk 0 d' w' ∧ d'.size = d0.size ∧ d'.toList = P ++ (Z ++ S) ∧ Stb ltS (X ++ Y) Z
theorem get_at {d : Array Hd} {A B : List Hd} {x : Hd} (h : d.toList = A ++ x :: B) (i : Nat) (hi : i = A.length) : d[i]! = x := by
  subst hi
  exact arr_mid h
set_option maxHeartbeats 4000000 in
set_option maxRecDepth 100000 in
theorem mergeFirst {w0 W : World} {blk cap : Nat} {d0 dk : Array Hd} (R : RowK Hd.cells 7 w0 blk 0 d0) (hW : SWK Hd.cells 7 w0 blk 0 dk W) (hs : dk.size = d0.size) (hsz : d0.size < 2 ^ 20)
    (P Y S : List Hd) (x : Hd) (hd : dk.toList = P ++ (x :: (Y ++ S))) (hY : SrtL ltS Y) (a m b : Nat) (ha : a = P.length) (hm : m = P.length + 1) (hb : b = P.length + 1 + Y.length) :
    Calls Try.prog 94 #[.slice (some ⟨blk, 0, none⟩) d0.size cap, .int .i64 a, .int .i64 m, .int .i64 b, .func (.func 45) #[] #[]] W fun e w' => MergedTo w0 blk d0 P [x] Y S e w' := by
  have hsum : P.length + 1 + Y.length ≤ d0.size := by rw [← hs, ← Array.length_toList, hd]; simp; omega
  have hx : dk[a]! = x := get_at hd a ha
  have HR := Lib.hid R
  have HWW := Lib.hid hW
  have HC := Lib.hid (show dk.size = d0.size ∧ dk.toList = P ++ (x :: (Y ++ S)) ∧ SrtL ltS Y ∧ dk[a]! = x from ⟨hs, hd, hY, hx⟩)
  have HN := Lib.hid (show a = P.length ∧ m = a + 1 ∧ b = m + Y.length ∧ b ≤ d0.size ∧ a < d0.size from by omega)
  have hma : (m : Int) - (a : Int) = 1 := by omega
  have hbb : b ≤ 1048576 := by omega
  have hmb : m ≤ b := by omega
  have hai : (a : Int) < (d0.size : Int) := by omega
  have mixed : Try.prog.follows .mixedOrders = true := by kernel_rfl
  clear R hW hs hd hY hx ha hm hb hsum
  go_enter Try.func94, Try.ntmps94
  go_wp2
  go_loopg [10, 11] (b - m) (fun g vi vj wr => ∃ (i j : Nat), vi = .int .i64 i ∧ vj = .int .i64 j ∧ m ≤ i ∧ i ≤ j ∧ j ≤ b ∧ j - i ≤ g ∧ Hid (SWK Hd.cells 7 w0 blk 0 dk wr) ∧ Hid ((i = m ∨ ltS dk[i - 1]! x = true) ∧ (j = b ∨ ltS dk[j]! x = false)))
  case atStart => exact ⟨m, b, rfl, rfl, Nat.le_refl _, hmb, Nat.le_refl _, Nat.le_refl _, HWW, Lib.hid ⟨.inl rfl, .inl rfl⟩⟩
  case round =>
    obtain ⟨i, j, rfl, rfl, hmi, hij, hjb, hg, HW, HI⟩ := hrel
    clear hma
    by_cases hlt : i < j
    · have hlti : (i : Int) < (j : Int) := by omega
      obtain ⟨h, hh⟩ : ∃ h, (i + j) / 2 = h := ⟨_, rfl⟩
      have hdiv : ((i : Int) + (j : Int)) / 2 = (h : Int) := by omega
      have hib : i ≤ h := by omega
      have hhj : h < j := by omega
      have hhd : h < dk.size := by have := HN.out; have := HC.out.1; omega
      have had : a < dk.size := by have := HN.out; have := HC.out.1; omega
      have hhi : (h : Int) < (d0.size : Int) := by have := HN.out; omega
      obtain ⟨y, hy⟩ : ∃ y, dk[h]! = y := ⟨_, rfl⟩
      obtain ⟨x0, x1, x2, x3, x4, x5, x6⟩ := swk_gd HW.out HR.out HC.out.1 a had HC.out.2.2.2
      obtain ⟨y0, y1, y2, y3, y4, y5, y6⟩ := swk_gd HW.out HR.out HC.out.1 h hhd hy
      have hc := fun n os => newCmp_any y x (grow (wr.drewN n) os)
      have HG := Lib.hid (fun n os => HW.out.grown n os)
      have Hy := Lib.hid hy
      have hl := cmpS_lt y x
      obtain ⟨cv, hcv⟩ : ∃ c, cmpS y x = c := ⟨_, rfl⟩
      rw [hcv] at hc hl
      have HL := Lib.hid hl
      clear hh hhd had hy hcv hl
      by_cases hneg : cv < 0
      · have HB := Lib.hid (show ltS y x = true by rw [← HL.out]; exact decide_eq_true hneg)
        go_wp2_with fail
        go_quiet_grown (first | (go_at_call 45; refine Calls.grown_of (hc _ _)))
        go_wp2
        go_roundg (j - (h + 1))
        case measure => omega
        case rel => exact ⟨h + 1, j, by go_num, rfl, by omega, by omega, hjb, Nat.le_refl _, Lib.hid (HG.out _ _), Lib.hid ⟨.inr (by rw [Nat.add_sub_cancel, Hy.out]; exact HB.out), HI.out.2⟩⟩
      · have HB := Lib.hid (show ltS y x = false by rw [← HL.out]; exact decide_eq_false hneg)
        go_wp2_with fail
        go_quiet_grown (first | (go_at_call 45; refine Calls.grown_of (hc _ _)))
        go_wp2
        go_roundg (h - i)
        case measure => omega
        case rel => exact ⟨i, h, rfl, by go_num, hmi, by omega, by omega, Nat.le_refl _, Lib.hid (HG.out _ _), Lib.hid ⟨HI.out.1, .inr (by rw [Hy.out]; exact HB.out)⟩⟩
    · obtain rfl : i = j := by omega
      have hcut : ∃ Y1 Y2, Y = Y1 ++ Y2 ∧ Y1.length = i - m ∧ (∀ y ∈ Y1, ltS y x = true) ∧ (∀ y ∈ Y2, ltS y x = false) := by
        obtain ⟨n1, n2, n3, n4, n5⟩ := HN.out
        obtain ⟨c1, c2, c3, c4⟩ := HC.out
        have hd2 : dk.toList = (P ++ [x]) ++ (Y ++ S) := by rw [c2]; simp
        have hPl : (P ++ [x]).length = m := by simp; omega
        have := cut_less (x := x) swoS (P := P ++ [x]) (S := S) (i := i) c3 (by omega) (by omega) (by
          rcases HI.out.1 with e | e
          · exact .inl (by omega)
          · by_cases him : i = m
            · exact .inl (by omega)
            · exact .inr ⟨_, by rw [← hd2]; exact arr_some (by omega) rfl, e⟩) (by
          rcases HI.out.2 with e | e
          · exact .inl (by omega)
          · by_cases him : i = b
            · exact .inl (by omega)
            · exact .inr ⟨_, by rw [← hd2]; exact arr_some (by omega) rfl, e⟩)
        rw [hPl] at this
        exact this
      obtain ⟨Y1, Y2, rfl, hY1, hl1, hl2⟩ := hcut
      have HST := Lib.hid (stb_first swoS HC.out.2.2.1 hl1 hl2)
      obtain ⟨i1, hi1⟩ : ∃ k, i - 1 = k := ⟨_, rfl⟩
      have hi1i : (i : Int) - 1 = (i1 : Int) := by have := HN.out; omega
      have HN1 := Lib.hid (show i1 = a + Y1.length ∧ i1 < d0.size from by have := HN.out; omega)
      have hlti : ¬ (i : Int) < (i : Int) := by omega
      have hib : i1 ≤ 1048576 := by omega
      clear hl1 hl2 hY1 hi1
      go_wp2
      go_loopg [13] Y1.length (fun g vk wx => ∃ (k : Nat) (dj : Array Hd) (Ya Yb : List Hd), vk = .int .i64 k ∧ k = a + Ya.length ∧ Yb.length ≤ g ∧ Hid (Y1 = Ya ++ Yb ∧ SWK Hd.cells 7 w0 blk 0 dj wx ∧ dj.size = d0.size ∧ dj.toList = P ++ (Ya ++ (x :: (Yb ++ (Y2 ++ S))))))
      case atStart => exact ⟨a, dk, [], Y1, rfl, rfl, Nat.le_refl _, Lib.hid ⟨rfl, HW.out, HC.out.1, by rw [HC.out.2.1]; simp⟩⟩
      case round =>
        obtain ⟨k, dj, Ya, Yb, rfl, hk, hg2, HJ⟩ := hrel
        clear hg
        by_cases hkl : k < i1
        · have hkli : (k : Int) < (i1 : Int) := by omega
          obtain ⟨hY, hW, hsj, hdj⟩ := HJ.out
          obtain ⟨y, Yc, rfl⟩ : ∃ y Yc, Yb = y :: Yc := by
            cases Yb with
            | nil => have := HN1.out; rw [hY] at this; simp at this; omega
            | cons y Yc => exact ⟨y, Yc, rfl⟩
          obtain ⟨q, hq⟩ : ∃ q, k + 1 = q := ⟨_, rfl⟩
          have hq1 : (k : Int) + 1 = (q : Int) := by omega
          have hkx : dj[k]! = x := get_at (A := P ++ Ya) (B := y :: (Yc ++ (Y2 ++ S))) (by rw [hdj]; simp) k (by have := HN.out; simp; omega)
          have hqy : dj[q]! = y := get_at (A := P ++ Ya ++ [x]) (B := Yc ++ (Y2 ++ S)) (by rw [hdj]; simp) q (by have := HN.out; simp; omega)
          have hqs : q < d0.size := by have := HN1.out; omega
          have hqi : (q : Int) < (d0.size : Int) := by omega
          have hki : (k : Int) < (d0.size : Int) := by omega
          have hkb : k < 1048576 := by omega
          obtain ⟨w5, hsf, hsw⟩ := swap_facts hW HR.out hsj k q (by omega) (by omega) (by omega) hkx hqy
          have hto : (swp dj k q).toList = P ++ ((Ya ++ [y]) ++ (x :: (Yc ++ (Y2 ++ S)))) := by
            have := arr_swp' (d := dj) (A := P ++ Ya) (B := []) (x := x) (y := y) (C := Yc ++ (Y2 ++ S)) (by rw [hdj]; simp) k q (by have := HN.out; simp; omega) (by have := HN.out; simp; omega)
            rw [this]; simp
          have HJ2 := Lib.hid (show Y1 = (Ya ++ [y]) ++ Yc ∧ (swp dj k q).size = d0.size ∧ (swp dj k q).toList = P ++ ((Ya ++ [y]) ++ (x :: (Yc ++ (Y2 ++ S)))) ∧ q = a + (Ya ++ [y]).length ∧ Yc.length + 1 ≤ gk from ⟨by rw [hY]; simp, by rw [size_swp]; exact hsj, hto, by simp; omega, by simpa using hg2⟩)
          obtain ⟨xa0, xa1, xa2, xa3, xa4, xa5, xa6⟩ := hsf.xd
          obtain ⟨ya0, ya1, ya2, ya3, ya4, ya5, ya6⟩ := hsf.yd
          obtain ⟨xb0, xb1, xb2, xb3, xb4, xb5, xb6⟩ := hsf.x0
          obtain ⟨yb0, yb1, yb2, yb3, yb4, yb5, yb6⟩ := hsf.y0
          obtain ⟨fa0, fa1, fa2, fa3, fa4, fa5, fa6⟩ := hsf.fp
          obtain ⟨fb0, fb1, fb2, fb3, fb4, fb5, fb6⟩ := hsf.fq
          obtain ⟨fc0, fc1, fc2, fc3, fc4, fc5, fc6⟩ := hsf.fpd
          obtain ⟨fd0, fd1, fd2, fd3, fd4, fd5, fd6⟩ := hsf.fqd
          obtain ⟨yc0, yc1, yc2, yc3, yc4, yc5, yc6⟩ := hsf.y5
          obtain ⟨yd0, yd1, yd2, yd3, yd4, yd5, yd6⟩ := hsf.y5d
          obtain ⟨fe0, fe1, fe2, fe3, fe4, fe5, fe6⟩ := hsf.f5
          obtain ⟨ff0, ff1, ff2, ff3, ff4, ff5, ff6⟩ := hsf.f5d
          have hw5 := hsf.e5
          unfold put7w at hw5 hsw
          have HSW := Lib.hid hsw
          clear hY hW hsj hdj hkx hqy hqs hto hsf hsw hk hg2 HJ hq
          go_wp2_with fail
          go_big_region_o
          all_goals go_wp2
          go_roundg Yc.length
          case measure => have := HJ2.out; omega
          case rel =>
            obtain ⟨q1, q2, q3, q4, q5⟩ := HJ2.out
            exact ⟨q, swp dj k q, Ya ++ [y], Yc, by go_num, q4, Nat.le_refl _, Lib.hid ⟨q1, HSW.out, q2, q3⟩⟩
        · have hkli : ¬ (k : Int) < (i1 : Int) := by omega
          have hYb : Yb = [] := List.eq_nil_of_length_eq_zero (by have := HN1.out; have := congrArg List.length HJ.out.1; simp at this; omega)
          subst hYb
          go_wp2
          first | go_end0 | go_ret2
          obtain ⟨q1, q2, q3, q4⟩ := HJ.out
          exact ⟨rfl, dj, Y1 ++ ([x] ++ Y2), q2, q3, by rw [q4, q1]; simp, HST.out⟩

end Go.Proofs.Ytpnbibokddhheaa
