/-
  slices.symMergeCmpFunc at heads where the second part has one element.
-/
import Derived.Test.YtpnbibokddhheaaStbM1
import Derived.Test.YtpnbibokddhheaaStbX
import Derived.Test.YtpnbibokddhheaaStbCmp
import Derived.Test.YtpnbibokddhheaaStbBlk
import Derived.Shelf.SlSortCmp.QuietGrown
namespace Go.Proofs.Ytpnbibokddhheaa
open Go.RowKit Go.Sort Go.Shelf

set_option maxHeartbeats 4000000 in
set_option maxRecDepth 100000 in
theorem mergeLast {w0 W : World} {blk cap : Nat} {d0 dk : Array Hd} (R : RowK Hd.cells 7 w0 blk 0 d0) (hW : SWK Hd.cells 7 w0 blk 0 dk W) (hs : dk.size = d0.size) (hsz : d0.size < 2 ^ 20)
    (P X S : List Hd) (y : Hd) (hd : dk.toList = P ++ (X ++ (y :: S))) (hX : SrtL ltS X) (h2 : 1 < X.length) (a m b : Nat) (ha : a = P.length) (hm : m = P.length + X.length) (hb : b = P.length + X.length + 1) :
    Calls Try.prog 94 #[.slice (some ⟨blk, 0, none⟩) d0.size cap, .int .i64 a, .int .i64 m, .int .i64 b, .func (.func 45) #[] #[]] W fun e w' => MergedTo w0 blk d0 P X [y] S e w' := by
  have hsum : P.length + X.length + 1 ≤ d0.size := by rw [← hs, ← Array.length_toList, hd]; simp; omega
  have hy : dk[m]! = y := get_at (A := P ++ X) (B := S) (by rw [hd]; simp) m (by rw [hm]; simp)
  have HR := Lib.hid R
  have HWW := Lib.hid hW
  have HC := Lib.hid (show dk.size = d0.size ∧ dk.toList = P ++ (X ++ (y :: S)) ∧ SrtL ltS X ∧ dk[m]! = y from ⟨hs, hd, hX, hy⟩)
  have HN := Lib.hid (show a = P.length ∧ m = a + X.length ∧ b = m + 1 ∧ b ≤ d0.size ∧ m < d0.size from by omega)
  obtain ⟨lx, hlx⟩ : ∃ n, m - a = n := ⟨_, rfl⟩
  have hma : (m : Int) - (a : Int) = (lx : Int) := by omega
  have hne1 : ((lx : Int) == 1) = false := by simp; omega
  have hlxb : lx ≤ 1048576 := by omega
  have hbm : (b : Int) - (m : Int) = 1 := by omega
  have hbb : b ≤ 1048576 := by omega
  have ham : a ≤ m := by omega
  have hmi : (m : Int) < (d0.size : Int) := by omega
  have mixed : Try.prog.follows .mixedOrders = true := by kernel_rfl
  have hmb : m ≤ 1048576 := by omega
  clear R hW hs hd hX hy ha hm hb hsum hlx h2
  go_enter Try.func94, Try.ntmps94
  go_wp2
  go_loopg [14, 15] (m - a) (fun g vi vj wr => ∃ (i j : Nat), vi = .int .i64 i ∧ vj = .int .i64 j ∧ a ≤ i ∧ i ≤ j ∧ j ≤ m ∧ j - i ≤ g ∧ Hid (SWK Hd.cells 7 w0 blk 0 dk wr) ∧ Hid ((i = a ∨ ltS y dk[i - 1]! = false) ∧ (j = m ∨ ltS y dk[j]! = true)))
  case atStart => exact ⟨a, m, rfl, rfl, Nat.le_refl _, ham, Nat.le_refl _, Nat.le_refl _, HWW, Lib.hid ⟨.inl rfl, .inl rfl⟩⟩
  case round =>
    obtain ⟨i, j, rfl, rfl, hai, hij, hjm, hg, HW, HI⟩ := hrel
    clear hma hbm hne1
    by_cases hlt : i < j
    · have hlti : (i : Int) < (j : Int) := by omega
      obtain ⟨h, hh⟩ : ∃ h, (i + j) / 2 = h := ⟨_, rfl⟩
      have hdiv : ((i : Int) + (j : Int)) / 2 = (h : Int) := by omega
      have hib : i ≤ h := by omega
      have hhj : h < j := by omega
      have hhd : h < dk.size := by have := HN.out; have := HC.out.1; omega
      have hmd : m < dk.size := by have := HN.out; have := HC.out.1; omega
      have hhi : (h : Int) < (d0.size : Int) := by have := HN.out; omega
      obtain ⟨z, hz⟩ : ∃ z, dk[h]! = z := ⟨_, rfl⟩
      obtain ⟨x0, x1, x2, x3, x4, x5, x6⟩ := swk_gd HW.out HR.out HC.out.1 m hmd HC.out.2.2.2
      obtain ⟨y0, y1, y2, y3, y4, y5, y6⟩ := swk_gd HW.out HR.out HC.out.1 h hhd hz
      have hc := fun n os => newCmp_any y z (grow (wr.drewN n) os)
      have HG := Lib.hid (fun n os => HW.out.grown n os)
      have Hz := Lib.hid hz
      have hl := cmpS_lt y z
      obtain ⟨cv, hcv⟩ : ∃ c, cmpS y z = c := ⟨_, rfl⟩
      rw [hcv] at hc hl
      have HL := Lib.hid hl
      clear hh hhd hmd hz hcv hl
      by_cases hneg : cv < 0
      · have HB := Lib.hid (show ltS y z = true by rw [← HL.out]; exact decide_eq_true hneg)
        go_wp2_with fail
        go_quiet_grown (first | (go_at_call 45; refine Calls.grown_of (hc _ _)))
        go_wp2
        go_roundg (h - i)
        case measure => omega
        case rel => exact ⟨i, h, rfl, by go_num, hai, by omega, by omega, Nat.le_refl _, Lib.hid (HG.out _ _), Lib.hid ⟨HI.out.1, .inr (by rw [Hz.out]; exact HB.out)⟩⟩
      · have HB := Lib.hid (show ltS y z = false by rw [← HL.out]; exact decide_eq_false hneg)
        have hnb : decide (cv < 0) = false := decide_eq_false hneg
        have hnb2 : 0 ≤ cv := by omega
        go_wp2_with fail
        go_quiet_grown (first | (go_at_call 45; refine Calls.grown_of (hc _ _)))
        go_wp2
        go_roundg (j - (h + 1))
        case measure => omega
        case rel => exact ⟨h + 1, j, by go_num, rfl, by omega, by omega, hjm, Nat.le_refl _, Lib.hid (HG.out _ _), Lib.hid ⟨.inr (by rw [Nat.add_sub_cancel, Hz.out]; exact HB.out), HI.out.2⟩⟩
    · obtain rfl : i = j := by omega
      have hcut : ∃ X1 X2, X = X1 ++ X2 ∧ X1.length = i - a ∧ (∀ z ∈ X1, ltS y z = false) ∧ (∀ z ∈ X2, ltS y z = true) := by
        obtain ⟨n1, n2, n3, n4, n5⟩ := HN.out
        obtain ⟨c1, c2, c3, c4⟩ := HC.out
        have := cut_above (x := y) swoS (P := P) (S := y :: S) (i := i) c3 (by omega) (by omega) (by
          rcases HI.out.1 with e | e
          · exact .inl (by omega)
          · by_cases him : i = a
            · exact .inl (by omega)
            · exact .inr ⟨_, by rw [← c2]; exact arr_some (by omega) rfl, e⟩) (by
          rcases HI.out.2 with e | e
          · exact .inl (by omega)
          · by_cases him : i = m
            · exact .inl (by omega)
            · exact .inr ⟨_, by rw [← c2]; exact arr_some (by omega) rfl, e⟩)
        rw [← n1] at this
        exact this
      obtain ⟨X1, X2, rfl, hX1, hl1, hl2⟩ := hcut
      have HST := Lib.hid (stb_last swoS HC.out.2.2.1 hl1 hl2)
      have HN1 := Lib.hid (show i = a + X1.length ∧ m = i + X2.length from by have := HN.out; simp at this; omega)
      have hlti : ¬ (i : Int) < (i : Int) := by omega
      have hib : i ≤ 1048576 := by omega
      clear hl1 hl2 hX1
      go_wp2
      go_loopg [17] X2.length (fun g vk wx => ∃ (k : Nat) (dj : Array Hd) (Xa Xb : List Hd), vk = .int .i64 k ∧ k = i + Xa.length ∧ Xa.length ≤ g ∧ Hid (X2 = Xa ++ Xb ∧ SWK Hd.cells 7 w0 blk 0 dj wx ∧ dj.size = d0.size ∧ dj.toList = P ++ (X1 ++ (Xa ++ (y :: (Xb ++ S))))))
      case atStart => exact ⟨m, dk, X2, [], rfl, HN1.out.2, Nat.le_refl _, Lib.hid ⟨by simp, HW.out, HC.out.1, by rw [HC.out.2.1]; simp⟩⟩
      case round =>
        obtain ⟨k, dj, Xa, Xb, rfl, hk, hg2, HJ⟩ := hrel
        clear hg
        by_cases hkl : i < k
        · have hkli : (i : Int) < (k : Int) := by omega
          obtain ⟨hX, hW, hsj, hdj⟩ := HJ.out
          obtain ⟨Xc, z, rfl⟩ : ∃ Xc z, Xa = Xc ++ [z] := by
            rcases List.eq_nil_or_concat Xa with rfl | ⟨Xc, z, rfl⟩
            · simp at hk; omega
            · exact ⟨Xc, z, by simp⟩
          rw [List.length_append, List.length_singleton] at hk hg2
          obtain ⟨q, hq⟩ : ∃ q, k - 1 = q := ⟨_, rfl⟩
          have hq1 : (k : Int) - 1 = (q : Int) := by omega
          have hn1 := HN1.out
          have hn := HN.out
          have hkm : k ≤ m := by have := congrArg List.length hX; simp at this; omega
          have hky : dj[k]! = y := get_at (A := P ++ X1 ++ Xc ++ [z]) (B := Xb ++ S) (by rw [hdj]; simp) k (by simp; omega)
          have hqz : dj[q]! = z := get_at (A := P ++ X1 ++ Xc) (B := y :: (Xb ++ S)) (by rw [hdj]; simp) q (by simp; omega)
          have hks : k < d0.size := by omega
          have hqi : (q : Int) < (d0.size : Int) := by omega
          have hki : (k : Int) < (d0.size : Int) := by omega
          have hkb : k < 1048576 := by omega
          obtain ⟨w5, hsf, hsw⟩ := swap_facts hW HR.out hsj k q (by omega) (by omega) (by omega) hky hqz
          have hto : (swp dj k q).toList = P ++ (X1 ++ (Xc ++ (y :: (([z] ++ Xb) ++ S)))) := by
            have := arr_swp (d := dj) (A := P ++ X1 ++ Xc) (B := []) (x := z) (y := y) (C := Xb ++ S) (by rw [hdj]; simp) q k (by simp; omega) (by simp; omega)
            rw [this]; simp
          have HJ2 := Lib.hid (show X2 = Xc ++ ([z] ++ Xb) ∧ (swp dj k q).size = d0.size ∧ (swp dj k q).toList = P ++ (X1 ++ (Xc ++ (y :: (([z] ++ Xb) ++ S)))) ∧ q = i + Xc.length ∧ Xc.length + 1 ≤ gk from ⟨by rw [hX]; simp, by rw [size_swp]; exact hsj, hto, by omega, hg2⟩)
          obtain ⟨xa0, xa1, xa2, xa3, xa4, xa5, xa6⟩ := hsf.xd
          obtain ⟨ya0, ya1, ya2, ya3, ya4, ya5, ya6⟩ := hsf.yd
          obtain ⟨xb0, xb1, xb2, xb3, xb4, xb5, xb6⟩ := hsf.x0
          obtain ⟨yb0, yb1, yb2, yb3, yb4, yb5, yb6⟩ := hsf.y0
          obtain ⟨fa0, fa1, fa2, fa3, fa4, fa5, fa6⟩ := hsf.fp
          obtain ⟨fb0, fb1, fb2, fb3, fb4, fb5, fb6⟩ := hsf.fq
          obtain ⟨fc0, fc1, fc2, fc3, fc4, fc5, fc6⟩ := hsf.fpd
          obtain ⟨fd0, fd1, fd2, fd3, fd4, fd5, fd6⟩ := hsf.fqd
          obtain ⟨yc0, yc1, yc2, yc3, yc4, yc5, yc6⟩ := hsf.y5
          obtain ⟨yd0, yd1, yd2, yd3, yd4, yd5, yd6⟩ := hsf.y5d
          obtain ⟨fe0, fe1, fe2, fe3, fe4, fe5, fe6⟩ := hsf.f5
          obtain ⟨ff0, ff1, ff2, ff3, ff4, ff5, ff6⟩ := hsf.f5d
          have hw5 := hsf.e5
          unfold put7w at hw5 hsw
          have HSW := Lib.hid hsw
          clear hX hW hsj hdj hky hqz hks hto hsf hsw hk hg2 HJ hq hn1 hn hkm
          go_wp2_with fail
          go_big_region_o
          all_goals go_wp2
          go_roundg Xc.length
          case measure => have := HJ2.out; omega
          case rel =>
            obtain ⟨q1, q2, q3, q4, q5⟩ := HJ2.out
            exact ⟨q, swp dj k q, Xc, [z] ++ Xb, by go_num, q4, Nat.le_refl _, Lib.hid ⟨q1, HSW.out, q2, q3⟩⟩
        · have hkli : ¬ (i : Int) < (k : Int) := by omega
          have hXa : Xa = [] := List.eq_nil_of_length_eq_zero (by omega)
          subst hXa
          go_wp2
          first | go_end0 | go_ret2
          obtain ⟨q1, q2, q3, q4⟩ := HJ.out
          exact ⟨rfl, dj, X1 ++ ([y] ++ X2), q2, q3, by rw [q4, q1]; simp, HST.out⟩

end Go.Proofs.Ytpnbibokddhheaa
