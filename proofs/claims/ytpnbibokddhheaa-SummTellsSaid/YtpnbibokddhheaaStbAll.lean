/-
  slices.stableCmpFunc and slices.SortStableFunc at heads: a row is sorted stably, whatever its length.
-/
import Derived.Test.YtpnbibokddhheaaStbM3
import Derived.Test.YtpnbibokddhheaaLayInsHead
namespace Go.Proofs.Ytpnbibokddhheaa
open Go.RowKit Go.Sort Go.Shelf

def fvS : Value := .func (.func 45) #[] #[]
theorem cmp_lays (blk off size : Nat) (w : World) : CmpLays Try.prog 45 #[] Hd.cells 7 cmpS blk off size w := fun _m _os _dk _ x y => newCmp_any x y _
set_option maxRecDepth 100000 in
theorem insHead_any {w0 W : World} {blk cap : Nat} {d0 dk : Array Hd} (R : RowK Hd.cells 7 w0 blk 0 d0) (hW : SWK Hd.cells 7 w0 blk 0 dk W) (hs : dk.size = d0.size) (hsz : d0.size < 2 ^ 20)
    (P X S : List Hd) (hd : dk.toList = P ++ (X ++ S)) (a b : Nat) (ha : a = P.length) (hb : b = P.length + X.length) :
    Calls Try.prog 93 #[.slice (some ⟨blk, 0, none⟩) d0.size cap, .int .i64 a, .int .i64 b, .func (.func 45) #[] #[]] W fun e w' =>
      e = .returned (.tuple #[]) ∧ ∃ d' Z, SWK Hd.cells 7 w0 blk 0 d' w' ∧ d'.size = d0.size ∧ d'.toList = P ++ (Z ++ S) ∧ Stb ltS X Z := by
  have hsum : P.length + X.length ≤ dk.size := by rw [← Array.length_toList, hd]; simp
  have h := AnyQ.insertionSortCmpFunc Try.insHead 7 Try.isAgg34 Try.sizeOf34 Hd.cells hdC_len hdC_one cmpS 45 #[] blk 0 cap a b dk W call_newCmp (cmp_lays _ _ _ _) (hW.holds R.hblk R.hH hs) (hW.lt R.hblk) (by omega) (by omega) (by omega)
  rw [hs] at h
  refine Calls.mono h ?_
  rintro e w' ⟨rfl, n, os, rfl⟩
  obtain ⟨M, hM, hst⟩ := insertionSort_stb (lt := ltS) swoS hd ha hb
  rw [ltOf_S]
  have hsz2 : (Sort.insertionSort ltS dk a b).size = dk.size := by
    rw [← Array.length_toList, ← Array.length_toList, hM, hd]
    have := hst.len
    simp
    omega
  exact ⟨rfl, _, M, hW.on R.hblk n _ os hsz2, hsz2.trans hs, hM, hst⟩
set_option maxHeartbeats 8000000 in
set_option maxRecDepth 100000 in
theorem stable_any {w0 W : World} {blk cap : Nat} {d0 dk : Array Hd} (R : RowK Hd.cells 7 w0 blk 0 d0) (hW : SWK Hd.cells 7 w0 blk 0 dk W) (hs : dk.size = d0.size) (hsz : d0.size < 2 ^ 20) (n : Nat) (hn : n = d0.size) :
    Calls Try.prog 72 #[.slice (some ⟨blk, 0, none⟩) d0.size cap, .int .i64 n, .func (.func 45) #[] #[]] W fun e w' =>
      e = .returned (.tuple #[]) ∧ ∃ d', SWK Hd.cells 7 w0 blk 0 d' w' ∧ d'.size = d0.size ∧ Stb ltS dk.toList d'.toList := by
  obtain ⟨L0, hL0⟩ : ∃ L, dk.toList = L := ⟨_, rfl⟩
  have hLn : L0.length = n := by rw [← hL0, Array.length_toList]; omega
  rw [hL0]
  have HR := Lib.hid R
  have HWW := Lib.hid hW
  have HS := Lib.hid hs
  have HL0 := Lib.hid hL0
  have HN := Lib.hid (show n = d0.size ∧ L0.length = n from ⟨hn, hLn⟩)
  have HMg := Lib.hid (merge_ok (cap := cap) R hsz)
  have hnb : n < 1048576 := by omega
  clear R hW hs hn hL0 hLn
  go_enter Try.func72, Try.ntmps72
  go_wp2
  go_loopg [7, 8] n (fun g v7 v8 wr => ∃ (a bq : Nat) (dj : Array Hd) (A A' B : List Hd), v7 = .int .i64 a ∧ v8 = .int .i64 bq ∧ Hid (bq = a + 20) ∧ a ≤ n ∧ n ≤ g + a ∧ Hid (SWK Hd.cells 7 w0 blk 0 dj wr ∧ dj.size = d0.size ∧ L0 = A ++ B ∧ dj.toList = A' ++ B ∧ FullB ltS 20 A A' ∧ A.length = a))
  case atStart => exact ⟨0, 20, dk, [], [], L0, rfl, rfl, Lib.hid rfl, by omega, by omega, Lib.hid ⟨HWW.out, HS.out, rfl, by rw [HL0.out]; rfl, .nil, rfl⟩⟩
  case round =>
    obtain ⟨a, bq, dj, A, A', B, rfl, rfl, HBQ, han, hg, HJ⟩ := hrel
    have hlA : A.length = A'.length := HJ.out.2.2.2.2.1.len
    have HlA := Lib.hid hlA
    clear hlA
    by_cases hle : bq ≤ n
    · have hlei : (bq : Int) ≤ (n : Int) := by omega
      obtain ⟨X, B2, rfl, hX⟩ := cut_at B 20 (by have h0 := HBQ.out; have h1 := congrArg List.length HJ.out.2.2.1; rw [List.length_append] at h1; have := HJ.out.2.2.2.2.2; have := HN.out.2; omega)
      have HX := Lib.hid hX
      have HI := Lib.hid (insHead_any (cap := cap) HR.out HJ.out.1 HJ.out.2.1 hsz A' X B2 HJ.out.2.2.2.1 a bq (by have := HJ.out.2.2.2.2.2; have := HlA.out; have := HBQ.out; omega) (by have := HJ.out.2.2.2.2.2; have := HlA.out; have := HBQ.out; omega))
      have hbb : bq ≤ 1048576 := by omega
      clear hX
      go_wp2_with (go_at_call 93; (with_reducible refine Calls.mono HI.out ?_); rintro r w5 ⟨rfl, d5, Z, hW5, hs5, hd5, hz5⟩; have H5 := Lib.hid (show _ ∧ _ ∧ _ ∧ _ from ⟨hW5, hs5, hd5, hz5⟩); clear hW5 hs5 hd5 hz5)
      go_roundg (n - bq)
      case measure => have := HBQ.out; omega
      case rel =>
        have h0 := HBQ.out
        obtain ⟨q1, q2, q3, q4⟩ := H5.out
        obtain ⟨j1, j2, j3, j4, j5, j6⟩ := HJ.out
        exact ⟨bq, bq + 20, d5, A ++ X, A' ++ Z, B2, by go_num, by go_num, Lib.hid rfl, hle, by omega, Lib.hid ⟨q1, q2, by rw [j3]; simp, by rw [q3]; simp, .snoc j5 HX.out q4, by rw [List.length_append, j6, HX.out]; exact HBQ.out.symm⟩⟩
    · have hlei : ¬ (bq : Int) ≤ (n : Int) := by omega
      have HI := Lib.hid (insHead_any (cap := cap) HR.out HJ.out.1 HJ.out.2.1 hsz A' B [] (by rw [HJ.out.2.2.2.1]; simp) a n (by have := HJ.out.2.2.2.2.2; have := HlA.out; have := HBQ.out; omega) (by have h0 := HBQ.out; have h1 := congrArg List.length HJ.out.2.2.1; rw [List.length_append] at h1; have := HJ.out.2.2.2.2.2; have := HlA.out; have := HN.out.2; omega))
      have HB := Lib.hid (show B.length ≤ 20 from by have h0 := HBQ.out; have h1 := congrArg List.length HJ.out.2.2.1; rw [List.length_append] at h1; have := HJ.out.2.2.2.2.2; have := HN.out.2; omega)
      clear hg
      go_wp2_with (go_at_call 93; (with_reducible refine Calls.mono HI.out ?_); rintro r w5 ⟨rfl, d5, Z, hW5, hs5, hd5, hz5⟩; have H5 := Lib.hid (show SWK Hd.cells 7 w0 blk 0 d5 w5 ∧ d5.size = d0.size ∧ BlkStb ltS 20 L0 d5.toList from ⟨hW5, hs5, by rw [hd5, HJ.out.2.2.1, List.append_nil]; exact HJ.out.2.2.2.2.1.app (.last HB.out hz5)⟩); clear hW5 hs5 hd5 hz5)
      go_loopg [6, 7, 8, 9] n (fun g v6 v7 v8 v9 wr => ∃ (bs : Nat) (dj : Array Hd), v6 = .int .i64 bs ∧ 20 ≤ bs ∧ bs ≤ 2097152 ∧ n ≤ g + bs ∧ Hid (SWK Hd.cells 7 w0 blk 0 dj wr ∧ dj.size = d0.size ∧ BlkStb ltS bs L0 dj.toList))
      case atStart => exact ⟨20, d5, rfl, by omega, by omega, by omega, H5⟩
      case round =>
        obtain ⟨bs, d1, rfl, h20, hbsb, hg, HK⟩ := hrel
        have HGo := Lib.hid hg
        clear H5 HJ HI HB HlA HBQ hle hlei han
        by_cases hlt : bs < n
        · have hlti : (bs : Int) < (n : Int) := by omega
          obtain ⟨b2, hb2⟩ : ∃ k, 2 * bs = k := ⟨_, rfl⟩
          have hb2i : (2 : Int) * (bs : Int) = (b2 : Int) := by omega
          have hb2j : (bs : Int) * (2 : Int) = (b2 : Int) := by omega
          have hb2b : b2 ≤ 2097152 := by omega
          obtain ⟨wo, hwo⟩ : ∃ wo : World, wo = wr := ⟨_, rfl⟩
          go_wp2
          go_loopg [7, 8] n (fun g v7 v8 wx => ∃ (a bq : Nat) (dj : Array Hd) (A A' B B' : List Hd), v7 = .int .i64 a ∧ v8 = .int .i64 bq ∧ Hid (bq = a + b2) ∧ a ≤ n ∧ n ≤ g + a ∧ Hid (SWK Hd.cells 7 w0 blk 0 dj wx ∧ dj.size = d0.size ∧ L0 = A ++ B ∧ dj.toList = A' ++ B' ∧ FullB ltS b2 A A' ∧ A.length = a ∧ BlkStb ltS bs B B'))
          case atStart => exact ⟨0, b2, d1, [], [], L0, d1.toList, rfl, by go_num, Lib.hid (by omega), by omega, by omega, Lib.hid ⟨HK.out.1, HK.out.2.1, rfl, rfl, .nil, rfl, HK.out.2.2⟩⟩
          case round =>
            obtain ⟨a, bq, dj, A, A', B, B', rfl, rfl, HBQ, han, hg3, HJ⟩ := hrel
            clear hg
            have hlA : A.length = A'.length := HJ.out.2.2.2.2.1.len
            have hlB : A.length + B.length = n := by have h1 := congrArg List.length HJ.out.2.2.1; rw [List.length_append] at h1; have := HN.out.2; omega
            have HlA := Lib.hid (show A.length = A'.length ∧ A.length + B.length = n ∧ A.length = a ∧ B.length = B'.length from ⟨hlA, hlB, HJ.out.2.2.2.2.2.1, HJ.out.2.2.2.2.2.2.len⟩)
            clear hlA hlB
            by_cases hle : bq ≤ n
            · have hlei : (bq : Int) ≤ (n : Int) := by omega
              obtain ⟨mm, hmm⟩ : ∃ k, a + bs = k := ⟨_, rfl⟩
              have hmmi : (a : Int) + (bs : Int) = (mm : Int) := by omega
              have hmmb : mm ≤ 1048576 := by have := HBQ.out; omega
              have hbqb : bq ≤ 1048576 := by omega
              have HMM := Lib.hid hmm
              have hbk := HJ.out.2.2.2.2.2.2
              obtain ⟨X1, Z1, B1, B1', rfl, rfl, hX1, hs1, hk1⟩ := hbk.head (by have h0 := HBQ.out; have := HlA.out; omega)
              obtain ⟨X2, Z2, B2, B2', rfl, rfl, hX2, hs2, hk2⟩ := hk1.head (by have h0 := HBQ.out; have := HlA.out; rw [List.length_append] at this; omega)
              have HZ := Lib.hid (show X1.length = bs ∧ X2.length = bs ∧ Z1.length = bs ∧ Z2.length = bs ∧ Stb ltS X1 Z1 ∧ Stb ltS X2 Z2 ∧ BlkStb ltS bs B2 B2' from ⟨hX1, hX2, by rw [← hs1.len]; exact hX1, by rw [← hs2.len]; exact hX2, hs1, hs2, hk2⟩)
              have HI := Lib.hid (HMg.out (Z1.length + Z2.length + 1) wr dj A' Z1 Z2 B2' a mm bq HJ.out.1 HJ.out.2.1 HJ.out.2.2.2.1 hs1.srt hs2.srt (by have := HZ.out; omega) (by have := HZ.out; omega) (by omega) (by have := HlA.out; omega) (by have := HlA.out; have := HZ.out; omega) (by have h0 := HBQ.out; have := HlA.out; have := HZ.out; omega))
              clear hbk hX1 hs1 hk1 hX2 hs2 hk2 hmm
              go_wp2_with (go_at_call 94; (with_reducible refine Calls.mono HI.out ?_); rintro r w6 ⟨rfl, d5, Z, hW5, hs5, hd5, hz5⟩; have H5 := Lib.hid (show _ ∧ _ ∧ _ ∧ _ from ⟨hW5, hs5, hd5, hz5⟩); clear hW5 hs5 hd5 hz5)
              go_roundg (n - bq)
              case measure => have := HBQ.out; omega
              case rel =>
                have h0 := HBQ.out
                obtain ⟨q1, q2, q3, q4⟩ := H5.out
                obtain ⟨j1, j2, j3, j4, j5, j6, j7⟩ := HJ.out
                obtain ⟨z1, z2, z3, z4, z5, z6, z7⟩ := HZ.out
                exact ⟨bq, bq + b2, d5, A ++ (X1 ++ X2), A' ++ Z, B2, B2', by go_num, by go_num, Lib.hid rfl, hle, by omega, Lib.hid ⟨q1, q2, by rw [j3]; simp, by rw [q3]; simp, .snoc j5 (by rw [List.length_append]; omega) (z5.two z6 q4), by rw [List.length_append, List.length_append]; omega, z7⟩⟩
            · have hlei : ¬ (bq : Int) ≤ (n : Int) := by omega
              obtain ⟨mm, hmm⟩ : ∃ k, a + bs = k := ⟨_, rfl⟩
              have hmmi : (a : Int) + (bs : Int) = (mm : Int) := by omega
              have hmmb : mm ≤ 3145728 := by omega
              by_cases hmn : mm < n
              · have hmni : (mm : Int) < (n : Int) := by omega
                have hbk := HJ.out.2.2.2.2.2.2
                obtain ⟨X1, Z1, B1, B1', rfl, rfl, hX1, hs1, hk1⟩ := hbk.head (by have h0 := HBQ.out; have := HlA.out; omega)
                have hs2 := hk1.one (by have h0 := HBQ.out; have := HlA.out; rw [List.length_append] at this; omega)
                have HZ := Lib.hid (show X1.length = bs ∧ Z1.length = bs ∧ B1.length = B1'.length ∧ Stb ltS X1 Z1 ∧ Stb ltS B1 B1' from ⟨hX1, by rw [← hs1.len]; exact hX1, hs2.len, hs1, hs2⟩)
                have HI := Lib.hid (HMg.out (Z1.length + B1'.length + 1) wr dj A' Z1 B1' [] a mm n HJ.out.1 HJ.out.2.1 (by rw [HJ.out.2.2.2.1]; simp) hs1.srt hs2.srt (by have := HZ.out; omega) (by have h9 := HlA.out; have := HZ.out; rw [List.length_append] at h9; omega) (by omega) (by have := HlA.out; omega) (by have := HlA.out; have := HZ.out; omega) (by have h9 := HlA.out; have := HZ.out; rw [List.length_append] at h9; omega))
                clear hbk hX1 hs1 hk1 hs2 hmm
                go_wp2_with (go_at_call 94; (with_reducible refine Calls.mono HI.out ?_); rintro r w6 ⟨rfl, d5, Z, hW5, hs5, hd5, hz5⟩; have H5 := Lib.hid (show _ ∧ _ ∧ _ ∧ _ from ⟨hW5, hs5, hd5, hz5⟩); clear hW5 hs5 hd5 hz5)
                go_roundg (n - b2)
                case measure => have := HGo.out; omega
                case rel =>
                  have h0 := HBQ.out
                  have h8 := HGo.out
                  obtain ⟨q1, q2, q3, q4⟩ := H5.out
                  obtain ⟨j1, j2, j3, j4, j5, j6, j7⟩ := HJ.out
                  obtain ⟨z1, z2, z3, z4, z5⟩ := HZ.out
                  have hB : (X1 ++ B1).length ≤ b2 := by have := HlA.out; omega
                  exact ⟨b2, d5, by go_num, by omega, hb2b, by omega, Lib.hid ⟨q1, q2, by rw [q3, j3, List.append_nil]; exact j5.app (.last hB (z4.two z5 q4))⟩⟩
              · have hmni : ¬ (mm : Int) < (n : Int) := by omega
                clear hmm
                go_wp2
                go_roundg (n - b2)
                case measure => have := HGo.out; omega
                case rel =>
                  have h0 := HBQ.out
                  have h8 := HGo.out
                  obtain ⟨j1, j2, j3, j4, j5, j6, j7⟩ := HJ.out
                  have hB : B.length ≤ bs := by have := HlA.out; omega
                  exact ⟨b2, dj, by go_num, by omega, hb2b, by omega, Lib.hid ⟨j1, j2, by rw [j4, j3]; exact j5.app (.last (by omega) (j7.one hB))⟩⟩
        · have hlti : ¬ (bs : Int) < (n : Int) := by omega
          go_wp2
          go_end0
          exact ⟨rfl, d1, HK.out.1, HK.out.2.1, HK.out.2.2.one (by have := HN.out.2; omega)⟩

end Go.Proofs.Ytpnbibokddhheaa
