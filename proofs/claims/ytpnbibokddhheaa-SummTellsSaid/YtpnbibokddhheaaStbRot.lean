/-
  slices.rotateCmpFunc at heads: two parts of a row, side by side, change places.
-/
import Derived.Test.YtpnbibokddhheaaStbSwap
namespace Go.Proofs.Ytpnbibokddhheaa
open Go.RowKit Go.Sort Go.Shelf

/-- what is left to be turned: U and V, with what is in its place on both sides -/
structure RotAt (P X Y S L U V Q : List Hd) (m : Nat) (dj : Array Hd) : Prop where
  u : 0 < U.length
  v : 0 < V.length
  all : Y ++ X = L ++ (V ++ (U ++ Q))
  mid : P.length + L.length + U.length = m
  now : dj.toList = P ++ (L ++ (U ++ (V ++ (Q ++ S))))
section
variable {P X Y S L U V Q U1 U2 V1 V2 : List Hd} {m : Nat} {dj dk : Array Hd}
theorem RotAt.left (h : RotAt P X Y S L (U1 ++ U2) V Q m dj) (e : V.length = U1.length) (h2 : 0 < U2.length) (hd : dk.toList = (P ++ L) ++ (V ++ (U2 ++ (U1 ++ (Q ++ S))))) : RotAt P X Y S (L ++ V) U2 U1 Q m dk where
  u := h2
  v := by have := h.v; omega
  all := by rw [h.all]; simp
  mid := by have := h.mid; simp at this ⊢; omega
  now := by rw [hd]; simp
theorem RotAt.right (h : RotAt P X Y S L U (V1 ++ V2) Q m dj) (e : V2.length = U.length) (h2 : 0 < V1.length) (hd : dk.toList = (P ++ L) ++ (V2 ++ (V1 ++ (U ++ (Q ++ S))))) : RotAt P X Y S L V2 V1 (U ++ Q) m dk where
  u := by have := h.u; omega
  v := h2
  all := by rw [h.all]; simp
  mid := by have := h.mid; omega
  now := by rw [hd]; simp
theorem RotAt.ends (h : RotAt P X Y S L U V Q m dj) (hd : dk.toList = (P ++ L) ++ (V ++ ([] ++ (U ++ (Q ++ S))))) : dk.toList = P ++ (Y ++ (X ++ S)) := by
  have e : Y ++ (X ++ S) = (Y ++ X) ++ S := by simp
  rw [e, h.all, hd]
  simp
end
set_option maxHeartbeats 4000000 in
set_option maxRecDepth 100000 in
theorem rotate_any {w0 W : World} {blk cap : Nat} {d0 dk : Array Hd} (R : RowK Hd.cells 7 w0 blk 0 d0) (hW : SWK Hd.cells 7 w0 blk 0 dk W) (hs : dk.size = d0.size) (hsz : d0.size < 2 ^ 20)
    (P X Y S : List Hd) (hd : dk.toList = P ++ (X ++ (Y ++ S))) (hX : 0 < X.length) (hY : 0 < Y.length) (a m b : Nat) (ha : a = P.length) (hm : m = P.length + X.length) (hb : b = P.length + X.length + Y.length) (fv : Value) :
    Calls Try.prog 120 #[.slice (some ⟨blk, 0, none⟩) d0.size cap, .int .i64 a, .int .i64 m, .int .i64 b, fv] W fun e w' =>
      e = .returned (.tuple #[]) ∧ ∃ d', SWK Hd.cells 7 w0 blk 0 d' w' ∧ d'.size = d0.size ∧ d'.toList = P ++ (Y ++ (X ++ S)) := by
  have hsum : P.length + X.length + Y.length ≤ d0.size := by rw [← hs, ← Array.length_toList, hd]; simp; omega
  have HRot := Lib.hid (show RotAt P X Y S [] X Y [] m dk from ⟨hX, hY, by simp, by simp [hm], by rw [hd]; simp⟩)
  have HR := Lib.hid R
  have HWW := Lib.hid hW
  have HS := Lib.hid hs
  obtain ⟨nx, hnx⟩ : ∃ n, X.length = n := ⟨_, rfl⟩
  obtain ⟨ny, hny⟩ : ∃ n, Y.length = n := ⟨_, rfl⟩
  have hma : (m : Int) - (a : Int) = (nx : Int) := by omega
  have hbm : (b : Int) - (m : Int) = (ny : Int) := by omega
  have hnxb : nx ≤ 1048576 := by omega
  have hnyb : ny ≤ 1048576 := by omega
  have HXY := Lib.hid (show m ≤ 1048576 ∧ X.length = nx ∧ Y.length = ny from ⟨by omega, hnx, hny⟩)
  clear hnx hny R hW hs hd hm hb ha hX hY hsum
  go_enter Try.func120, Try.ntmps120
  go_wp2
  go_loopg [10, 11] (nx + ny) (fun g vi vj wr => ∃ (i j : Nat) (L U V Q : List Hd) (dj : Array Hd), vi = .int .i64 i ∧ vj = .int .i64 j ∧ U.length = i ∧ V.length = j ∧ i + j ≤ g ∧ m + j ≤ 2097152 ∧ RotAt P X Y S L U V Q m dj ∧ SWK Hd.cells 7 w0 blk 0 dj wr ∧ dj.size = d0.size)
  case atStart => exact ⟨nx, ny, [], X, Y, [], dk, by go_num, by go_num, HXY.out.2.1, HXY.out.2.2, Nat.le_refl _, by have := HXY.out; omega, HRot.out, HWW.out, HS.out⟩
  case round =>
    obtain ⟨i, j, L, U, V, Q, dj, rfl, rfl, hU, hV, hg, hmj, hrot, hW, hsj⟩ := hrel
    have hR := HR.out
    have hu := hrot.u
    have hv := hrot.v
    have hmid := hrot.mid
    have hnow := hrot.now
    have hmi : (m : Int) - (i : Int) = ((m - i : Nat) : Int) := by omega
    have hmb : m ≤ 2097152 := by omega
    have hib : i ≤ 2097152 := by omega
    have hjb : j ≤ 2097152 := by omega
    clear hma hbm
    by_cases hij : i = j
    · have hne : ((i : Int) != (j : Int)) = false := by simp [hij]
      have HC := Lib.hid (swapRange_any (cap := cap) hR hW hsj hsz (P ++ L) U [] V (Q ++ S) (by rw [hnow]; simp) (by omega) (m - i) m i (by simp; omega) (by simp; omega) hU.symm fv)
      have HRt := Lib.hid hrot
      subst hij
      clear hR hW hsj hrot hu hv hmid hnow hU hV hg
      go_wp2_with (go_at_call 139; (with_reducible refine Calls.mono HC.out ?_); rintro r w5 ⟨rfl, d5, hW5, hs5, hd5⟩)
      go_end0
      exact ⟨rfl, d5, hW5, hs5, HRt.out.ends hd5⟩
    · have hne : ((i : Int) != (j : Int)) = true := by simp; omega
      by_cases hgt : j < i
      · have hgti : (j : Int) < (i : Int) := by omega
        obtain ⟨U1, U2, rfl, hU1⟩ := cut_at U j (by omega)
        rw [List.length_append] at hU hmid
        have hij2 : (i : Int) - (j : Int) = ((i - j : Nat) : Int) := by omega
        have HC := Lib.hid (swapRange_any (cap := cap) hR hW hsj hsz (P ++ L) U1 U2 V (Q ++ S) (by rw [hnow]; simp) (by omega) (m - i) m j (by simp; omega) (by simp; omega) hU1.symm fv)
        have HRt := Lib.hid hrot
        have HL := Lib.hid (show U1.length = j ∧ V.length = j ∧ j + U2.length = i ∧ 0 < j ∧ i + j ≤ gk ∧ j < i from ⟨hU1, hV, by omega, by omega, hg, hgt⟩)
        clear hR hW hsj hrot hu hv hmid hnow hU hV hg hij hU1 hgt
        go_wp2_with (go_at_call 139; (with_reducible refine Calls.mono HC.out ?_); rintro r w5 ⟨rfl, d5, hW5, hs5, hd5⟩; have H5 := Lib.hid (show _ ∧ _ ∧ _ from ⟨hW5, hs5, hd5⟩); clear hW5 hs5 hd5)
        go_roundg i
        case measure => have := HL.out; omega
        case rel =>
          obtain ⟨q1, q2, q3, q4, q5, q6⟩ := HL.out
          exact ⟨i - j, j, L ++ V, U2, U1, Q, d5, by go_num, rfl, by omega, q1, by omega, by omega, HRt.out.left (by omega) (by omega) H5.out.2.2, H5.out.1, H5.out.2.1⟩
      · have hgti : ¬ (j : Int) < (i : Int) := by omega
        obtain ⟨V1, V2, rfl, hV1⟩ := cut_at V (j - i) (by omega)
        rw [List.length_append] at hV
        have hji2 : (j : Int) - (i : Int) = ((j - i : Nat) : Int) := by omega
        obtain ⟨mj, hmj0⟩ : ∃ k, m + j = k := ⟨_, rfl⟩
        obtain ⟨mq, hmq⟩ : ∃ k, m + j - i = k := ⟨_, rfl⟩
        have hmj1 : (m : Int) + (j : Int) = (mj : Int) := by omega
        have hmj2 : (mj : Int) - (i : Int) = (mq : Int) := by omega
        have hmj3 : mj ≤ 2097152 := by omega
        have hmj4 : mq ≤ 2097152 := by omega
        have HC := Lib.hid (swapRange_any (cap := cap) hR hW hsj hsz (P ++ L) U V1 V2 (Q ++ S) (by rw [hnow]; simp) (by omega) (m - i) mq i (by simp; omega) (by simp; omega) hU.symm fv)
        have HRt := Lib.hid hrot
        have HL := Lib.hid (show V1.length + i = j ∧ V2.length = i ∧ U.length = i ∧ 0 < i ∧ i + j ≤ gk ∧ i < j from ⟨by omega, by omega, hU, by omega, hg, by omega⟩)
        clear hmj0 hmq hR hW hsj hrot hu hv hmid hnow hU hV hg hij hV1 hgt
        go_wp2_with (go_at_call 139; (with_reducible refine Calls.mono HC.out ?_); rintro r w5 ⟨rfl, d5, hW5, hs5, hd5⟩; have H5 := Lib.hid (show _ ∧ _ ∧ _ from ⟨hW5, hs5, hd5⟩); clear hW5 hs5 hd5)
        go_roundg j
        case measure => have := HL.out; omega
        case rel =>
          obtain ⟨q1, q2, q3, q4, q5, q6⟩ := HL.out
          exact ⟨i, j - i, L, V2, V1, U ++ Q, d5, rfl, by go_num, by omega, by omega, by omega, by omega, HRt.out.right (by omega) (by omega) H5.out.2.2, H5.out.1, H5.out.2.1⟩

end Go.Proofs.Ytpnbibokddhheaa
