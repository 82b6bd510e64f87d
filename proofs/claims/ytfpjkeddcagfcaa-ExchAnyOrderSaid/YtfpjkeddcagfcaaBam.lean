/-
  slices.swapRangeCmpFunc at heads: two parts of a row, of one length, change places.
-/
import Derived.Shelf.SlSortCmp.KitK
import Derived.Shelf.SlSortCmp.NoneTotal
import Derived.Shelf.SlSortCmp.QuietGrown
import Derived.Test.YtfpjkeddcagfcaaBaa
import Derived.Test.YtfpjkeddcagfcaaBab
import Derived.Test.YtfpjkeddcagfcaaBac
import Derived.Test.YtfpjkeddcagfcaaBaj
namespace Go.Proofs.Ytfpjkeddcagfcaa
open Go.RowKit Go.Sort Go.Shelf

instance : Inhabited Hd := ⟨⟨0, 0, 0, 0, 0, 0, 0⟩⟩
theorem hdC_len : ∀ x : Hd, x.cells.length = 7 := fun _ => rfl
theorem hdC_one : ∀ x : Hd, ∀ v ∈ x.cells, v.oneCell' = true := fun x v hv => by
  simp only [Hd.cells, List.mem_cons, List.not_mem_nil, or_false] at hv
  rcases hv with rfl | rfl | rfl | rfl | rfl | rfl | rfl <;> rfl

section
variable {w0 W : World} {blk : Nat} {d0 dk : Array Hd}
/-- the seven cells of one element -/
theorem swk_hd7 (h : SWK Hd.cells 7 w0 blk 0 dk W) (R : RowK Hd.cells 7 w0 blk 0 d0) (hs : dk.size = d0.size) (i : Nat) (hi : i < dk.size) (x : Hd) (hx : dk[i]! = x) :
    W.cell? ⟨blk, i * 7, none⟩ = some (.int .i64 x.age) ∧ W.cell? ⟨blk, i * 7 + 1, none⟩ = some (.int .i64 x.kind) ∧ W.cell? ⟨blk, i * 7 + 2, none⟩ = some (.int .i64 x.id) ∧ W.cell? ⟨blk, i * 7 + 3, none⟩ = some (.int .i64 x.adv) ∧ W.cell? ⟨blk, i * 7 + 4, none⟩ = some (.int .i64 x.seq) ∧ W.cell? ⟨blk, i * 7 + 5, none⟩ = some (.int .i64 x.sum) ∧ W.cell? ⟨blk, i * 7 + 6, none⟩ = some (.int .i64 x.long) := by
  have H := h.holds R.hblk R.hH hs
  have z := fun c (hc : c < 7) => (HoldsK.cell H hi hc).1
  rw [hx] at z
  simp only [Nat.zero_add] at z
  exact ⟨z 0 (by omega), z 1 (by omega), z 2 (by omega), z 3 (by omega), z 4 (by omega), z 5 (by omega), z 6 (by omega)⟩
/-- they may be written -/
theorem swk_fz7 (h : SWK Hd.cells 7 w0 blk 0 dk W) (R : RowK Hd.cells 7 w0 blk 0 d0) (hs : dk.size = d0.size) (i : Nat) (hi : i < dk.size) : W.frozen? ⟨blk, i * 7, none⟩ = false ∧ W.frozen? ⟨blk, i * 7 + 1, none⟩ = false ∧ W.frozen? ⟨blk, i * 7 + 2, none⟩ = false ∧ W.frozen? ⟨blk, i * 7 + 3, none⟩ = false ∧ W.frozen? ⟨blk, i * 7 + 4, none⟩ = false ∧ W.frozen? ⟨blk, i * 7 + 5, none⟩ = false ∧ W.frozen? ⟨blk, i * 7 + 6, none⟩ = false := by
  have H := h.holds R.hblk R.hH hs
  have z := fun c (hc : c < 7) => (HoldsK.cell H hi hc).2
  simp only [Nat.zero_add] at z
  exact ⟨z 0 (by omega), z 1 (by omega), z 2 (by omega), z 3 (by omega), z 4 (by omega), z 5 (by omega), z 6 (by omega)⟩
/-- one element is written anew -/
theorem put7 (w : World) (b p : Nat) (y : Hd) : w.setCells b p y.cells = ((((((w.setCell ⟨b, p, none⟩ (.int .i64 y.age)).setCell ⟨b, p + 1, none⟩ (.int .i64 y.kind)).setCell ⟨b, p + 2, none⟩ (.int .i64 y.id)).setCell ⟨b, p + 3, none⟩ (.int .i64 y.adv)).setCell ⟨b, p + 4, none⟩ (.int .i64 y.seq)).setCell ⟨b, p + 5, none⟩ (.int .i64 y.sum)).setCell ⟨b, p + 6, none⟩ (.int .i64 y.long) := rfl
/-- a world in which one element is written anew: what the other ones hold -/
theorem put_far {w w5 : World} {b p q : Nat} {y x : Hd} (h5 : w.setCells b p y.cells = w5) (hpq : p + 7 ≤ q ∨ q + 7 ≤ p) (hx : w.cell? ⟨b, q, none⟩ = some (.int .i64 x.age) ∧ w.cell? ⟨b, q + 1, none⟩ = some (.int .i64 x.kind) ∧ w.cell? ⟨b, q + 2, none⟩ = some (.int .i64 x.id) ∧ w.cell? ⟨b, q + 3, none⟩ = some (.int .i64 x.adv) ∧ w.cell? ⟨b, q + 4, none⟩ = some (.int .i64 x.seq) ∧ w.cell? ⟨b, q + 5, none⟩ = some (.int .i64 x.sum) ∧ w.cell? ⟨b, q + 6, none⟩ = some (.int .i64 x.long)) :
    w5.cell? ⟨b, q, none⟩ = some (.int .i64 x.age) ∧ w5.cell? ⟨b, q + 1, none⟩ = some (.int .i64 x.kind) ∧ w5.cell? ⟨b, q + 2, none⟩ = some (.int .i64 x.id) ∧ w5.cell? ⟨b, q + 3, none⟩ = some (.int .i64 x.adv) ∧ w5.cell? ⟨b, q + 4, none⟩ = some (.int .i64 x.seq) ∧ w5.cell? ⟨b, q + 5, none⟩ = some (.int .i64 x.sum) ∧ w5.cell? ⟨b, q + 6, none⟩ = some (.int .i64 x.long) := by
  subst h5
  have h7 : y.cells.length = 7 := rfl
  refine ⟨?_, ?_, ?_, ?_, ?_, ?_, ?_⟩ <;> rw [World.cell?_setCells_out b _ _ _ _ (fun _ _ => by simp only [h7]; omega)]
  · exact hx.1
  · exact hx.2.1
  · exact hx.2.2.1
  · exact hx.2.2.2.1
  · exact hx.2.2.2.2.1
  · exact hx.2.2.2.2.2.1
  · exact hx.2.2.2.2.2.2
theorem put_fz {w w5 : World} {b p q : Nat} {y : Hd} (h5 : w.setCells b p y.cells = w5) (hx : w.frozen? ⟨b, q, none⟩ = false ∧ w.frozen? ⟨b, q + 1, none⟩ = false ∧ w.frozen? ⟨b, q + 2, none⟩ = false ∧ w.frozen? ⟨b, q + 3, none⟩ = false ∧ w.frozen? ⟨b, q + 4, none⟩ = false ∧ w.frozen? ⟨b, q + 5, none⟩ = false ∧ w.frozen? ⟨b, q + 6, none⟩ = false) :
    w5.frozen? ⟨b, q, none⟩ = false ∧ w5.frozen? ⟨b, q + 1, none⟩ = false ∧ w5.frozen? ⟨b, q + 2, none⟩ = false ∧ w5.frozen? ⟨b, q + 3, none⟩ = false ∧ w5.frozen? ⟨b, q + 4, none⟩ = false ∧ w5.frozen? ⟨b, q + 5, none⟩ = false ∧ w5.frozen? ⟨b, q + 6, none⟩ = false := by
  subst h5
  simp only [World.frozen?_setCells]
  exact hx
end

set_option maxHeartbeats 8000000 in
set_option maxRecDepth 100000 in
theorem swapRange_any {w0 W : World} {blk cap : Nat} {d0 dk : Array Hd} (R : RowK Hd.cells 7 w0 blk 0 d0) (hW : SWK Hd.cells 7 w0 blk 0 dk W) (hs : dk.size = d0.size) (hsz : d0.size < 2 ^ 20)
    (P A M B S : List Hd) (hd : dk.toList = P ++ (A ++ (M ++ (B ++ S)))) (hAB : B.length = A.length) (a b n : Nat) (ha : a = P.length) (hb : b = P.length + A.length + M.length) (hn : n = A.length) (fv : Value) :
    Calls Try.prog 50 #[.slice (some ⟨blk, 0, none⟩) d0.size cap, .int .i64 a, .int .i64 b, .int .i64 n, fv] W fun e w' =>
      e = .returned (.tuple #[]) ∧ ∃ d', SWK Hd.cells 7 w0 blk 0 d' w' ∧ d'.size = d0.size ∧ d'.toList = P ++ (B ++ (M ++ (A ++ S))) := by
  have HR := Lib.hid R
  have HWW := Lib.hid hW
  have HD := Lib.hid hd
  have HS := Lib.hid hs
  have HN := Lib.hid hn
  have HAB := Lib.hid hAB
  have HB := Lib.hid hb
  have HAa := Lib.hid ha
  clear R hW hd hs hn hAB hb ha
  go_enter Try.func50, Try.ntmps50
  go_wp2
  go_loopg [10] n (fun g1 vi wr => ∃ (i : Nat) (dj : Array Hd) (A1 A2 B1 B2 : List Hd), vi = .int .i64 i ∧ i ≤ n ∧ n ≤ g1 + i ∧ A = A1 ++ A2 ∧ B = B1 ++ B2 ∧ A1.length = i ∧ B1.length = i ∧ SWK Hd.cells 7 w0 blk 0 dj wr ∧ dj.size = d0.size ∧ dj.toList = P ++ (B1 ++ (A2 ++ (M ++ (A1 ++ (B2 ++ S))))))
  case atStart => exact ⟨0, dk, [], A, [], B, by go_num, by omega, by omega, rfl, rfl, rfl, rfl, HWW.out, HS.out, HD.out⟩
  case round =>
    obtain ⟨i, dj, A1, A2, B1, B2, rfl, hi, hg1, rfl, rfl, hA1, hB1, hW, hsj, hdj⟩ := hrel
    have hn := HN.out
    have hb := HB.out
    have ha := HAa.out
    have hAB := HAB.out
    have hR := HR.out
    have hsz' : dj.size = P.length + B1.length + A2.length + M.length + A1.length + B2.length + S.length := by rw [← Array.length_toList, hdj]; simp; omega
    by_cases hlt : i < n
    · have hltz : (i : Int) < (n : Int) := by omega
      obtain ⟨x, A3, rfl⟩ : ∃ x A3, A2 = x :: A3 := by
        cases A2 with
        | nil => simp at hn; omega
        | cons x A3 => exact ⟨x, A3, rfl⟩
      obtain ⟨y, B3, rfl⟩ : ∃ y B3, B2 = y :: B3 := by
        cases B2 with
        | nil => simp at hn hAB; omega
        | cons y B3 => exact ⟨y, B3, rfl⟩
      simp only [List.length_append, List.length_cons] at hn hb hAB hsz'
      have hx : dj[a + i]! = x := by
        have := arr_mid (d := dj) (A := P ++ B1) (x := x) (B := A3 ++ (M ++ (A1 ++ (y :: B3 ++ S)))) (by rw [hdj]; simp)
        rw [ha, ← hB1]; simpa using this
      have hy : dj[b + i]! = y := by
        have := arr_mid (d := dj) (A := P ++ (B1 ++ (x :: A3 ++ (M ++ A1)))) (x := y) (B := B3 ++ S) (by rw [hdj]; simp)
        rw [← this]; congr 1; simp; omega
      obtain ⟨x0, x1, x2, x3, x4, x5, x6⟩ := swk_hd7 hW.drew hR hsj (a + i) (by omega) x hx
      obtain ⟨y0, y1, y2, y3, y4, y5, y6⟩ := swk_hd7 hW.drew hR hsj (b + i) (by omega) y hy
      obtain ⟨u0, u1, u2, u3, u4, u5, u6⟩ := swk_fz7 hW.drew hR hsj (a + i) (by omega)
      obtain ⟨v0, v1, v2, v3, v4, v5, v6⟩ := swk_fz7 hW.drew hR hsj (b + i) (by omega)
      obtain ⟨x0', x1', x2', x3', x4', x5', x6'⟩ := swk_hd7 hW hR hsj (a + i) (by omega) x hx
      obtain ⟨y0', y1', y2', y3', y4', y5', y6'⟩ := swk_hd7 hW hR hsj (b + i) (by omega) y hy
      obtain ⟨u0', u1', u2', u3', u4', u5', u6'⟩ := swk_fz7 hW hR hsj (a + i) (by omega)
      obtain ⟨v0', v1', v2', v3', v4', v5', v6'⟩ := swk_fz7 hW hR hsj (b + i) (by omega)
      obtain ⟨w5, hw5⟩ : ∃ w5, wr.setCells blk ((a + i) * 7) y.cells = w5 := ⟨_, rfl⟩
      have hsw := hW.swap hR.hk hR.hblk (a + i) (b + i) (by omega) (by omega)
      rw [hx, hy, Nat.zero_add, Nat.zero_add, hw5, put7] at hsw
      have hsw := SWK.drew hsw
      have X5 := put_far hw5 (by omega) (swk_hd7 hW hR hsj (b + i) (by omega) y hy)
      have F5 := put_fz hw5 (swk_fz7 hW hR hsj (b + i) (by omega))
      have hw5 := (put7 wr blk ((a + i) * 7) y).symm.trans hw5
      obtain ⟨c0, c1, c2, c3, c4, c5, c6⟩ := X5
      obtain ⟨f0, f1, f2, f3, f4, f5, f6⟩ := F5
      obtain ⟨c0', c1', c2', c3', c4', c5', c6'⟩ := (show w5.drew.cell? ⟨blk, (b + i) * 7, none⟩ = some (.int .i64 y.age) ∧ w5.drew.cell? ⟨blk, (b + i) * 7 + 1, none⟩ = some (.int .i64 y.kind) ∧ w5.drew.cell? ⟨blk, (b + i) * 7 + 2, none⟩ = some (.int .i64 y.id) ∧ w5.drew.cell? ⟨blk, (b + i) * 7 + 3, none⟩ = some (.int .i64 y.adv) ∧ w5.drew.cell? ⟨blk, (b + i) * 7 + 4, none⟩ = some (.int .i64 y.seq) ∧ w5.drew.cell? ⟨blk, (b + i) * 7 + 5, none⟩ = some (.int .i64 y.sum) ∧ w5.drew.cell? ⟨blk, (b + i) * 7 + 6, none⟩ = some (.int .i64 y.long) from ⟨c0, c1, c2, c3, c4, c5, c6⟩)
      obtain ⟨f0', f1', f2', f3', f4', f5', f6'⟩ := (show w5.drew.frozen? ⟨blk, (b + i) * 7, none⟩ = false ∧ w5.drew.frozen? ⟨blk, (b + i) * 7 + 1, none⟩ = false ∧ w5.drew.frozen? ⟨blk, (b + i) * 7 + 2, none⟩ = false ∧ w5.drew.frozen? ⟨blk, (b + i) * 7 + 3, none⟩ = false ∧ w5.drew.frozen? ⟨blk, (b + i) * 7 + 4, none⟩ = false ∧ w5.drew.frozen? ⟨blk, (b + i) * 7 + 5, none⟩ = false ∧ w5.drew.frozen? ⟨blk, (b + i) * 7 + 6, none⟩ = false from ⟨f0, f1, f2, f3, f4, f5, f6⟩)
      have hto : (swp dj (a + i) (b + i)).toList = P ++ ((B1 ++ [y]) ++ (A3 ++ (M ++ ((A1 ++ [x]) ++ (B3 ++ S))))) := by
        have := arr_swp' (d := dj) (A := P ++ B1) (B := A3 ++ (M ++ A1)) (x := x) (y := y) (C := B3 ++ S) (by rw [hdj]; simp) (a + i) (b + i) (by simp; omega) (by simp; omega)
        rw [this]; simp
      have HC := Lib.hid (show A1.length = i ∧ B1.length = i ∧ dj.size = d0.size from ⟨hA1, hB1, hsj⟩)
      have HTO := Lib.hid hto
      have HLT := Lib.hid hlt
      have hib : i < 1048576 := by omega
      have HSW := Lib.hid hsw
      have w1 : IntKind.i64.wrap ((a : Int) + (i : Int)) = ((a + i : Nat) : Int) := by rw [IntKind.wrap_i64]; omega
      have w2 : IntKind.i64.wrap ((b : Int) + (i : Int)) = ((b + i : Nat) : Int) := by rw [IntKind.wrap_i64]; omega
      have b1 : ((a + i : Nat) : Int) < (d0.size : Int) := by omega
      have b2 : ((b + i : Nat) : Int) < (d0.size : Int) := by omega
      clear hto hsw hn hb ha hAB hR hsz' hdj hx hy hW hA1 hB1 hsj
      generalize a + i = p at *
      generalize b + i = q at *
      have mixed : Try.prog.follows .mixedOrders = true := by kernel_rfl
      go_wp2_with fail
      go_big_region_o
      all_goals go_wp2
      go_roundg (n - (i + 1))
      case measure => omega
      case rel =>
        obtain ⟨q1, q2, q3⟩ := HC.out
        have hlt := HLT.out
        exact ⟨i + 1, swp dj p q, A1 ++ [x], A3, B1 ++ [y], B3, by go_num, by omega, by omega, by simp, by simp, by simp [q1], by simp [q2], HSW.out, by rw [size_swp]; exact q3, HTO.out⟩
    · have hltz : ¬ (i : Int) < (n : Int) := by omega
      obtain rfl : A2 = [] := List.length_eq_zero_iff.1 (by simp at hn; omega)
      obtain rfl : B2 = [] := List.length_eq_zero_iff.1 (by simp at hn hAB; omega)
      have HF := Lib.hid (show dj.toList = _ from hdj)
      clear hn hb ha hAB hR hsz' hdj
      go_wp2
      go_end0
      exact ⟨rfl, dj, hW, hsj, by rw [HF.out]; simp⟩
end Go.Proofs.Ytfpjkeddcagfcaa

/-
  slices.rotateCmpFunc at heads: two parts of a row, side by side, change places.
-/
namespace Go.Proofs.Ytfpjkeddcagfcaa
open Go.RowKit Go.Sort Go.Shelf

/-- what is left to be turned: U and V, with what is in its place on both sides -/
structure RotAt (P X Y S L U V Q : List Hd) (m : Nat) (dj : Array Hd) : Prop where
  u : 0 < U.length
  v : 0 < V.length
  all : Y ++ X = L ++ (V ++ (U ++ Q))
  mid : P.length + L.length + U.length = m
  now : dj.toList = P ++ (L ++ (U ++ (V ++ (Q ++ S))))
section
variable {P X Y S L U V Q U1 U2 V1 V2 : List Hd} {m : Nat} {dj dk : Array Hd}
theorem RotAt.left (h : RotAt P X Y S L (U1 ++ U2) V Q m dj) (e : V.length = U1.length) (h2 : 0 < U2.length) (hd : dk.toList = (P ++ L) ++ (V ++ (U2 ++ (U1 ++ (Q ++ S))))) : RotAt P X Y S (L ++ V) U2 U1 Q m dk where
  u := h2
  v := by have := h.v; omega
  all := by rw [h.all]; simp
  mid := by have := h.mid; simp at this ⊢; omega
  now := by rw [hd]; simp
theorem RotAt.right (h : RotAt P X Y S L U (V1 ++ V2) Q m dj) (e : V2.length = U.length) (h2 : 0 < V1.length) (hd : dk.toList = (P ++ L) ++ (V2 ++ (V1 ++ (U ++ (Q ++ S))))) : RotAt P X Y S L V2 V1 (U ++ Q) m dk where
  u := by have := h.u; omega
  v := h2
  all := by rw [h.all]; simp
  mid := by have := h.mid; omega
  now := by rw [hd]; simp
theorem RotAt.ends (h : RotAt P X Y S L U V Q m dj) (hd : dk.toList = (P ++ L) ++ (V ++ ([] ++ (U ++ (Q ++ S))))) : dk.toList = P ++ (Y ++ (X ++ S)) := by
  have e : Y ++ (X ++ S) = (Y ++ X) ++ S := by simp
  rw [e, h.all, hd]
  simp
end
set_option maxHeartbeats 4000000 in
set_option maxRecDepth 100000 in
theorem rotate_any {w0 W : World} {blk cap : Nat} {d0 dk : Array Hd} (R : RowK Hd.cells 7 w0 blk 0 d0) (hW : SWK Hd.cells 7 w0 blk 0 dk W) (hs : dk.size = d0.size) (hsz : d0.size < 2 ^ 20)
    (P X Y S : List Hd) (hd : dk.toList = P ++ (X ++ (Y ++ S))) (hX : 0 < X.length) (hY : 0 < Y.length) (a m b : Nat) (ha : a = P.length) (hm : m = P.length + X.length) (hb : b = P.length + X.length + Y.length) (fv : Value) :
    Calls Try.prog 49 #[.slice (some ⟨blk, 0, none⟩) d0.size cap, .int .i64 a, .int .i64 m, .int .i64 b, fv] W fun e w' =>
      e = .returned (.tuple #[]) ∧ ∃ d', SWK Hd.cells 7 w0 blk 0 d' w' ∧ d'.size = d0.size ∧ d'.toList = P ++ (Y ++ (X ++ S)) := by
  have hsum : P.length + X.length + Y.length ≤ d0.size := by rw [← hs, ← Array.length_toList, hd]; simp; omega
  have HRot := Lib.hid (show RotAt P X Y S [] X Y [] m dk from ⟨hX, hY, by simp, by simp [hm], by rw [hd]; simp⟩)
  have HR := Lib.hid R
  have HWW := Lib.hid hW
  have HS := Lib.hid hs
  obtain ⟨nx, hnx⟩ : ∃ n, X.length = n := ⟨_, rfl⟩
  obtain ⟨ny, hny⟩ : ∃ n, Y.length = n := ⟨_, rfl⟩
  have hma : (m : Int) - (a : Int) = (nx : Int) := by omega
  have hbm : (b : Int) - (m : Int) = (ny : Int) := by omega
  have hnxb : nx ≤ 1048576 := by omega
  have hnyb : ny ≤ 1048576 := by omega
  have HXY := Lib.hid (show m ≤ 1048576 ∧ X.length = nx ∧ Y.length = ny from ⟨by omega, hnx, hny⟩)
  clear hnx hny R hW hs hd hm hb ha hX hY hsum
  go_enter Try.func49, Try.ntmps49
  go_wp2
  go_loopg [10, 11] (nx + ny) (fun g vi vj wr => ∃ (i j : Nat) (L U V Q : List Hd) (dj : Array Hd), vi = .int .i64 i ∧ vj = .int .i64 j ∧ U.length = i ∧ V.length = j ∧ i + j ≤ g ∧ m + j ≤ 2097152 ∧ RotAt P X Y S L U V Q m dj ∧ SWK Hd.cells 7 w0 blk 0 dj wr ∧ dj.size = d0.size)
  case atStart => exact ⟨nx, ny, [], X, Y, [], dk, by go_num, by go_num, HXY.out.2.1, HXY.out.2.2, Nat.le_refl _, by have := HXY.out; omega, HRot.out, HWW.out, HS.out⟩
  case round =>
    obtain ⟨i, j, L, U, V, Q, dj, rfl, rfl, hU, hV, hg, hmj, hrot, hW, hsj⟩ := hrel
    have hR := HR.out
    have hu := hrot.u
    have hv := hrot.v
    have hmid := hrot.mid
    have hnow := hrot.now
    have hmi : (m : Int) - (i : Int) = ((m - i : Nat) : Int) := by omega
    have hmb : m ≤ 2097152 := by omega
    have hib : i ≤ 2097152 := by omega
    have hjb : j ≤ 2097152 := by omega
    clear hma hbm
    by_cases hij : i = j
    · have hne : ((i : Int) != (j : Int)) = false := by simp [hij]
      have HC := Lib.hid (swapRange_any (cap := cap) hR hW hsj hsz (P ++ L) U [] V (Q ++ S) (by rw [hnow]; simp) (by omega) (m - i) m i (by simp; omega) (by simp; omega) hU.symm fv)
      have HRt := Lib.hid hrot
      subst hij
      clear hR hW hsj hrot hu hv hmid hnow hU hV hg
      go_wp2_with (go_at_call 50; (with_reducible refine Calls.mono HC.out ?_); rintro r w5 ⟨rfl, d5, hW5, hs5, hd5⟩)
      go_end0
      exact ⟨rfl, d5, hW5, hs5, HRt.out.ends hd5⟩
    · have hne : ((i : Int) != (j : Int)) = true := by simp; omega
      by_cases hgt : j < i
      · have hgti : (j : Int) < (i : Int) := by omega
        obtain ⟨U1, U2, rfl, hU1⟩ := cut_at U j (by omega)
        rw [List.length_append] at hU hmid
        have hij2 : (i : Int) - (j : Int) = ((i - j : Nat) : Int) := by omega
        have HC := Lib.hid (swapRange_any (cap := cap) hR hW hsj hsz (P ++ L) U1 U2 V (Q ++ S) (by rw [hnow]; simp) (by omega) (m - i) m j (by simp; omega) (by simp; omega) hU1.symm fv)
        have HRt := Lib.hid hrot
        have HL := Lib.hid (show U1.length = j ∧ V.length = j ∧ j + U2.length = i ∧ 0 < j ∧ i + j ≤ gk ∧ j < i from ⟨hU1, hV, by omega, by omega, hg, hgt⟩)
        clear hR hW hsj hrot hu hv hmid hnow hU hV hg hij hU1 hgt
        go_wp2_with (go_at_call 50; (with_reducible refine Calls.mono HC.out ?_); rintro r w5 ⟨rfl, d5, hW5, hs5, hd5⟩; have H5 := Lib.hid (show _ ∧ _ ∧ _ from ⟨hW5, hs5, hd5⟩); clear hW5 hs5 hd5)
        go_roundg i
        case measure => have := HL.out; omega
        case rel =>
          obtain ⟨q1, q2, q3, q4, q5, q6⟩ := HL.out
          exact ⟨i - j, j, L ++ V, U2, U1, Q, d5, by go_num, rfl, by omega, q1, by omega, by omega, HRt.out.left (by omega) (by omega) H5.out.2.2, H5.out.1, H5.out.2.1⟩
      · have hgti : ¬ (j : Int) < (i : Int) := by omega
        obtain ⟨V1, V2, rfl, hV1⟩ := cut_at V (j - i) (by omega)
        rw [List.length_append] at hV
        have hji2 : (j : Int) - (i : Int) = ((j - i : Nat) : Int) := by omega
        obtain ⟨mj, hmj0⟩ : ∃ k, m + j = k := ⟨_, rfl⟩
        obtain ⟨mq, hmq⟩ : ∃ k, m + j - i = k := ⟨_, rfl⟩
        have hmj1 : (m : Int) + (j : Int) = (mj : Int) := by omega
        have hmj2 : (mj : Int) - (i : Int) = (mq : Int) := by omega
        have hmj3 : mj ≤ 2097152 := by omega
        have hmj4 : mq ≤ 2097152 := by omega
        have HC := Lib.hid (swapRange_any (cap := cap) hR hW hsj hsz (P ++ L) U V1 V2 (Q ++ S) (by rw [hnow]; simp) (by omega) (m - i) mq i (by simp; omega) (by simp; omega) hU.symm fv)
        have HRt := Lib.hid hrot
        have HL := Lib.hid (show V1.length + i = j ∧ V2.length = i ∧ U.length = i ∧ 0 < i ∧ i + j ≤ gk ∧ i < j from ⟨by omega, by omega, hU, by omega, hg, by omega⟩)
        clear hmj0 hmq hR hW hsj hrot hu hv hmid hnow hU hV hg hij hV1 hgt
        go_wp2_with (go_at_call 50; (with_reducible refine Calls.mono HC.out ?_); rintro r w5 ⟨rfl, d5, hW5, hs5, hd5⟩; have H5 := Lib.hid (show _ ∧ _ ∧ _ from ⟨hW5, hs5, hd5⟩); clear hW5 hs5 hd5)
        go_roundg j
        case measure => have := HL.out; omega
        case rel =>
          obtain ⟨q1, q2, q3, q4, q5, q6⟩ := HL.out
          exact ⟨i, j - i, L, V2, V1, U ++ Q, d5, rfl, by go_num, by omega, by omega, by omega, by omega, HRt.out.right (by omega) (by omega) H5.out.2.2, H5.out.1, H5.out.2.1⟩

end Go.Proofs.Ytfpjkeddcagfcaa

/-
  Two elements of a row of heads change places: all that a walk wants of it.
-/
namespace Go.Proofs.Ytfpjkeddcagfcaa
open Go.RowKit Go.Sort Go.Shelf

def C7 (w : World) (b q : Nat) (x : Hd) : Prop := w.cell? ⟨b, q, none⟩ = some (.int .i64 x.age) ∧ w.cell? ⟨b, q + 1, none⟩ = some (.int .i64 x.kind) ∧ w.cell? ⟨b, q + 2, none⟩ = some (.int .i64 x.id) ∧ w.cell? ⟨b, q + 3, none⟩ = some (.int .i64 x.adv) ∧ w.cell? ⟨b, q + 4, none⟩ = some (.int .i64 x.seq) ∧ w.cell? ⟨b, q + 5, none⟩ = some (.int .i64 x.sum) ∧ w.cell? ⟨b, q + 6, none⟩ = some (.int .i64 x.long)
def F7 (w : World) (b q : Nat) : Prop := w.frozen? ⟨b, q, none⟩ = false ∧ w.frozen? ⟨b, q + 1, none⟩ = false ∧ w.frozen? ⟨b, q + 2, none⟩ = false ∧ w.frozen? ⟨b, q + 3, none⟩ = false ∧ w.frozen? ⟨b, q + 4, none⟩ = false ∧ w.frozen? ⟨b, q + 5, none⟩ = false ∧ w.frozen? ⟨b, q + 6, none⟩ = false
/-- seven cells written -/
def put7w (w : World) (b p : Nat) (y : Hd) : World := ((((((w.setCell ⟨b, p, none⟩ (.int .i64 y.age)).setCell ⟨b, p + 1, none⟩ (.int .i64 y.kind)).setCell ⟨b, p + 2, none⟩ (.int .i64 y.id)).setCell ⟨b, p + 3, none⟩ (.int .i64 y.adv)).setCell ⟨b, p + 4, none⟩ (.int .i64 y.seq)).setCell ⟨b, p + 5, none⟩ (.int .i64 y.sum)).setCell ⟨b, p + 6, none⟩ (.int .i64 y.long)
structure SwapF (w w5 : World) (b p q : Nat) (x y : Hd) : Prop where
  e5 : put7w w b p y = w5
  xd : C7 w.drew b p x
  yd : C7 w.drew b q y
  x0 : C7 w b p x
  y0 : C7 w b q y
  fp : F7 w b p
  fq : F7 w b q
  fpd : F7 w.drew b p
  fqd : F7 w.drew b q
  y5 : C7 w5 b q y
  y5d : C7 w5.drew b q y
  f5 : F7 w5 b q
  f5d : F7 w5.drew b q
theorem swap_facts {w0 w : World} {blk : Nat} {d0 dk : Array Hd} (h : SWK Hd.cells 7 w0 blk 0 dk w) (R : RowK Hd.cells 7 w0 blk 0 d0) (hs : dk.size = d0.size) (p q : Nat) (hp : p < dk.size) (hq : q < dk.size) (hpq : p ≠ q) {x y : Hd} (hx : dk[p]! = x) (hy : dk[q]! = y) :
    ∃ w5, SwapF w w5 blk (p * 7) (q * 7) x y ∧ SWK Hd.cells 7 w0 blk 0 (swp dk p q) (put7w w5 blk (q * 7) x).drew := by
  have hsw := h.swap R.hk R.hblk p q hp hq
  rw [hx, hy, Nat.zero_add, Nat.zero_add] at hsw
  have xd := swk_hd7 h.drew R hs p hp x hx
  have yd := swk_hd7 h.drew R hs q hq y hy
  have x0 := swk_hd7 h R hs p hp x hx
  have y0 := swk_hd7 h R hs q hq y hy
  have fp := swk_fz7 h R hs p hp
  have fq := swk_fz7 h R hs q hq
  have fpd := swk_fz7 h.drew R hs p hp
  have fqd := swk_fz7 h.drew R hs q hq
  have e5 : w.setCells blk (p * 7) y.cells = put7w w blk (p * 7) y := put7 _ _ _ _
  have e6 : (put7w w blk (p * 7) y).setCells blk (q * 7) x.cells = put7w (put7w w blk (p * 7) y) blk (q * 7) x := put7 _ _ _ _
  rw [e5, e6] at hsw
  have e7 := SWK.drew hsw
  obtain ⟨w5, h5⟩ : ∃ w5, put7w w blk (p * 7) y = w5 := ⟨_, rfl⟩
  rw [h5] at e7 e5
  have y5 := put_far e5 (by omega) y0
  have f5 := put_fz e5 fq
  exact ⟨w5, ⟨h5, xd, yd, x0, y0, fp, fq, fpd, fqd, y5, y5, f5, f5⟩, e7⟩
/-- seven cells that are read, in whatever world of the class -/
theorem swk_gd {w0 w : World} {blk : Nat} {d0 dk : Array Hd} (h : SWK Hd.cells 7 w0 blk 0 dk w) (R : RowK Hd.cells 7 w0 blk 0 d0) (hs : dk.size = d0.size) (p : Nat) (hp : p < dk.size) {x : Hd} (hx : dk[p]! = x) :
    (∀ n os, (grow (w.drewN n) os).cell? ⟨blk, p * 7, none⟩ = some (.int .i64 x.age)) ∧ (∀ n os, (grow (w.drewN n) os).cell? ⟨blk, p * 7 + 1, none⟩ = some (.int .i64 x.kind)) ∧ (∀ n os, (grow (w.drewN n) os).cell? ⟨blk, p * 7 + 2, none⟩ = some (.int .i64 x.id)) ∧ (∀ n os, (grow (w.drewN n) os).cell? ⟨blk, p * 7 + 3, none⟩ = some (.int .i64 x.adv)) ∧ (∀ n os, (grow (w.drewN n) os).cell? ⟨blk, p * 7 + 4, none⟩ = some (.int .i64 x.seq)) ∧ (∀ n os, (grow (w.drewN n) os).cell? ⟨blk, p * 7 + 5, none⟩ = some (.int .i64 x.sum)) ∧ (∀ n os, (grow (w.drewN n) os).cell? ⟨blk, p * 7 + 6, none⟩ = some (.int .i64 x.long)) :=
  ⟨fun n os => (swk_hd7 (h.grown n os) R hs p hp x hx).1, fun n os => (swk_hd7 (h.grown n os) R hs p hp x hx).2.1, fun n os => (swk_hd7 (h.grown n os) R hs p hp x hx).2.2.1, fun n os => (swk_hd7 (h.grown n os) R hs p hp x hx).2.2.2.1, fun n os => (swk_hd7 (h.grown n os) R hs p hp x hx).2.2.2.2.1, fun n os => (swk_hd7 (h.grown n os) R hs p hp x hx).2.2.2.2.2.1, fun n os => (swk_hd7 (h.grown n os) R hs p hp x hx).2.2.2.2.2.2⟩
theorem arr_some {d : Array Hd} {i : Nat} (h : i < d.size) {x : Hd} (hx : d[i]! = x) : d.toList[i]? = some x := by
  rw [Array.getElem?_toList, ← hx, getElem!_pos d i h]
  exact Array.getElem?_eq_getElem h

end Go.Proofs.Ytfpjkeddcagfcaa

/-
  A row of structs that a call made itself, behind the library's sort.
-/
namespace Go.Proofs.Ytfpjkeddcagfcaa
open Go.RowKit Go.Sort Go.Proofs

section
variable {α : Type} [Inhabited α] {e : TypeId} {C : Nat} {cells : α → List Value} {w : World} {B : Nat} {L : List α}
theorem flatK_list (hC : ∀ x, (cells x).length = C) (M : List α) : (flatK cells C M.toArray).toList = M.flatMap cells := by
  apply List.ext_getElem?
  intro t
  by_cases ht : t < M.length * C
  · have h0 : 0 < C := by
      rcases Nat.eq_zero_or_pos C with h | h
      · subst h; simp at ht
      · exact h
    have hk : t / C < M.length := Nat.div_lt_of_lt_mul (by rw [Nat.mul_comm]; exact ht)
    have hi : t % C < C := Nat.mod_lt _ h0
    have e1 := flatR cells C hC M (t / C) (t % C) hk hi
    rw [show t / C * C + t % C = t by rw [Nat.mul_comm]; exact Nat.div_add_mod t C] at e1
    rw [e1, Array.getElem?_toList]
    have hs : t < (flatK cells C M.toArray).size := by rw [size_flatK]; simpa using ht
    have e2 := get_flatK cells C M.toArray t (by simpa using ht)
    rw [getElem!_pos _ t hs] at e2
    rw [Array.getElem?_eq_getElem hs, e2]
    have e3 : M.toArray[t / C]! = M[t / C] := by simp [hk]
    have e4 : t % C < (cells M[t / C]).length := by rw [hC]; exact hi
    rw [e3, List.getElem?_eq_getElem e4, getElem!_pos (cells M[t / C]) (t % C) e4]
  · rw [List.getElem?_eq_none (by simpa using Nat.le_of_not_lt ht), List.getElem?_eq_none (by rw [flatLenR cells C hC]; omega)]
theorem ownR_holds (hC : ∀ x, (cells x).length = C) {g n cap : Nat} (h : OwnR e C cells w B (.slice (some ⟨g, 0, none⟩) n cap) L) : HoldsK cells C w g 0 L.toArray ∧ g < w.heap.size := by
  rcases h.2 with ⟨hv, -⟩ | ⟨g', cap', cur, hv, hb, hg, hnc, hcm, hcs, ht⟩
  · cases hv
  · simp only [Value.slice.injEq, Option.some.injEq, Addr.mk.injEq, and_true] at hv
    obtain ⟨rfl, rfl, rfl⟩ := hv
    refine ⟨fun j hj => ⟨?_, by simp [World.frozen?, hg]⟩, (Array.getElem?_eq_some_iff.1 hg).1⟩
    have hj' : j < L.length * C := by rw [size_flatK] at hj; simpa using hj
    have h1 : (cur.toList.take (L.length * C))[j]? = (L.flatMap cells)[j]? := by rw [ht]
    rw [List.getElem?_take_of_lt hj', ← flatK_list hC, Array.getElem?_toList, Array.getElem?_toList, Array.getElem?_eq_getElem hj] at h1
    simp only [World.cell?, hg, Nat.zero_add, Option.isSome_none, Bool.false_eq_true, if_false]
    rw [h1, getElem!_pos (flatK cells C L.toArray) j hj]
    rfl
theorem take_put (F cur : Array Value) (h : F.size ≤ cur.size) : (putCells id 0 F cur).toList.take F.size = F.toList := by
  apply List.ext_getElem?
  intro j
  by_cases hj : j < F.size
  · rw [List.getElem?_take_of_lt hj, Array.getElem?_toList, Array.getElem?_toList]
    simp [putCells, hj, show j < cur.size by omega]
  · rw [List.getElem?_take_eq_none (by omega), List.getElem?_eq_none (by simp; omega)]
theorem ownR_sorted (hC : ∀ x, (cells x).length = C) {g n cap m : Nat} {os : Array Obj} {M : List α} (h : OwnR e C cells w B (.slice (some ⟨g, 0, none⟩) n cap) L) (hl : M.length = L.length) :
    OwnR e C cells (sortWorldK cells C w g 0 m M.toArray os) B (.slice (some ⟨g, 0, none⟩) n cap) M ∧ w.grownBy (sortWorldK cells C w g 0 m M.toArray os) (some g) := by
  rcases h.2 with ⟨hv, -⟩ | ⟨g', cap', cur, hv, hb, hg, hnc, hcm, hcs, ht⟩
  · cases hv
  · simp only [Value.slice.injEq, Option.some.injEq, Addr.mk.injEq, and_true] at hv
    obtain ⟨rfl, rfl, rfl⟩ := hv
    have hlt : g < w.heap.size := (Array.getElem?_eq_some_iff.1 hg).1
    have hheap : (sortWorldK cells C w g 0 m M.toArray os).heap[g]? = some (.cells (putCells id 0 (flatK cells C M.toArray) cur) e (0, 0)) := by
      unfold sortWorldK putRowK
      rw [heap_grow_old _ _ (by simpa using hlt)]
      simp [putRow, mapBlock, Sort.ahead, Array.getElem?_modify, hg, onCells]
    have hfs : (flatK cells C M.toArray).size = L.length * C := by rw [size_flatK]; simp [hl]
    refine ⟨⟨?_, .inr ⟨g, cap, _, by rw [hl], hb, hheap, by omega, hcm, by simp [putCells, hcs], ?_⟩⟩, rfl, rfl, rfl, ?_, fun k hk hne => ?_⟩
    · rw [flatLenR cells C hC]
    · rw [← flatK_list hC, hl, ← hfs]
      exact take_put _ _ (by rw [hfs, hcs]; exact Nat.mul_le_mul_right C hnc)
    · unfold sortWorldK putRowK
      simp
    · unfold sortWorldK putRowK
      rw [heap_grow_old _ _ (by simpa using hk)]
      have : g ≠ k := fun e => hne (by rw [e])
      simp [putRow, mapBlock, Sort.ahead, Array.getElem?_modify, this]
end

end Go.Proofs.Ytfpjkeddcagfcaa

/-
  The library's sort at a row that a call made itself: a permutation, in order.
-/
namespace Go.Proofs.Ytfpjkeddcagfcaa
open Go.RowKit Go.Sort Go.Proofs Go.Shelf

theorem sort_row {α : Type} [Inhabited α] {ρ : Ren} (LL : SlLaysF0.n6 Try.prog ρ) {C : Nat} (aE : ∀ w, (isAgg (ρ.t 24)).run Try.prog w = .ok true w) (zE : ∀ w, (Go.sizeOf (ρ.t 24)).run Try.prog w = .ok C w) (cells : α → List Value) (hC : ∀ x, (cells x).length = C) (h1 : ∀ x, ∀ v ∈ cells x, v.oneCell' = true)
    (cf : α → α → Int) (hO : SWO (ltOf cf)) (g : Nat) (eg : ∀ xs w, (callFunc g xs).run Try.prog w = .ok (.enter g xs) w)
    (hcmp : ∀ x y w, Calls Try.prog g #[.agg (cells x).toArray, .agg (cells y).toArray] w fun r w' => r = .returned (.int .i64 (cf x y)) ∧ ∃ q os', w' = grow (w.drewN q) os')
    {e : TypeId} (v : Value) (L : List α) (B : Nat) (w : World) (hown : OwnR e C cells w B v L) (hlen : L.length ≤ 2 ^ 20) :
    Calls Try.prog (ρ.f 6) #[v, .func (.func g) #[] #[]] w fun r w' => r = .returned (.tuple #[]) ∧ ∃ M, OwnR e C cells w' B v M ∧ M.Perm L ∧ (M.Pairwise fun x y => ltOf cf y x = false) ∧ w.grownBy w' v.ownBlock := by
  obtain ⟨A, cap, rfl⟩ := hown.shape
  by_cases h0 : L.length = 0
  · have hL : L = [] := List.eq_nil_of_length_eq_zero h0
    subst hL
    refine (AnyF.slices_SortFunc_none { LL with } A cap (.func (.func g) #[] #[]) w).mono ?_
    rintro r w' ⟨rfl, rfl⟩
    exact ⟨rfl, [], hown, List.Perm.refl _, List.Pairwise.nil, World.grownBy.refl _ _⟩
  · rcases hown.2 with ⟨hv, hn⟩ | ⟨g', cap', cur, hv, -⟩
    · omega
    · simp only [Value.slice.injEq, true_and] at hv
      obtain ⟨rfl, rfl⟩ := hv
      obtain ⟨hH, hlt⟩ := ownR_holds (C := C) (cells := cells) hC hown
      have h := AnyQ.slices_SortFunc LL C aE zE cells hC h1 cf hO g #[] g' 0 cap L.toArray w eg (fun m os dk _ x y => hcmp x y _) hH hlt (by simp; omega)
      refine h.mono ?_
      rintro r w' ⟨rfl, d', n, os, ⟨hsz, -, hperm⟩, hs, rfl⟩
      have e1 : d'.extract 0 L.toArray.size = d' := by rw [← hsz]; exact Array.extract_size
      rw [e1, Array.extract_size] at hperm
      have hl : d'.toList.length = L.length := by simpa using hsz
      have := ownR_sorted (C := C) (cells := cells) (m := n) (os := os) (M := d'.toList) hC hown hl
      rw [Array.toArray_toList] at this
      refine ⟨rfl, d'.toList, this.1, by simpa using hperm, ?_, this.2⟩
      rw [List.pairwise_iff_getElem]
      intro i j hi hj hij
      have hi' : i < d'.size := by simpa using hi
      have hj' : j < d'.size := by simpa using hj
      have := hs i j (Nat.zero_le _) hij (by omega)
      rw [getElem!_pos d' j hj', getElem!_pos d' i hi'] at this
      simpa using this

end Go.Proofs.Ytfpjkeddcagfcaa

/-
  How a summary's keys are compared.
-/
namespace Go.Proofs.Ytfpjkeddcagfcaa
open Go.RowKit Go.Sort Go.Proofs

set_option maxHeartbeats 2000000 in
set_option maxRecDepth 100000 in
theorem before_g13 (a1 a2 a3 b1 b2 b3 : Int) (w : World) : Calls Try.prog 39 #[.agg #[.int .i64 a1, .int .i64 a2, .int .i64 a3], .agg #[.int .i64 b1, .int .i64 b2, .int .i64 b3]] w fun r w' => r = .returned (.int .i64 (cmp3 a1 a2 a3 b1 b2 b3)) ∧ ∃ q os', w' = grow (w.drewN q) os' := by
  obtain ⟨w0, hW0⟩ : ∃ w0, (w.alloc (.cells #[.int .i64 a1, .int .i64 a2, .int .i64 a3] 74)).alloc (.cells #[.int .i64 b1, .int .i64 b2, .int .i64 b3] 74) = w0 := ⟨_, rfl⟩
  have hA : Blk w0 w.heap.size 74 #[.int .i64 a1, .int .i64 a2, .int .i64 a3] := by rw [← hW0]; exact (Blk.new w _ _).alloc _
  have hB : Blk w0 (w.heap.size + 1) 74 #[.int .i64 b1, .int .i64 b2, .int .i64 b3] := by
    rw [← hW0]
    have := Blk.new (w.alloc (.cells #[.int .i64 a1, .int .i64 a2, .int .i64 a3] 74)) 74 #[.int .i64 b1, .int .i64 b2, .int .i64 b3]
    simpa using this
  have Hg : Hid (∃ os, w0 = grow w os) := Lib.hid ⟨_, by rw [← hW0, alloc_eq_grow, alloc_eq_grow, grow_grow]⟩
  obtain ⟨a_0, a_1, a_2⟩ : _ ∧ _ ∧ _ := ⟨hA.cell 0, hA.cell 1, hA.cell 2⟩
  obtain ⟨b_0, b_1, b_2⟩ : _ ∧ _ ∧ _ := ⟨hB.cell 0, hB.cell 1, hB.cell 2⟩
  simp only [List.getElem?_toArray, List.getElem?_cons_zero, List.getElem?_cons_succ] at a_0 a_1 a_2 b_0 b_1 b_2
  clear hA hB
  go_enter Try.func39, Try.ntmps39
  go_wp2_with fail
  refine wp_drew_tail 15 (by kernel_rfl) (by kernel_rfl) ?_
  simp only [List.take_succ_cons, List.take_zero, List.drop_succ_cons, List.drop_zero]
  repeat (go_big_quiet_step (exact cmp_q _ _ _ _))
  refine wpQuiet_nil ?_
  rintro w3 ⟨dq, rfl⟩
  go_wp2_with (go_at_call 44; (with_reducible refine Calls.mono (or3_s _ _ _ _) ?_); rintro r w4 ⟨rfl, rfl⟩)
  go_ret
  obtain ⟨os, hos⟩ := Hg.out
  refine ⟨rfl, dq, os.push (.cells #[.int .i64 (cmpI a1 b1), .int .i64 (cmpI a2 b2), .int .i64 (cmpI a3 b3)] 3), ?_⟩
  subst hos
  simp [grow, World.alloc, World.drewN]
instance : Inhabited K3 := ⟨⟨0, 0, 0⟩⟩
theorem onesK13 (x : K3) : ∀ u ∈ K3.cells x, u.oneCell' = true := by
  intro u hu
  simp [K3.cells] at hu
  rcases hu with rfl | rfl | rfl <;> rfl
theorem ltOf_K13 : ltOf cmpK = lessK := by
  funext a b
  exact cmpK_less _ _
theorem swoK13 : SWO (ltOf cmpK) := by
  rw [ltOf_K13]
  exact { irrefl := lessK_irr, trans := fun _ _ _ h1 h2 => lessK_trans h1 h2, ntrans := fun _ _ _ h1 h2 => lessK_ntrans h1 h2 }
theorem call_before13 (xs : Array Value) (w : World) : (callFunc 39 xs).run Try.prog w = .ok (.enter 39 xs) w := callOf Try.func39 rfl (by kernel_rfl) xs w
theorem before13_any (x y : K3) (w : World) : Calls Try.prog 39 #[.agg (K3.cells x).toArray, .agg (K3.cells y).toArray] w fun r w' => r = .returned (.int .i64 (cmpK x y)) ∧ ∃ q os', w' = grow (w.drewN q) os' := by
  obtain ⟨a1, a2, a3⟩ := x
  obtain ⟨b1, b2, b3⟩ := y
  exact before_g13 a1 a2 a3 b1 b2 b3 w

end Go.Proofs.Ytfpjkeddcagfcaa

/-
  How the heads of a summary are compared: by their keys.
-/
namespace Go.Proofs.Ytfpjkeddcagfcaa
open Go.RowKit Go.Sort

def cmpS (a b : Hd) : Int := cmpK (keyH a) (keyH b)
def ltS (a b : Hd) : Bool := lessK (keyH a) (keyH b)
theorem cmpS_lt (a b : Hd) : decide (cmpS a b < 0) = ltS a b := cmpK_less _ _
theorem ltOf_S : ltOf cmpS = ltS := by
  funext a b
  exact cmpK_less _ _
theorem swoS : SWO ltS := { irrefl := fun _ => lessK_irr _, trans := fun _ _ _ h1 h2 => lessK_trans h1 h2, ntrans := fun _ _ _ h1 h2 => lessK_ntrans h1 h2 }
theorem call_newCmp (xs : Array Value) (w : World) : (callFunc 38 xs).run Try.prog w = .ok (.enter 38 xs) w := callOf Try.func38 rfl (by kernel_rfl) xs w
set_option maxHeartbeats 400000 in
theorem keyOf_gS (h : Hd) (w : World) : Calls Try.prog 40 #[.agg #[.int .i64 h.age, .int .i64 h.kind, .int .i64 h.id, .int .i64 h.adv, .int .i64 h.seq, .int .i64 h.sum, .int .i64 h.long]] w
    fun r w' => r = .returned (.agg #[.int .i64 h.kind, .int .i64 h.id, .int .i64 h.adv]) ∧ ∃ q os', w' = grow (w.drewN q) os' := by
  obtain ⟨a, b, c, d, e, f, g⟩ := h
  go_enter Try.func40, Try.ntmps40
  go_wp2
  refine bodyPost_ret (v := .agg #[.int .i64 b, .int .i64 c, .int .i64 d]) (by simp [results, Try.results40, go_sem]) rfl ⟨rfl, 0, #[.cells #[.int .i64 a, .int .i64 b, .int .i64 c, .int .i64 d, .int .i64 e, .int .i64 f, .int .i64 g] 56, .cells #[.int .i64 b, .int .i64 c, .int .i64 d] 74], ?_⟩
  rw [alloc_eq_grow, alloc_eq_grow, grow_grow]
  rfl
set_option maxHeartbeats 2000000 in
set_option maxRecDepth 100000 in
theorem newCmp_any (a b : Hd) (w : World) : Calls Try.prog 38 #[.agg #[.int .i64 a.age, .int .i64 a.kind, .int .i64 a.id, .int .i64 a.adv, .int .i64 a.seq, .int .i64 a.sum, .int .i64 a.long], .agg #[.int .i64 b.age, .int .i64 b.kind, .int .i64 b.id, .int .i64 b.adv, .int .i64 b.seq, .int .i64 b.sum, .int .i64 b.long]] w fun r w' => r = .returned (.int .i64 (cmpS a b)) ∧ ∃ q os', w' = grow (w.drewN q) os' := by
  obtain ⟨a1, a2, a3, a4, a5, a6, a7⟩ := a
  obtain ⟨b1, b2, b3, b4, b5, b6, b7⟩ := b
  obtain ⟨w0, hW0⟩ : ∃ w0, (w.alloc (.cells #[.int .i64 a1, .int .i64 a2, .int .i64 a3, .int .i64 a4, .int .i64 a5, .int .i64 a6, .int .i64 a7] 56)).alloc (.cells #[.int .i64 b1, .int .i64 b2, .int .i64 b3, .int .i64 b4, .int .i64 b5, .int .i64 b6, .int .i64 b7] 56) = w0 := ⟨_, rfl⟩
  have hA : Blk w0 w.heap.size 56 #[.int .i64 a1, .int .i64 a2, .int .i64 a3, .int .i64 a4, .int .i64 a5, .int .i64 a6, .int .i64 a7] := by rw [← hW0]; exact (Blk.new w _ _).alloc _
  have hB : Blk w0 (w.heap.size + 1) 56 #[.int .i64 b1, .int .i64 b2, .int .i64 b3, .int .i64 b4, .int .i64 b5, .int .i64 b6, .int .i64 b7] := by rw [← hW0]; exact Blk.size (by simp)
  have Hg : Hid (∃ os, w0 = grow w os) := Lib.hid ⟨_, by rw [← hW0, alloc_eq_grow, alloc_eq_grow, grow_grow]⟩
  obtain ⟨a_0, a_1, a_2, a_3, a_4, a_5, a_6⟩ : _ ∧ _ ∧ _ ∧ _ ∧ _ ∧ _ ∧ _ := ⟨cell_gd (hA.cell 0), cell_gd (hA.cell 1), cell_gd (hA.cell 2), cell_gd (hA.cell 3), cell_gd (hA.cell 4), cell_gd (hA.cell 5), cell_gd (hA.cell 6)⟩
  obtain ⟨b_0, b_1, b_2, b_3, b_4, b_5, b_6⟩ : _ ∧ _ ∧ _ ∧ _ ∧ _ ∧ _ ∧ _ := ⟨cell_gd (hB.cell 0), cell_gd (hB.cell 1), cell_gd (hB.cell 2), cell_gd (hB.cell 3), cell_gd (hB.cell 4), cell_gd (hB.cell 5), cell_gd (hB.cell 6)⟩
  have CK := Lib.hid (fun h q os => gd_of (w := w0) (q := q) (os := os) (keyOf_gS h _))
  have CB := Lib.hid (fun x1 x2 x3 y1 y2 y3 q os => gd_of (w := w0) (q := q) (os := os) (before_g13 x1 x2 x3 y1 y2 y3 _))
  clear hA hB
  unfold cmpS cmpK keyH
  (try simp only)
  go_enter Try.func38, Try.ntmps38
  go_wp2_with fail
  refine wp_gd_tail 5 (by kernel_rfl) (by kernel_rfl) ?_
  simp only [List.take_succ_cons, List.take_zero, List.drop_succ_cons, List.drop_zero]
  repeat (go_big_quiet_step (first | exact CK.out ⟨_, _, _, _, _, _, _⟩ _ _ | exact CB.out _ _ _ _ _ _ _ _))
  refine wpQuiet_nil ?_
  rintro w3 ⟨⟨dq, osq⟩, rfl⟩
  go_wp2
  go_ret
  obtain ⟨os, hos⟩ := Hg.out
  refine ⟨rfl, dq, os ++ osq, ?_⟩
  subst hos
  simp [grow, World.drewN, Array.append_assoc]

end Go.Proofs.Ytfpjkeddcagfcaa

/-
  slices.symMergeCmpFunc at heads where one of its two parts has one element.
-/
namespace Go.Proofs.Ytfpjkeddcagfcaa
open Go.RowKit Go.Sort Go.Shelf

/-- what a merge leaves: the part from a on is sorted stably -/
def MergedTo (w0 : World) (blk : Nat) (d0 : Array Hd) (P X Y S : List Hd) (e : Ending) (w' : World) : Prop :=
  e = .returned (.tuple #[]) ∧ ∃ d' Z, SWK Hd.cells 7 w0 blk 0 d' w' ∧ d'.size = d0.size ∧ d'.toList = P ++ (Z ++ S) ∧ Stb ltS (X ++ Y) Z
theorem get_at {d : Array Hd} {A B : List Hd} {x : Hd} (h : d.toList = A ++ x :: B) (i : Nat) (hi : i = A.length) : d[i]! = x := by
  subst hi
  exact arr_mid h
set_option maxHeartbeats 4000000 in
set_option maxRecDepth 100000 in
theorem mergeFirst {w0 W : World} {blk cap : Nat} {d0 dk : Array Hd} (R : RowK Hd.cells 7 w0 blk 0 d0) (hW : SWK Hd.cells 7 w0 blk 0 dk W) (hs : dk.size = d0.size) (hsz : d0.size < 2 ^ 20)
    (P Y S : List Hd) (x : Hd) (hd : dk.toList = P ++ (x :: (Y ++ S))) (hY : SrtL ltS Y) (a m b : Nat) (ha : a = P.length) (hm : m = P.length + 1) (hb : b = P.length + 1 + Y.length) :
    Calls Try.prog 47 #[.slice (some ⟨blk, 0, none⟩) d0.size cap, .int .i64 a, .int .i64 m, .int .i64 b, .func (.func 38) #[] #[]] W fun e w' => MergedTo w0 blk d0 P [x] Y S e w' := by
  have hsum : P.length + 1 + Y.length ≤ d0.size := by rw [← hs, ← Array.length_toList, hd]; simp; omega
  have hx : dk[a]! = x := get_at hd a ha
  have HR := Lib.hid R
  have HWW := Lib.hid hW
  have HC := Lib.hid (show dk.size = d0.size ∧ dk.toList = P ++ (x :: (Y ++ S)) ∧ SrtL ltS Y ∧ dk[a]! = x from ⟨hs, hd, hY, hx⟩)
  have HN := Lib.hid (show a = P.length ∧ m = a + 1 ∧ b = m + Y.length ∧ b ≤ d0.size ∧ a < d0.size from by omega)
  have hma : (m : Int) - (a : Int) = 1 := by omega
  have hbb : b ≤ 1048576 := by omega
  have hmb : m ≤ b := by omega
  have hai : (a : Int) < (d0.size : Int) := by omega
  have mixed : Try.prog.follows .mixedOrders = true := by kernel_rfl
  clear R hW hs hd hY hx ha hm hb hsum
  go_enter Try.func47, Try.ntmps47
  go_wp2
  go_loopg [10, 11] (b - m) (fun g vi vj wr => ∃ (i j : Nat), vi = .int .i64 i ∧ vj = .int .i64 j ∧ m ≤ i ∧ i ≤ j ∧ j ≤ b ∧ j - i ≤ g ∧ Hid (SWK Hd.cells 7 w0 blk 0 dk wr) ∧ Hid ((i = m ∨ ltS dk[i - 1]! x = true) ∧ (j = b ∨ ltS dk[j]! x = false)))
  case atStart => exact ⟨m, b, rfl, rfl, Nat.le_refl _, hmb, Nat.le_refl _, Nat.le_refl _, HWW, Lib.hid ⟨.inl rfl, .inl rfl⟩⟩
  case round =>
    obtain ⟨i, j, rfl, rfl, hmi, hij, hjb, hg, HW, HI⟩ := hrel
    clear hma
    by_cases hlt : i < j
    · have hlti : (i : Int) < (j : Int) := by omega
      obtain ⟨h, hh⟩ : ∃ h, (i + j) / 2 = h := ⟨_, rfl⟩
      have hdiv : ((i : Int) + (j : Int)) / 2 = (h : Int) := by omega
      have hib : i ≤ h := by omega
      have hhj : h < j := by omega
      have hhd : h < dk.size := by have := HN.out; have := HC.out.1; omega
      have had : a < dk.size := by have := HN.out; have := HC.out.1; omega
      have hhi : (h : Int) < (d0.size : Int) := by have := HN.out; omega
      obtain ⟨y, hy⟩ : ∃ y, dk[h]! = y := ⟨_, rfl⟩
      obtain ⟨x0, x1, x2, x3, x4, x5, x6⟩ := swk_gd HW.out HR.out HC.out.1 a had HC.out.2.2.2
      obtain ⟨y0, y1, y2, y3, y4, y5, y6⟩ := swk_gd HW.out HR.out HC.out.1 h hhd hy
      have hc := fun n os => newCmp_any y x (grow (wr.drewN n) os)
      have HG := Lib.hid (fun n os => HW.out.grown n os)
      have Hy := Lib.hid hy
      have hl := cmpS_lt y x
      obtain ⟨cv, hcv⟩ : ∃ c, cmpS y x = c := ⟨_, rfl⟩
      rw [hcv] at hc hl
      have HL := Lib.hid hl
      clear hh hhd had hy hcv hl
      by_cases hneg : cv < 0
      · have HB := Lib.hid (show ltS y x = true by rw [← HL.out]; exact decide_eq_true hneg)
        go_wp2_with fail
        go_quiet_grown (first | (go_at_call 38; refine Calls.grown_of (hc _ _)))
        go_wp2
        go_roundg (j - (h + 1))
        case measure => omega
        case rel => exact ⟨h + 1, j, by go_num, rfl, by omega, by omega, hjb, Nat.le_refl _, Lib.hid (HG.out _ _), Lib.hid ⟨.inr (by rw [Nat.add_sub_cancel, Hy.out]; exact HB.out), HI.out.2⟩⟩
      · have HB := Lib.hid (show ltS y x = false by rw [← HL.out]; exact decide_eq_false hneg)
        go_wp2_with fail
        go_quiet_grown (first | (go_at_call 38; refine Calls.grown_of (hc _ _)))
        go_wp2
        go_roundg (h - i)
        case measure => omega
        case rel => exact ⟨i, h, rfl, by go_num, hmi, by omega, by omega, Nat.le_refl _, Lib.hid (HG.out _ _), Lib.hid ⟨HI.out.1, .inr (by rw [Hy.out]; exact HB.out)⟩⟩
    · obtain rfl : i = j := by omega
      have hcut : ∃ Y1 Y2, Y = Y1 ++ Y2 ∧ Y1.length = i - m ∧ (∀ y ∈ Y1, ltS y x = true) ∧ (∀ y ∈ Y2, ltS y x = false) := by
        obtain ⟨n1, n2, n3, n4, n5⟩ := HN.out
        obtain ⟨c1, c2, c3, c4⟩ := HC.out
        have hd2 : dk.toList = (P ++ [x]) ++ (Y ++ S) := by rw [c2]; simp
        have hPl : (P ++ [x]).length = m := by simp; omega
        have := cut_less (x := x) swoS (P := P ++ [x]) (S := S) (i := i) c3 (by omega) (by omega) (by
          rcases HI.out.1 with e | e
          · exact .inl (by omega)
          · by_cases him : i = m
            · exact .inl (by omega)
            · exact .inr ⟨_, by rw [← hd2]; exact arr_some (by omega) rfl, e⟩) (by
          rcases HI.out.2 with e | e
          · exact .inl (by omega)
          · by_cases him : i = b
            · exact .inl (by omega)
            · exact .inr ⟨_, by rw [← hd2]; exact arr_some (by omega) rfl, e⟩)
        rw [hPl] at this
        exact this
      obtain ⟨Y1, Y2, rfl, hY1, hl1, hl2⟩ := hcut
      have HST := Lib.hid (stb_first swoS HC.out.2.2.1 hl1 hl2)
      obtain ⟨i1, hi1⟩ : ∃ k, i - 1 = k := ⟨_, rfl⟩
      have hi1i : (i : Int) - 1 = (i1 : Int) := by have := HN.out; omega
      have HN1 := Lib.hid (show i1 = a + Y1.length ∧ i1 < d0.size from by have := HN.out; omega)
      have hlti : ¬ (i : Int) < (i : Int) := by omega
      have hib : i1 ≤ 1048576 := by omega
      clear hl1 hl2 hY1 hi1
      go_wp2
      go_loopg [13] Y1.length (fun g vk wx => ∃ (k : Nat) (dj : Array Hd) (Ya Yb : List Hd), vk = .int .i64 k ∧ k = a + Ya.length ∧ Yb.length ≤ g ∧ Hid (Y1 = Ya ++ Yb ∧ SWK Hd.cells 7 w0 blk 0 dj wx ∧ dj.size = d0.size ∧ dj.toList = P ++ (Ya ++ (x :: (Yb ++ (Y2 ++ S))))))
      case atStart => exact ⟨a, dk, [], Y1, rfl, rfl, Nat.le_refl _, Lib.hid ⟨rfl, HW.out, HC.out.1, by rw [HC.out.2.1]; simp⟩⟩
      case round =>
        obtain ⟨k, dj, Ya, Yb, rfl, hk, hg2, HJ⟩ := hrel
        clear hg
        by_cases hkl : k < i1
        · have hkli : (k : Int) < (i1 : Int) := by omega
          obtain ⟨hY, hW, hsj, hdj⟩ := HJ.out
          obtain ⟨y, Yc, rfl⟩ : ∃ y Yc, Yb = y :: Yc := by
            cases Yb with
            | nil => have := HN1.out; rw [hY] at this; simp at this; omega
            | cons y Yc => exact ⟨y, Yc, rfl⟩
          obtain ⟨q, hq⟩ : ∃ q, k + 1 = q := ⟨_, rfl⟩
          have hq1 : (k : Int) + 1 = (q : Int) := by omega
          have hkx : dj[k]! = x := get_at (A := P ++ Ya) (B := y :: (Yc ++ (Y2 ++ S))) (by rw [hdj]; simp) k (by have := HN.out; simp; omega)
          have hqy : dj[q]! = y := get_at (A := P ++ Ya ++ [x]) (B := Yc ++ (Y2 ++ S)) (by rw [hdj]; simp) q (by have := HN.out; simp; omega)
          have hqs : q < d0.size := by have := HN1.out; omega
          have hqi : (q : Int) < (d0.size : Int) := by omega
          have hki : (k : Int) < (d0.size : Int) := by omega
          have hkb : k < 1048576 := by omega
          obtain ⟨w5, hsf, hsw⟩ := swap_facts hW HR.out hsj k q (by omega) (by omega) (by omega) hkx hqy
          have hto : (swp dj k q).toList = P ++ ((Ya ++ [y]) ++ (x :: (Yc ++ (Y2 ++ S)))) := by
            have := arr_swp' (d := dj) (A := P ++ Ya) (B := []) (x := x) (y := y) (C := Yc ++ (Y2 ++ S)) (by rw [hdj]; simp) k q (by have := HN.out; simp; omega) (by have := HN.out; simp; omega)
            rw [this]; simp
          have HJ2 := Lib.hid (show Y1 = (Ya ++ [y]) ++ Yc ∧ (swp dj k q).size = d0.size ∧ (swp dj k q).toList = P ++ ((Ya ++ [y]) ++ (x :: (Yc ++ (Y2 ++ S)))) ∧ q = a + (Ya ++ [y]).length ∧ Yc.length + 1 ≤ gk from ⟨by rw [hY]; simp, by rw [size_swp]; exact hsj, hto, by simp; omega, by simpa using hg2⟩)
          obtain ⟨xa0, xa1, xa2, xa3, xa4, xa5, xa6⟩ := hsf.xd
          obtain ⟨ya0, ya1, ya2, ya3, ya4, ya5, ya6⟩ := hsf.yd
          obtain ⟨xb0, xb1, xb2, xb3, xb4, xb5, xb6⟩ := hsf.x0
          obtain ⟨yb0, yb1, yb2, yb3, yb4, yb5, yb6⟩ := hsf.y0
          obtain ⟨fa0, fa1, fa2, fa3, fa4, fa5, fa6⟩ := hsf.fp
          obtain ⟨fb0, fb1, fb2, fb3, fb4, fb5, fb6⟩ := hsf.fq
          obtain ⟨fc0, fc1, fc2, fc3, fc4, fc5, fc6⟩ := hsf.fpd
          obtain ⟨fd0, fd1, fd2, fd3, fd4, fd5, fd6⟩ := hsf.fqd
          obtain ⟨yc0, yc1, yc2, yc3, yc4, yc5, yc6⟩ := hsf.y5
          obtain ⟨yd0, yd1, yd2, yd3, yd4, yd5, yd6⟩ := hsf.y5d
          obtain ⟨fe0, fe1, fe2, fe3, fe4, fe5, fe6⟩ := hsf.f5
          obtain ⟨ff0, ff1, ff2, ff3, ff4, ff5, ff6⟩ := hsf.f5d
          have hw5 := hsf.e5
          unfold put7w at hw5 hsw
          have HSW := Lib.hid hsw
          clear hY hW hsj hdj hkx hqy hqs hto hsf hsw hk hg2 HJ hq
          go_wp2_with fail
          go_big_region_o
          all_goals go_wp2
          go_roundg Yc.length
          case measure => have := HJ2.out; omega
          case rel =>
            obtain ⟨q1, q2, q3, q4, q5⟩ := HJ2.out
            exact ⟨q, swp dj k q, Ya ++ [y], Yc, by go_num, q4, Nat.le_refl _, Lib.hid ⟨q1, HSW.out, q2, q3⟩⟩
        · have hkli : ¬ (k : Int) < (i1 : Int) := by omega
          have hYb : Yb = [] := List.eq_nil_of_length_eq_zero (by have := HN1.out; have := congrArg List.length HJ.out.1; simp at this; omega)
          subst hYb
          go_wp2
          first | go_end0 | go_ret2
          obtain ⟨q1, q2, q3, q4⟩ := HJ.out
          exact ⟨rfl, dj, Y1 ++ ([x] ++ Y2), q2, q3, by rw [q4, q1]; simp, HST.out⟩

end Go.Proofs.Ytfpjkeddcagfcaa

/-
  slices.symMergeCmpFunc at heads where the second part has one element.
-/
namespace Go.Proofs.Ytfpjkeddcagfcaa
open Go.RowKit Go.Sort Go.Shelf

set_option maxHeartbeats 4000000 in
set_option maxRecDepth 100000 in
theorem mergeLast {w0 W : World} {blk cap : Nat} {d0 dk : Array Hd} (R : RowK Hd.cells 7 w0 blk 0 d0) (hW : SWK Hd.cells 7 w0 blk 0 dk W) (hs : dk.size = d0.size) (hsz : d0.size < 2 ^ 20)
    (P X S : List Hd) (y : Hd) (hd : dk.toList = P ++ (X ++ (y :: S))) (hX : SrtL ltS X) (h2 : 1 < X.length) (a m b : Nat) (ha : a = P.length) (hm : m = P.length + X.length) (hb : b = P.length + X.length + 1) :
    Calls Try.prog 47 #[.slice (some ⟨blk, 0, none⟩) d0.size cap, .int .i64 a, .int .i64 m, .int .i64 b, .func (.func 38) #[] #[]] W fun e w' => MergedTo w0 blk d0 P X [y] S e w' := by
  have hsum : P.length + X.length + 1 ≤ d0.size := by rw [← hs, ← Array.length_toList, hd]; simp; omega
  have hy : dk[m]! = y := get_at (A := P ++ X) (B := S) (by rw [hd]; simp) m (by rw [hm]; simp)
  have HR := Lib.hid R
  have HWW := Lib.hid hW
  have HC := Lib.hid (show dk.size = d0.size ∧ dk.toList = P ++ (X ++ (y :: S)) ∧ SrtL ltS X ∧ dk[m]! = y from ⟨hs, hd, hX, hy⟩)
  have HN := Lib.hid (show a = P.length ∧ m = a + X.length ∧ b = m + 1 ∧ b ≤ d0.size ∧ m < d0.size from by omega)
  obtain ⟨lx, hlx⟩ : ∃ n, m - a = n := ⟨_, rfl⟩
  have hma : (m : Int) - (a : Int) = (lx : Int) := by omega
  have hne1 : ((lx : Int) == 1) = false := by simp; omega
  have hlxb : lx ≤ 1048576 := by omega
  have hbm : (b : Int) - (m : Int) = 1 := by omega
  have hbb : b ≤ 1048576 := by omega
  have ham : a ≤ m := by omega
  have hmi : (m : Int) < (d0.size : Int) := by omega
  have mixed : Try.prog.follows .mixedOrders = true := by kernel_rfl
  have hmb : m ≤ 1048576 := by omega
  clear R hW hs hd hX hy ha hm hb hsum hlx h2
  go_enter Try.func47, Try.ntmps47
  go_wp2
  go_loopg [14, 15] (m - a) (fun g vi vj wr => ∃ (i j : Nat), vi = .int .i64 i ∧ vj = .int .i64 j ∧ a ≤ i ∧ i ≤ j ∧ j ≤ m ∧ j - i ≤ g ∧ Hid (SWK Hd.cells 7 w0 blk 0 dk wr) ∧ Hid ((i = a ∨ ltS y dk[i - 1]! = false) ∧ (j = m ∨ ltS y dk[j]! = true)))
  case atStart => exact ⟨a, m, rfl, rfl, Nat.le_refl _, ham, Nat.le_refl _, Nat.le_refl _, HWW, Lib.hid ⟨.inl rfl, .inl rfl⟩⟩
  case round =>
    obtain ⟨i, j, rfl, rfl, hai, hij, hjm, hg, HW, HI⟩ := hrel
    clear hma hbm hne1
    by_cases hlt : i < j
    · have hlti : (i : Int) < (j : Int) := by omega
      obtain ⟨h, hh⟩ : ∃ h, (i + j) / 2 = h := ⟨_, rfl⟩
      have hdiv : ((i : Int) + (j : Int)) / 2 = (h : Int) := by omega
      have hib : i ≤ h := by omega
      have hhj : h < j := by omega
      have hhd : h < dk.size := by have := HN.out; have := HC.out.1; omega
      have hmd : m < dk.size := by have := HN.out; have := HC.out.1; omega
      have hhi : (h : Int) < (d0.size : Int) := by have := HN.out; omega
      obtain ⟨z, hz⟩ : ∃ z, dk[h]! = z := ⟨_, rfl⟩
      obtain ⟨x0, x1, x2, x3, x4, x5, x6⟩ := swk_gd HW.out HR.out HC.out.1 m hmd HC.out.2.2.2
      obtain ⟨y0, y1, y2, y3, y4, y5, y6⟩ := swk_gd HW.out HR.out HC.out.1 h hhd hz
      have hc := fun n os => newCmp_any y z (grow (wr.drewN n) os)
      have HG := Lib.hid (fun n os => HW.out.grown n os)
      have Hz := Lib.hid hz
      have hl := cmpS_lt y z
      obtain ⟨cv, hcv⟩ : ∃ c, cmpS y z = c := ⟨_, rfl⟩
      rw [hcv] at hc hl
      have HL := Lib.hid hl
      clear hh hhd hmd hz hcv hl
      by_cases hneg : cv < 0
      · have HB := Lib.hid (show ltS y z = true by rw [← HL.out]; exact decide_eq_true hneg)
        go_wp2_with fail
        go_quiet_grown (first | (go_at_call 38; refine Calls.grown_of (hc _ _)))
        go_wp2
        go_roundg (h - i)
        case measure => omega
        case rel => exact ⟨i, h, rfl, by go_num, hai, by omega, by omega, Nat.le_refl _, Lib.hid (HG.out _ _), Lib.hid ⟨HI.out.1, .inr (by rw [Hz.out]; exact HB.out)⟩⟩
      · have HB := Lib.hid (show ltS y z = false by rw [← HL.out]; exact decide_eq_false hneg)
        have hnb : decide (cv < 0) = false := decide_eq_false hneg
        have hnb2 : 0 ≤ cv := by omega
        go_wp2_with fail
        go_quiet_grown (first | (go_at_call 38; refine Calls.grown_of (hc _ _)))
        go_wp2
        go_roundg (j - (h + 1))
        case measure => omega
        case rel => exact ⟨h + 1, j, by go_num, rfl, by omega, by omega, hjm, Nat.le_refl _, Lib.hid (HG.out _ _), Lib.hid ⟨.inr (by rw [Nat.add_sub_cancel, Hz.out]; exact HB.out), HI.out.2⟩⟩
    · obtain rfl : i = j := by omega
      have hcut : ∃ X1 X2, X = X1 ++ X2 ∧ X1.length = i - a ∧ (∀ z ∈ X1, ltS y z = false) ∧ (∀ z ∈ X2, ltS y z = true) := by
        obtain ⟨n1, n2, n3, n4, n5⟩ := HN.out
        obtain ⟨c1, c2, c3, c4⟩ := HC.out
        have := cut_above (x := y) swoS (P := P) (S := y :: S) (i := i) c3 (by omega) (by omega) (by
          rcases HI.out.1 with e | e
          · exact .inl (by omega)
          · by_cases him : i = a
            · exact .inl (by omega)
            · exact .inr ⟨_, by rw [← c2]; exact arr_some (by omega) rfl, e⟩) (by
          rcases HI.out.2 with e | e
          · exact .inl (by omega)
          · by_cases him : i = m
            · exact .inl (by omega)
            · exact .inr ⟨_, by rw [← c2]; exact arr_some (by omega) rfl, e⟩)
        rw [← n1] at this
        exact this
      obtain ⟨X1, X2, rfl, hX1, hl1, hl2⟩ := hcut
      have HST := Lib.hid (stb_last swoS HC.out.2.2.1 hl1 hl2)
      have HN1 := Lib.hid (show i = a + X1.length ∧ m = i + X2.length from by have := HN.out; simp at this; omega)
      have hlti : ¬ (i : Int) < (i : Int) := by omega
      have hib : i ≤ 1048576 := by omega
      clear hl1 hl2 hX1
      go_wp2
      go_loopg [17] X2.length (fun g vk wx => ∃ (k : Nat) (dj : Array Hd) (Xa Xb : List Hd), vk = .int .i64 k ∧ k = i + Xa.length ∧ Xa.length ≤ g ∧ Hid (X2 = Xa ++ Xb ∧ SWK Hd.cells 7 w0 blk 0 dj wx ∧ dj.size = d0.size ∧ dj.toList = P ++ (X1 ++ (Xa ++ (y :: (Xb ++ S))))))
      case atStart => exact ⟨m, dk, X2, [], rfl, HN1.out.2, Nat.le_refl _, Lib.hid ⟨by simp, HW.out, HC.out.1, by rw [HC.out.2.1]; simp⟩⟩
      case round =>
        obtain ⟨k, dj, Xa, Xb, rfl, hk, hg2, HJ⟩ := hrel
        clear hg
        by_cases hkl : i < k
        · have hkli : (i : Int) < (k : Int) := by omega
          obtain ⟨hX, hW, hsj, hdj⟩ := HJ.out
          obtain ⟨Xc, z, rfl⟩ : ∃ Xc z, Xa = Xc ++ [z] := by
            rcases List.eq_nil_or_concat Xa with rfl | ⟨Xc, z, rfl⟩
            · simp at hk; omega
            · exact ⟨Xc, z, by simp⟩
          rw [List.length_append, List.length_singleton] at hk hg2
          obtain ⟨q, hq⟩ : ∃ q, k - 1 = q := ⟨_, rfl⟩
          have hq1 : (k : Int) - 1 = (q : Int) := by omega
          have hn1 := HN1.out
          have hn := HN.out
          have hkm : k ≤ m := by have := congrArg List.length hX; simp at this; omega
          have hky : dj[k]! = y := get_at (A := P ++ X1 ++ Xc ++ [z]) (B := Xb ++ S) (by rw [hdj]; simp) k (by simp; omega)
          have hqz : dj[q]! = z := get_at (A := P ++ X1 ++ Xc) (B := y :: (Xb ++ S)) (by rw [hdj]; simp) q (by simp; omega)
          have hks : k < d0.size := by omega
          have hqi : (q : Int) < (d0.size : Int) := by omega
          have hki : (k : Int) < (d0.size : Int) := by omega
          have hkb : k < 1048576 := by omega
          obtain ⟨w5, hsf, hsw⟩ := swap_facts hW HR.out hsj k q (by omega) (by omega) (by omega) hky hqz
          have hto : (swp dj k q).toList = P ++ (X1 ++ (Xc ++ (y :: (([z] ++ Xb) ++ S)))) := by
            have := arr_swp (d := dj) (A := P ++ X1 ++ Xc) (B := []) (x := z) (y := y) (C := Xb ++ S) (by rw [hdj]; simp) q k (by simp; omega) (by simp; omega)
            rw [this]; simp
          have HJ2 := Lib.hid (show X2 = Xc ++ ([z] ++ Xb) ∧ (swp dj k q).size = d0.size ∧ (swp dj k q).toList = P ++ (X1 ++ (Xc ++ (y :: (([z] ++ Xb) ++ S)))) ∧ q = i + Xc.length ∧ Xc.length + 1 ≤ gk from ⟨by rw [hX]; simp, by rw [size_swp]; exact hsj, hto, by omega, hg2⟩)
          obtain ⟨xa0, xa1, xa2, xa3, xa4, xa5, xa6⟩ := hsf.xd
          obtain ⟨ya0, ya1, ya2, ya3, ya4, ya5, ya6⟩ := hsf.yd
          obtain ⟨xb0, xb1, xb2, xb3, xb4, xb5, xb6⟩ := hsf.x0
          obtain ⟨yb0, yb1, yb2, yb3, yb4, yb5, yb6⟩ := hsf.y0
          obtain ⟨fa0, fa1, fa2, fa3, fa4, fa5, fa6⟩ := hsf.fp
          obtain ⟨fb0, fb1, fb2, fb3, fb4, fb5, fb6⟩ := hsf.fq
          obtain ⟨fc0, fc1, fc2, fc3, fc4, fc5, fc6⟩ := hsf.fpd
          obtain ⟨fd0, fd1, fd2, fd3, fd4, fd5, fd6⟩ := hsf.fqd
          obtain ⟨yc0, yc1, yc2, yc3, yc4, yc5, yc6⟩ := hsf.y5
          obtain ⟨yd0, yd1, yd2, yd3, yd4, yd5, yd6⟩ := hsf.y5d
          obtain ⟨fe0, fe1, fe2, fe3, fe4, fe5, fe6⟩ := hsf.f5
          obtain ⟨ff0, ff1, ff2, ff3, ff4, ff5, ff6⟩ := hsf.f5d
          have hw5 := hsf.e5
          unfold put7w at hw5 hsw
          have HSW := Lib.hid hsw
          clear hX hW hsj hdj hky hqz hks hto hsf hsw hk hg2 HJ hq hn1 hn hkm
          go_wp2_with fail
          go_big_region_o
          all_goals go_wp2
          go_roundg Xc.length
          case measure => have := HJ2.out; omega
          case rel =>
            obtain ⟨q1, q2, q3, q4, q5⟩ := HJ2.out
            exact ⟨q, swp dj k q, Xc, [z] ++ Xb, by go_num, q4, Nat.le_refl _, Lib.hid ⟨q1, HSW.out, q2, q3⟩⟩
        · have hkli : ¬ (i : Int) < (k : Int) := by omega
          have hXa : Xa = [] := List.eq_nil_of_length_eq_zero (by omega)
          subst hXa
          go_wp2
          first | go_end0 | go_ret2
          obtain ⟨q1, q2, q3, q4⟩ := HJ.out
          exact ⟨rfl, dj, X1 ++ ([y] ++ X2), q2, q3, by rw [q4, q1]; simp, HST.out⟩

end Go.Proofs.Ytfpjkeddcagfcaa
