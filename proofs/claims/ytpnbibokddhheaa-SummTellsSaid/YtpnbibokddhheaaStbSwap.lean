/-
  slices.swapRangeCmpFunc at heads: two parts of a row, of one length, change places.
-/
import Derived.Shelf.SlSortCmp.KitK
import Derived.Test.YtpnbibokddhheaaStbIns
import Derived.Test.YtpnbibokddhheaaHdDec
import Derived.Test.YtpnbibokddhheaaQuietTail
namespace Go.Proofs.Ytpnbibokddhheaa
open Go.RowKit Go.Sort Go.Shelf

instance : Inhabited Hd := ⟨⟨0, 0, 0, 0, 0, 0, 0⟩⟩
theorem hdC_len : ∀ x : Hd, x.cells.length = 7 := fun _ => rfl
theorem hdC_one : ∀ x : Hd, ∀ v ∈ x.cells, v.oneCell' = true := fun x v hv => by
  simp only [Hd.cells, List.mem_cons, List.not_mem_nil, or_false] at hv
  rcases hv with rfl | rfl | rfl | rfl | rfl | rfl | rfl <;> rfl

section
variable {w0 W : World} {blk : Nat} {d0 dk : Array Hd}
/-- the seven cells of one element -/
theorem swk_hd7 (h : SWK Hd.cells 7 w0 blk 0 dk W) (R : RowK Hd.cells 7 w0 blk 0 d0) (hs : dk.size = d0.size) (i : Nat) (hi : i < dk.size) (x : Hd) (hx : dk[i]! = x) :
    W.cell? ⟨blk, i * 7, none⟩ = some (.int .i64 x.age) ∧ W.cell? ⟨blk, i * 7 + 1, none⟩ = some (.int .i64 x.kind) ∧ W.cell? ⟨blk, i * 7 + 2, none⟩ = some (.int .i64 x.id) ∧ W.cell? ⟨blk, i * 7 + 3, none⟩ = some (.int .i64 x.adv) ∧ W.cell? ⟨blk, i * 7 + 4, none⟩ = some (.int .i64 x.seq) ∧ W.cell? ⟨blk, i * 7 + 5, none⟩ = some (.int .i64 x.sum) ∧ W.cell? ⟨blk, i * 7 + 6, none⟩ = some (.int .i64 x.long) := by
  have H := h.holds R.hblk R.hH hs
  have z := fun c (hc : c < 7) => (HoldsK.cell H hi hc).1
  rw [hx] at z
  simp only [Nat.zero_add] at z
  exact ⟨z 0 (by omega), z 1 (by omega), z 2 (by omega), z 3 (by omega), z 4 (by omega), z 5 (by omega), z 6 (by omega)⟩
/-- they may be written -/
theorem swk_fz7 (h : SWK Hd.cells 7 w0 blk 0 dk W) (R : RowK Hd.cells 7 w0 blk 0 d0) (hs : dk.size = d0.size) (i : Nat) (hi : i < dk.size) : W.frozen? ⟨blk, i * 7, none⟩ = false ∧ W.frozen? ⟨blk, i * 7 + 1, none⟩ = false ∧ W.frozen? ⟨blk, i * 7 + 2, none⟩ = false ∧ W.frozen? ⟨blk, i * 7 + 3, none⟩ = false ∧ W.frozen? ⟨blk, i * 7 + 4, none⟩ = false ∧ W.frozen? ⟨blk, i * 7 + 5, none⟩ = false ∧ W.frozen? ⟨blk, i * 7 + 6, none⟩ = false := by
  have H := h.holds R.hblk R.hH hs
  have z := fun c (hc : c < 7) => (HoldsK.cell H hi hc).2
  simp only [Nat.zero_add] at z
  exact ⟨z 0 (by omega), z 1 (by omega), z 2 (by omega), z 3 (by omega), z 4 (by omega), z 5 (by omega), z 6 (by omega)⟩
/-- one element is written anew -/
theorem put7 (w : World) (b p : Nat) (y : Hd) : w.setCells b p y.cells = ((((((w.setCell ⟨b, p, none⟩ (.int .i64 y.age)).setCell ⟨b, p + 1, none⟩ (.int .i64 y.kind)).setCell ⟨b, p + 2, none⟩ (.int .i64 y.id)).setCell ⟨b, p + 3, none⟩ (.int .i64 y.adv)).setCell ⟨b, p + 4, none⟩ (.int .i64 y.seq)).setCell ⟨b, p + 5, none⟩ (.int .i64 y.sum)).setCell ⟨b, p + 6, none⟩ (.int .i64 y.long) := rfl
/-- a world in which one element is written anew: what the other ones hold -/
theorem put_far {w w5 : World} {b p q : Nat} {y x : Hd} (h5 : w.setCells b p y.cells = w5) (hpq : p + 7 ≤ q ∨ q + 7 ≤ p) (hx : w.cell? ⟨b, q, none⟩ = some (.int .i64 x.age) ∧ w.cell? ⟨b, q + 1, none⟩ = some (.int .i64 x.kind) ∧ w.cell? ⟨b, q + 2, none⟩ = some (.int .i64 x.id) ∧ w.cell? ⟨b, q + 3, none⟩ = some (.int .i64 x.adv) ∧ w.cell? ⟨b, q + 4, none⟩ = some (.int .i64 x.seq) ∧ w.cell? ⟨b, q + 5, none⟩ = some (.int .i64 x.sum) ∧ w.cell? ⟨b, q + 6, none⟩ = some (.int .i64 x.long)) :
    w5.cell? ⟨b, q, none⟩ = some (.int .i64 x.age) ∧ w5.cell? ⟨b, q + 1, none⟩ = some (.int .i64 x.kind) ∧ w5.cell? ⟨b, q + 2, none⟩ = some (.int .i64 x.id) ∧ w5.cell? ⟨b, q + 3, none⟩ = some (.int .i64 x.adv) ∧ w5.cell? ⟨b, q + 4, none⟩ = some (.int .i64 x.seq) ∧ w5.cell? ⟨b, q + 5, none⟩ = some (.int .i64 x.sum) ∧ w5.cell? ⟨b, q + 6, none⟩ = some (.int .i64 x.long) := by
  subst h5
  have h7 : y.cells.length = 7 := rfl
  refine ⟨?_, ?_, ?_, ?_, ?_, ?_, ?_⟩ <;> rw [World.cell?_setCells_out b _ _ _ _ (fun _ _ => by simp only [h7]; omega)]
  · exact hx.1
  · exact hx.2.1
  · exact hx.2.2.1
  · exact hx.2.2.2.1
  · exact hx.2.2.2.2.1
  · exact hx.2.2.2.2.2.1
  · exact hx.2.2.2.2.2.2
theorem put_fz {w w5 : World} {b p q : Nat} {y : Hd} (h5 : w.setCells b p y.cells = w5) (hx : w.frozen? ⟨b, q, none⟩ = false ∧ w.frozen? ⟨b, q + 1, none⟩ = false ∧ w.frozen? ⟨b, q + 2, none⟩ = false ∧ w.frozen? ⟨b, q + 3, none⟩ = false ∧ w.frozen? ⟨b, q + 4, none⟩ = false ∧ w.frozen? ⟨b, q + 5, none⟩ = false ∧ w.frozen? ⟨b, q + 6, none⟩ = false) :
    w5.frozen? ⟨b, q, none⟩ = false ∧ w5.frozen? ⟨b, q + 1, none⟩ = false ∧ w5.frozen? ⟨b, q + 2, none⟩ = false ∧ w5.frozen? ⟨b, q + 3, none⟩ = false ∧ w5.frozen? ⟨b, q + 4, none⟩ = false ∧ w5.frozen? ⟨b, q + 5, none⟩ = false ∧ w5.frozen? ⟨b, q + 6, none⟩ = false := by
  subst h5
  simp only [World.frozen?_setCells]
  exact hx
end

set_option maxHeartbeats 8000000 in
set_option maxRecDepth 100000 in
theorem swapRange_any {w0 W : World} {blk cap : Nat} {d0 dk : Array Hd} (R : RowK Hd.cells 7 w0 blk 0 d0) (hW : SWK Hd.cells 7 w0 blk 0 dk W) (hs : dk.size = d0.size) (hsz : d0.size < 2 ^ 20)
    (P A M B S : List Hd) (hd : dk.toList = P ++ (A ++ (M ++ (B ++ S)))) (hAB : B.length = A.length) (a b n : Nat) (ha : a = P.length) (hb : b = P.length + A.length + M.length) (hn : n = A.length) (fv : Value) :
    Calls Try.prog 139 #[.slice (some ⟨blk, 0, none⟩) d0.size cap, .int .i64 a, .int .i64 b, .int .i64 n, fv] W fun e w' =>
      e = .returned (.tuple #[]) ∧ ∃ d', SWK Hd.cells 7 w0 blk 0 d' w' ∧ d'.size = d0.size ∧ d'.toList = P ++ (B ++ (M ++ (A ++ S))) := by
  have HR := Lib.hid R
  have HWW := Lib.hid hW
  have HD := Lib.hid hd
  have HS := Lib.hid hs
  have HN := Lib.hid hn
  have HAB := Lib.hid hAB
  have HB := Lib.hid hb
  have HAa := Lib.hid ha
  clear R hW hd hs hn hAB hb ha
  go_enter Try.func139, Try.ntmps139
  go_wp2
  go_loopg [10] n (fun g1 vi wr => ∃ (i : Nat) (dj : Array Hd) (A1 A2 B1 B2 : List Hd), vi = .int .i64 i ∧ i ≤ n ∧ n ≤ g1 + i ∧ A = A1 ++ A2 ∧ B = B1 ++ B2 ∧ A1.length = i ∧ B1.length = i ∧ SWK Hd.cells 7 w0 blk 0 dj wr ∧ dj.size = d0.size ∧ dj.toList = P ++ (B1 ++ (A2 ++ (M ++ (A1 ++ (B2 ++ S))))))
  case atStart => exact ⟨0, dk, [], A, [], B, by go_num, by omega, by omega, rfl, rfl, rfl, rfl, HWW.out, HS.out, HD.out⟩
  case round =>
    obtain ⟨i, dj, A1, A2, B1, B2, rfl, hi, hg1, rfl, rfl, hA1, hB1, hW, hsj, hdj⟩ := hrel
    have hn := HN.out
    have hb := HB.out
    have ha := HAa.out
    have hAB := HAB.out
    have hR := HR.out
    have hsz' : dj.size = P.length + B1.length + A2.length + M.length + A1.length + B2.length + S.length := by rw [← Array.length_toList, hdj]; simp; omega
    by_cases hlt : i < n
    · have hltz : (i : Int) < (n : Int) := by omega
      obtain ⟨x, A3, rfl⟩ : ∃ x A3, A2 = x :: A3 := by
        cases A2 with
        | nil => simp at hn; omega
        | cons x A3 => exact ⟨x, A3, rfl⟩
      obtain ⟨y, B3, rfl⟩ : ∃ y B3, B2 = y :: B3 := by
        cases B2 with
        | nil => simp at hn hAB; omega
        | cons y B3 => exact ⟨y, B3, rfl⟩
      simp only [List.length_append, List.length_cons] at hn hb hAB hsz'
      have hx : dj[a + i]! = x := by
        have := arr_mid (d := dj) (A := P ++ B1) (x := x) (B := A3 ++ (M ++ (A1 ++ (y :: B3 ++ S)))) (by rw [hdj]; simp)
        rw [ha, ← hB1]; simpa using this
      have hy : dj[b + i]! = y := by
        have := arr_mid (d := dj) (A := P ++ (B1 ++ (x :: A3 ++ (M ++ A1)))) (x := y) (B := B3 ++ S) (by rw [hdj]; simp)
        rw [← this]; congr 1; simp; omega
      obtain ⟨x0, x1, x2, x3, x4, x5, x6⟩ := swk_hd7 hW.drew hR hsj (a + i) (by omega) x hx
      obtain ⟨y0, y1, y2, y3, y4, y5, y6⟩ := swk_hd7 hW.drew hR hsj (b + i) (by omega) y hy
      obtain ⟨u0, u1, u2, u3, u4, u5, u6⟩ := swk_fz7 hW.drew hR hsj (a + i) (by omega)
      obtain ⟨v0, v1, v2, v3, v4, v5, v6⟩ := swk_fz7 hW.drew hR hsj (b + i) (by omega)
      obtain ⟨x0', x1', x2', x3', x4', x5', x6'⟩ := swk_hd7 hW hR hsj (a + i) (by omega) x hx
      obtain ⟨y0', y1', y2', y3', y4', y5', y6'⟩ := swk_hd7 hW hR hsj (b + i) (by omega) y hy
      obtain ⟨u0', u1', u2', u3', u4', u5', u6'⟩ := swk_fz7 hW hR hsj (a + i) (by omega)
      obtain ⟨v0', v1', v2', v3', v4', v5', v6'⟩ := swk_fz7 hW hR hsj (b + i) (by omega)
      obtain ⟨w5, hw5⟩ : ∃ w5, wr.setCells blk ((a + i) * 7) y.cells = w5 := ⟨_, rfl⟩
      have hsw := hW.swap hR.hk hR.hblk (a + i) (b + i) (by omega) (by omega)
      rw [hx, hy, Nat.zero_add, Nat.zero_add, hw5, put7] at hsw
      have hsw := SWK.drew hsw
      have X5 := put_far hw5 (by omega) (swk_hd7 hW hR hsj (b + i) (by omega) y hy)
      have F5 := put_fz hw5 (swk_fz7 hW hR hsj (b + i) (by omega))
      have hw5 := (put7 wr blk ((a + i) * 7) y).symm.trans hw5
      obtain ⟨c0, c1, c2, c3, c4, c5, c6⟩ := X5
      obtain ⟨f0, f1, f2, f3, f4, f5, f6⟩ := F5
      obtain ⟨c0', c1', c2', c3', c4', c5', c6'⟩ := (show w5.drew.cell? ⟨blk, (b + i) * 7, none⟩ = some (.int .i64 y.age) ∧ w5.drew.cell? ⟨blk, (b + i) * 7 + 1, none⟩ = some (.int .i64 y.kind) ∧ w5.drew.cell? ⟨blk, (b + i) * 7 + 2, none⟩ = some (.int .i64 y.id) ∧ w5.drew.cell? ⟨blk, (b + i) * 7 + 3, none⟩ = some (.int .i64 y.adv) ∧ w5.drew.cell? ⟨blk, (b + i) * 7 + 4, none⟩ = some (.int .i64 y.seq) ∧ w5.drew.cell? ⟨blk, (b + i) * 7 + 5, none⟩ = some (.int .i64 y.sum) ∧ w5.drew.cell? ⟨blk, (b + i) * 7 + 6, none⟩ = some (.int .i64 y.long) from ⟨c0, c1, c2, c3, c4, c5, c6⟩)
      obtain ⟨f0', f1', f2', f3', f4', f5', f6'⟩ := (show w5.drew.frozen? ⟨blk, (b + i) * 7, none⟩ = false ∧ w5.drew.frozen? ⟨blk, (b + i) * 7 + 1, none⟩ = false ∧ w5.drew.frozen? ⟨blk, (b + i) * 7 + 2, none⟩ = false ∧ w5.drew.frozen? ⟨blk, (b + i) * 7 + 3, none⟩ = false ∧ w5.drew.frozen? ⟨blk, (b + i) * 7 + 4, none⟩ = false ∧ w5.drew.frozen? ⟨blk, (b + i) * 7 + 5, none⟩ = false ∧ w5.drew.frozen? ⟨blk, (b + i) * 7 + 6, none⟩ = false from ⟨f0, f1, f2, f3, f4, f5, f6⟩)
      have hto : (swp dj (a + i) (b + i)).toList = P ++ ((B1 ++ [y]) ++ (A3 ++ (M ++ ((A1 ++ [x]) ++ (B3 ++ S))))) := by
        have := arr_swp' (d := dj) (A := P ++ B1) (B := A3 ++ (M ++ A1)) (x := x) (y := y) (C := B3 ++ S) (by rw [hdj]; simp) (a + i) (b + i) (by simp; omega) (by simp; omega)
        rw [this]; simp
      have HC := Lib.hid (show A1.length = i ∧ B1.length = i ∧ dj.size = d0.size from ⟨hA1, hB1, hsj⟩)
      have HTO := Lib.hid hto
      have HLT := Lib.hid hlt
      have hib : i < 1048576 := by omega
      have HSW := Lib.hid hsw
      have w1 : IntKind.i64.wrap ((a : Int) + (i : Int)) = ((a + i : Nat) : Int) := by rw [IntKind.wrap_i64]; omega
      have w2 : IntKind.i64.wrap ((b : Int) + (i : Int)) = ((b + i : Nat) : Int) := by rw [IntKind.wrap_i64]; omega
      have b1 : ((a + i : Nat) : Int) < (d0.size : Int) := by omega
      have b2 : ((b + i : Nat) : Int) < (d0.size : Int) := by omega
      clear hto hsw hn hb ha hAB hR hsz' hdj hx hy hW hA1 hB1 hsj
      generalize a + i = p at *
      generalize b + i = q at *
      have mixed : Try.prog.follows .mixedOrders = true := by kernel_rfl
      go_wp2_with fail
      go_big_region_o
      all_goals go_wp2
      go_roundg (n - (i + 1))
      case measure => omega
      case rel =>
        obtain ⟨q1, q2, q3⟩ := HC.out
        have hlt := HLT.out
        exact ⟨i + 1, swp dj p q, A1 ++ [x], A3, B1 ++ [y], B3, by go_num, by omega, by omega, by simp, by simp, by simp [q1], by simp [q2], HSW.out, by rw [size_swp]; exact q3, HTO.out⟩
    · have hltz : ¬ (i : Int) < (n : Int) := by omega
      obtain rfl : A2 = [] := List.length_eq_zero_iff.1 (by simp at hn; omega)
      obtain rfl : B2 = [] := List.length_eq_zero_iff.1 (by simp at hn hAB; omega)
      have HF := Lib.hid (show dj.toList = _ from hdj)
      clear hn hb ha hAB hR hsz' hdj
      go_wp2
      go_end0
      exact ⟨rfl, dj, hW, hsj, by rw [HF.out]; simp⟩
end Go.Proofs.Ytpnbibokddhheaa
