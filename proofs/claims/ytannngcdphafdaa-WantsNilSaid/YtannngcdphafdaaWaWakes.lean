/-
  Layer 15: the example that each law asks first.
-/
import Derived.Test.YtannngcdphafdaaRwTake
namespace Go.Proofs.Ytannngcdphafdaa
open Go.RowKit Go.Sort

def hd0 (i : Int) : Hd := ⟨0, 0, i, 0, 0, 0, 0⟩
def four15 : List Hd := [hd0 4, hd0 3, hd0 2, hd0 1]
theorem rows_of_blk {w : World} {g B : Nat} {t : TypeId} {L : List Hd} (h : Blk w g t (L.flatMap Hd.cells).toArray) (hB : g < B) : RowsAt 7 Hd.cells w B (some ⟨g, 0, none⟩) L := by
  intro _
  refine ⟨g, 0, rfl, hB, fun k hk i u hi hu => ?_⟩
  rw [show 0 + k * 7 + i = k * 7 + i by omega, h.cell, List.getElem?_toArray, flatR Hd.cells 7 (fun _ => rfl) L k i hk hi]
  exact hu
theorem four_cells : (four15.flatMap Hd.cells).toArray = #[.int .i64 0, .int .i64 0, .int .i64 4, .int .i64 0, .int .i64 0, .int .i64 0, .int .i64 0, .int .i64 0, .int .i64 0, .int .i64 3, .int .i64 0, .int .i64 0, .int .i64 0, .int .i64 0, .int .i64 0, .int .i64 0, .int .i64 2, .int .i64 0, .int .i64 0, .int .i64 0, .int .i64 0, .int .i64 0, .int .i64 0, .int .i64 1, .int .i64 0, .int .i64 0, .int .i64 0, .int .i64 0] := rfl
theorem four_eq : WEq (addAllM [] four15) (addAllD [] four15) := addAll_eq WEq.nil _
theorem four_len : (addAllM [] four15).length = 4 := by decide
theorem four_ask : askL (addAllD [] four15) = [⟨0, 1, 0⟩, ⟨0, 2, 0⟩, ⟨0, 3, 0⟩] := by decide
theorem four_age : ∀ x ∈ four15, ageOk x := by
  intro x hx
  simp [four15] at hx
  rcases hx with rfl | rfl | rfl | rfl <;> exact ⟨by decide, by decide⟩

set_option maxHeartbeats 4000000 in
set_option maxRecDepth 100000 in
theorem wakes15 (w : World) : Calls Try.prog 32 #[] w fun r w' => r = .returned (.bool true) ∧ Below w.heap.size w w' := by
  go_enter Try.func32, Try.ntmps32
  go_wp2_with fail
  with_reducible refine Calls.mono (New15 w) ?_
  rintro r w2 ⟨rfl, hw2, hb2⟩
  obtain ⟨p, hp⟩ : ∃ p, w.heap.size + 1 = p := ⟨_, rfl⟩
  obtain ⟨b, hb⟩ : ∃ b, w.heap.size = b := ⟨_, rfl⟩
  rw [hp] at hw2 ⊢
  rw [hb] at hw2
  have HA := (WaAdd_of p b [] (some ⟨w2.heap.size, 0, none⟩) 4 four15 (w2.alloc (.cells (four15.flatMap Hd.cells).toArray 58)) (hw2.alloc _) (w2.heap.size + 1) (fun W hg => rows_of_blk ((Blk.new w2 58 (four15.flatMap Hd.cells).toArray).grown hg (fun e => by injection e with e; have := hw2.map.lt; omega)) (by omega)) (by simp) four_age (by decide) 4 rfl)
  rw [four_len, four_cells] at HA
  have HA := Lib.hid HA
  have Hb2 := Lib.hid hb2
  have hlt := hw2.map.lt
  have hsz := hb2.size
  clear hw2 hb2
  go_wp2_with fail
  with_reducible refine Calls.mono HA.out ?_
  rintro r w3 ⟨rfl, hw3, hg3⟩
  have HK := Lib.hid (WaAsk_of p b _ _ w3 hw3 four_eq (by rw [four_len]; decide))
  rw [four_ask] at HK
  have Hb3 := Lib.hid ((Hb2.out.alloc Hb2.out.size _).grown hg3 (by simp; omega) (fun k hk => by injection hk with hk; omega))
  clear hw3 hg3
  go_wp2_with fail
  with_reducible refine Calls.mono HK.out ?_
  rintro r w4 ⟨v, rfl, hown, hb4⟩
  have Hb4 := Lib.hid (Hb3.out.trans (hb4.mono Hb3.out.size))
  obtain ⟨A, c, rfl⟩ := hown.shape
  obtain ⟨b1, o1, rfl, x0, x1, x2⟩ := row_k3 (OwnR.rows (C := 3) (cells := K3.cells) (fun _ => rfl) hown).2 0 (by decide)
  simp only [List.getElem_cons_zero, Nat.zero_mul, Nat.add_zero] at x0 x1 x2
  clear hown hb4
  go_wp2
  go_ret
  exact ⟨rfl, Hb4.out⟩

end Go.Proofs.Ytannngcdphafdaa
