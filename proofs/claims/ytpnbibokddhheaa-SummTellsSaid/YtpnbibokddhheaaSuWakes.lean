/-
  Layer 13: the example that each law asks first.
-/
import Derived.Test.YtpnbibokddhheaaSuPiece
import Derived.Test.YtpnbibokddhheaaSuGone
namespace Go.Proofs.Ytpnbibokddhheaa
open Go.RowKit Go.Sort

def xa13 : Lsa := ⟨⟨0, 1, 1, 1, 0, 0, 0⟩, none, 0, [], none, 0, []⟩
def xb13 : Lsa := ⟨⟨60, 1, 2, 2, 0, 0, 0⟩, none, 0, [], none, 0, []⟩
theorem rows_of_blkX {w : World} {g B : Nat} {t : TypeId} {L : List Lsa} (h : Blk w g t (L.flatMap Lsa.cells).toArray) (hB : g < B) : RowsAt 9 Lsa.cells w B (some ⟨g, 0, none⟩) L := by
  intro _
  refine ⟨g, 0, rfl, hB, fun k hk i u hi hu => ?_⟩
  rw [show 0 + k * 9 + i = k * 9 + i by omega, h.cell, List.getElem?_toArray, flatR Lsa.cells 9 (fun _ => rfl) L k i hk hi]
  exact hu
theorem row_hd13 {w : World} {B : Nat} {A : Option Addr} {x : Hd} (h : RowsAt 7 Hd.cells w B A [x]) : ∃ b o, A = some ⟨b, o, none⟩ ∧ b < B ∧ w.cell? ⟨b, o, none⟩ = some (.int .i64 x.age) ∧ w.cell? ⟨b, o + 1, none⟩ = some (.int .i64 x.kind) ∧ w.cell? ⟨b, o + 2, none⟩ = some (.int .i64 x.id) ∧ w.cell? ⟨b, o + 3, none⟩ = some (.int .i64 x.adv) ∧ w.cell? ⟨b, o + 4, none⟩ = some (.int .i64 x.seq) ∧ w.cell? ⟨b, o + 5, none⟩ = some (.int .i64 x.sum) ∧ w.cell? ⟨b, o + 6, none⟩ = some (.int .i64 x.long) := by
  obtain ⟨b, o, e, hb, hc⟩ := h (by simp)
  have h0 := fun i u hi hu => hc 0 (by simp) i u hi hu
  simp only [List.getElem_cons_zero, Nat.zero_mul, Nat.add_zero] at h0
  exact ⟨b, o, e, hb, h0 0 _ (by omega) rfl, h0 1 _ (by omega) rfl, h0 2 _ (by omega) rfl, h0 3 _ (by omega) rfl, h0 4 _ (by omega) rfl, h0 5 _ (by omega) rfl, h0 6 _ (by omega) rfl⟩
theorem ba_cells : ([xb13, xa13].flatMap Lsa.cells).toArray = #[.int .i64 60, .int .i64 1, .int .i64 2, .int .i64 2, .int .i64 0, .int .i64 0, .int .i64 0, .slice none 0 0, .slice none 0 0, .int .i64 0, .int .i64 1, .int .i64 1, .int .i64 1, .int .i64 0, .int .i64 0, .int .i64 0, .slice none 0 0, .slice none 0 0] := rfl
theorem ab_cells : ([xa13, xb13].flatMap Lsa.cells).toArray = #[.int .i64 0, .int .i64 1, .int .i64 1, .int .i64 1, .int .i64 0, .int .i64 0, .int .i64 0, .slice none 0 0, .slice none 0 0, .int .i64 60, .int .i64 1, .int .i64 2, .int .i64 2, .int .i64 0, .int .i64 0, .int .i64 0, .slice none 0 0, .slice none 0 0] := rfl
theorem ba_heads : headsOf [xb13, xa13] = [⟨0, 1, 1, 1, 0, 0, 0⟩] := by decide
theorem ab_gone : goneOf [xa13, xb13] = [⟨1, 2, 2⟩] := by decide
theorem new13 (W : World) : Calls Try.prog 10 #[.slice (some ⟨W.heap.size, 0, none⟩) 2 2] (W.alloc (.cells #[.int .i64 60, .int .i64 1, .int .i64 2, .int .i64 2, .int .i64 0, .int .i64 0, .int .i64 0, .slice none 0 0, .slice none 0 0, .int .i64 0, .int .i64 1, .int .i64 1, .int .i64 1, .int .i64 0, .int .i64 0, .int .i64 0, .slice none 0 0, .slice none 0 0] 38)) fun r w' => r = .returned (.pointer (some ⟨W.heap.size + 1, 0, none⟩)) ∧ (∃ v, SmAt w' (W.heap.size + 1) v 0 [⟨0, 1, 1, 1, 0, 0, 0⟩]) ∧ Below (W.heap.size + 1) (W.alloc (.cells #[.int .i64 60, .int .i64 1, .int .i64 2, .int .i64 2, .int .i64 0, .int .i64 0, .int .i64 0, .slice none 0 0, .slice none 0 0, .int .i64 0, .int .i64 1, .int .i64 1, .int .i64 1, .int .i64 0, .int .i64 0, .int .i64 0, .slice none 0 0, .slice none 0 0] 38)) w' := by
  have hk := Blk.new W 38 #[.int .i64 60, .int .i64 1, .int .i64 2, .int .i64 2, .int .i64 0, .int .i64 0, .int .i64 0, .slice none 0 0, .slice none 0 0, .int .i64 0, .int .i64 1, .int .i64 1, .int .i64 1, .int .i64 0, .int .i64 0, .int .i64 0, .slice none 0 0, .slice none 0 0]
  rw [← ba_cells] at hk ⊢
  have hsz : (W.alloc (.cells ([xb13, xa13].flatMap Lsa.cells).toArray 38)).heap.size = W.heap.size + 1 := by simp
  have h := SuNew_any (some ⟨W.heap.size, 0, none⟩) 2 [xb13, xa13] _ _ (rows_of_blkX hk (B := W.heap.size + 1) (by omega)) (by omega) (by decide) 2 rfl [⟨0, 1, 1, 1, 0, 0, 0⟩] (fun W' v hown => by
    rw [ba_heads] at hown
    obtain ⟨A7, c7, hv⟩ := hown.shape
    subst hv
    refine (sortStable1 A7 c7 _ W').mono ?_
    rintro r w' ⟨rfl, rfl⟩
    exact ⟨rfl, hown, World.grownBy.refl _ _⟩)
  rw [hsz] at h
  exact h
theorem gone13 (W : World) : Calls Try.prog 43 #[.slice (some ⟨W.heap.size, 0, none⟩) 2 2] (W.alloc (.cells #[.int .i64 0, .int .i64 1, .int .i64 1, .int .i64 1, .int .i64 0, .int .i64 0, .int .i64 0, .slice none 0 0, .slice none 0 0, .int .i64 60, .int .i64 1, .int .i64 2, .int .i64 2, .int .i64 0, .int .i64 0, .int .i64 0, .slice none 0 0, .slice none 0 0] 38)) fun r w' => (∃ A c, r = .returned (.slice A 1 c)) ∧ Below (W.heap.size + 1) (W.alloc (.cells #[.int .i64 0, .int .i64 1, .int .i64 1, .int .i64 1, .int .i64 0, .int .i64 0, .int .i64 0, .slice none 0 0, .slice none 0 0, .int .i64 60, .int .i64 1, .int .i64 2, .int .i64 2, .int .i64 0, .int .i64 0, .int .i64 0, .slice none 0 0, .slice none 0 0] 38)) w' := by
  have hk := Blk.new W 38 #[.int .i64 0, .int .i64 1, .int .i64 1, .int .i64 1, .int .i64 0, .int .i64 0, .int .i64 0, .slice none 0 0, .slice none 0 0, .int .i64 60, .int .i64 1, .int .i64 2, .int .i64 2, .int .i64 0, .int .i64 0, .int .i64 0, .slice none 0 0, .slice none 0 0]
  rw [← ab_cells] at hk ⊢
  have hsz : (W.alloc (.cells ([xa13, xb13].flatMap Lsa.cells).toArray 38)).heap.size = W.heap.size + 1 := by simp
  have h := SuGone_one (some ⟨W.heap.size, 0, none⟩) 2 [xa13, xb13] _ _ (rows_of_blkX hk (B := W.heap.size + 1) (by omega)) (by omega) (by decide) 2 rfl (by rw [ab_gone]; decide)
  rw [hsz] at h
  refine h.mono ?_
  rintro r w' ⟨⟨v, rfl, hown⟩, hb⟩
  rw [ab_gone] at hown
  obtain ⟨A7, c7, hv⟩ := hown.shape
  exact ⟨⟨A7, c7, by rw [hv]; rfl⟩, hb⟩
theorem eqHead13 (w : World) : (Op.equalIn 10000 34 (.agg #[.int .i64 0, .int .i64 1, .int .i64 1, .int .i64 1, .int .i64 0, .int .i64 0, .int .i64 0]) (.agg #[.int .i64 0, .int .i64 1, .int .i64 1, .int .i64 1, .int .i64 0, .int .i64 0, .int .i64 0])).run Try.prog w = .ok true w := by kernel_rfl
set_option maxHeartbeats 4000000 in
set_option maxRecDepth 100000 in
theorem wakes13 (w : World) : Calls Try.prog 8 #[] w fun r w' => r = .returned (.bool true) ∧ Below w.heap.size w w' := by
  go_enter Try.func8, Try.ntmps8
  go_upto_region 2 with fail
  obtain ⟨w2, hw2⟩ : ∃ w2, (w.alloc (.cells #[.int .i64 0, .int .i64 1, .int .i64 1, .int .i64 1, .int .i64 0, .int .i64 0, .int .i64 0, .slice none 0 0, .slice none 0 0] 38)).alloc (.cells #[.int .i64 60, .int .i64 1, .int .i64 2, .int .i64 2, .int .i64 0, .int .i64 0, .int .i64 0, .slice none 0 0, .slice none 0 0] 38) = w2 := ⟨_, rfl⟩
  have ha : Blk w2 w.heap.size 38 #[.int .i64 0, .int .i64 1, .int .i64 1, .int .i64 1, .int .i64 0, .int .i64 0, .int .i64 0, .slice none 0 0, .slice none 0 0] := by rw [← hw2]; exact (Blk.new _ _ _).alloc _
  have hb : Blk w2 (w.heap.size + 1) 38 #[.int .i64 60, .int .i64 1, .int .i64 2, .int .i64 2, .int .i64 0, .int .i64 0, .int .i64 0, .slice none 0 0, .slice none 0 0] := by rw [← hw2]; exact Blk.size (by simp)
  have hb2 : Below w.heap.size w w2 := by rw [← hw2]; exact ((Below.refl _ _).alloc (Nat.le_refl _) _).alloc (by simp) _
  rw [hw2]
  have Ha := Lib.hid ha
  have Hb := Lib.hid hb
  have Hb2 := Lib.hid hb2
  obtain ⟨z0, z1, z2, z3, z4, z5, z6, z7, z8, zf⟩ := blk9 ha
  obtain ⟨y0, y1, y2, y3, y4, y5, y6, y7, y8, yf⟩ := blk9 hb
  clear ha hb hb2 hw2
  go_wp2_with fail
  with_reducible refine Calls.mono (new13 _) ?_
  rintro r w3 ⟨rfl, ⟨v, hsm⟩, hb3⟩
  have hb3' : Below w2.heap.size w2 w3 := (below_new w2 _).trans (hb3.mono (by omega))
  have HP := Lib.hid (SuPiece_one _ v _ w3 hsm)
  have Ha3 := Lib.hid (Ha.out.below hb3' Ha.out.lt)
  have Hb33 := Lib.hid (Hb.out.below hb3' Hb.out.lt)
  have Hw3 := Lib.hid (below_trans Hb2.out Hb2.out.size hb3')
  clear hsm hb3 hb3' z0 z1 z2 z3 z4 z5 z6 z7 z8 zf y0 y1 y2 y3 y4 y5 y6 y7 y8 yf
  go_wp2_with fail
  with_reducible refine Calls.mono HP.out ?_
  rintro r w4 ⟨⟨u, rfl, hu⟩, hb4⟩
  obtain ⟨g, cap, hc, hv⟩ : ∃ g c, 1 ≤ c ∧ u = .slice (some ⟨g, 0, none⟩) 1 c := by
    rcases hu.shape2 with ⟨-, hl⟩ | ⟨g, c5, rfl, hc5⟩
    · cases hl
    · exact ⟨g, c5, hc5, rfl⟩
  subst hv
  obtain ⟨g', o', e, -, x0, x1, x2, x3, x4, x5, x6⟩ := row_hd13 (OwnR.rows (C := 7) (cells := Hd.cells) (fun _ => rfl) hu).2
  injection e with e
  injection e with e1 e2
  subst e1 e2
  obtain ⟨z0, z1, z2, z3, z4, z5, z6, z7, z8, zf⟩ := blk9 (Ha3.out.below hb4 Ha3.out.lt)
  obtain ⟨y0, y1, y2, y3, y4, y5, y6, y7, y8, yf⟩ := blk9 (Hb33.out.below hb4 Hb33.out.lt)
  have Hw4 := Lib.hid (below_trans Hw3.out Hw3.out.size hb4)
  have he := eqHead13
  clear hu hb4 hc
  go_wp2_with fail
  refine wp_drew_tail 14 (by kernel_rfl) (by kernel_rfl) ?_
  simp only [List.take_succ_cons, List.take_zero, List.drop_succ_cons, List.drop_zero]
  repeat (go_big_quiet_step (fail))
  refine wpQuiet_nil ?_
  rintro w5 ⟨dq, rfl⟩
  have Hw5 := Lib.hid (below_drewN Hw4.out dq)
  go_wp2_with fail
  with_reducible refine Calls.mono (gone13 _) ?_
  rintro r w6 ⟨⟨A6, c6, rfl⟩, hb6⟩
  have Hw6 := Lib.hid (below_trans Hw5.out Hw5.out.size ((below_new _ _).trans (hb6.mono (by omega))))
  clear hb6
  go_wp2
  go_ret
  exact ⟨rfl, Hw6.out⟩

end Go.Proofs.Ytpnbibokddhheaa
