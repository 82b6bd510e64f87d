/-
  Layer 20: the example that each law asks first.
-/
import Derived.Test.YtpfjgecdlilkcaaGrSame
namespace Go.Proofs.Ytpfjgecdlilkcaa
open Go.RowKit Go.Sort

theorem rows_of_blkG {α : Type} {C : Nat} {cells : α → List Value} (hC : ∀ x, (cells x).length = C) {w : World} {g B : Nat} {t : TypeId} {L : List α} (h : Blk w g t (L.flatMap cells).toArray) (hB : g < B) : RowsAt C cells w B (some ⟨g, 0, none⟩) L := by
  intro _
  refine ⟨g, 0, rfl, hB, fun k hk i u hi hu => ?_⟩
  rw [show 0 + k * C + i = k * C + i by omega, h.cell, List.getElem?_toArray, flatR cells C hC L k i hk hi]
  exact hu
def xr20 (a : Addr) : Lsa := ⟨⟨0, 1, 1, 1, 0, 0, 0⟩, some a, 1, [⟨2, 18, 17, 5⟩], none, 0, []⟩
def xn20 (a : Addr) : Lsa := ⟨⟨0, 2, 18, 2, 0, 0, 0⟩, none, 0, [], some a, 2, [1, 2]⟩
def xm20 (a : Addr) : Lsa := ⟨⟨0, 2, 18, 2, 0, 0, 0⟩, none, 0, [], some a, 2, [2, 3]⟩
theorem edges_rn (a b : Addr) : edgesV ([xr20 a, xn20 b].map vX) = [⟨1, 1, 2, 18, 5⟩, ⟨2, 18, 1, 1, 0⟩] := by
  show edgesV [((⟨0, 1, 1, 1, 0, 0, 0⟩ : Hd), [(⟨2, 18, 17, 5⟩ : Lnk)], ([] : List Int)), (⟨0, 2, 18, 2, 0, 0, 0⟩, [], [1, 2])] = _
  kernel_rfl
theorem edges_rm (a b : Addr) : edgesV ([xr20 a, xm20 b].map vX) = [] := by
  show edgesV [((⟨0, 1, 1, 1, 0, 0, 0⟩ : Hd), [(⟨2, 18, 17, 5⟩ : Lnk)], ([] : List Int)), (⟨0, 2, 18, 2, 0, 0, 0⟩, [], [2, 3])] = _
  kernel_rfl
/-- all edges of a row of two that was just laid out -/
theorem edges_lit (W : World) (x y : Lsa) (cs : Array Value) (hcs : cs = ([x, y].flatMap Lsa.cells).toArray) (hx : rowsX W x) (hy : rowsX W y) (lx : x.links.length ≤ 1000 ∧ x.members.length ≤ 1000) (ly : y.links.length ≤ 1000 ∧ y.members.length ≤ 1000) :
    Calls Try.prog 15 #[.slice (some ⟨W.heap.size, 0, none⟩) 2 2] (W.alloc (.cells cs 30)) fun r w' => (∃ v, r = .returned v ∧ OwnR 42 5 Ed.cells w' W.heap.size v (edgesV ([x, y].map vX))) ∧ Below W.heap.size W w' := by
  subst hcs
  have hb := below_new W (.cells ([x, y].flatMap Lsa.cells).toArray 30)
  have hk := Blk.new W 30 ([x, y].flatMap Lsa.cells).toArray
  have hsz : (W.alloc (.cells ([x, y].flatMap Lsa.cells).toArray 30)).heap.size = W.heap.size + 1 := by simp
  refine (Edges_any (some ⟨W.heap.size, 0, none⟩) 2 [x, y] _ (rows_of_blkG (C := 9) (cells := Lsa.cells) (fun _ => rfl) hk (by rw [hsz]; omega)) (fun z hz => ?_) (fun z hz => ?_) (by simp) 2 rfl).mono ?_
  · simp only [List.mem_cons, List.not_mem_nil, or_false] at hz
    rcases hz with rfl | rfl
    · exact hx.keep hb
    · exact hy.keep hb
  · simp only [List.mem_cons, List.not_mem_nil, or_false] at hz
    rcases hz with rfl | rfl
    · exact lx
    · exact ly
  · rintro r w' ⟨⟨v, rfl, hv⟩, hb2⟩
    exact ⟨⟨v, rfl, hv.lower hb.size⟩, below_trans hb hb.size hb2⟩

set_option maxHeartbeats 4000000 in
set_option maxRecDepth 100000 in
theorem wakes20 (w : World) : Calls Try.prog 12 #[] w fun r w' => r = .returned (.bool true) ∧ Below w.heap.size w w' := by
  go_enter Try.func12, Try.ntmps12
  go_upto_region 5 with fail
  obtain ⟨w2, hw2⟩ : ∃ w2, (((((w.alloc (.cells #[.int .i64 2, .int .i64 18, .int .i64 17, .int .i64 5] 73)).alloc (.cells #[.int .i64 0, .int .i64 1, .int .i64 1, .int .i64 1, .int .i64 0, .int .i64 0, .int .i64 0, .slice (some ⟨w.heap.size, 0, none⟩) 1 1, .slice none 0 0] 30)).alloc (.cells #[.int .i64 1, .int .i64 2] 3)).alloc (.cells #[.int .i64 0, .int .i64 2, .int .i64 18, .int .i64 2, .int .i64 0, .int .i64 0, .int .i64 0, .slice none 0 0, .slice (some ⟨w.heap.size + 1 + 1, 0, none⟩) 2 2] 30)).alloc (.cells #[.int .i64 0, .int .i64 2, .int .i64 18, .int .i64 2, .int .i64 0, .int .i64 0, .int .i64 0, .slice none 0 0, .slice (some ⟨w.heap.size + 1 + 1 + 1 + 1 + 1, 0, none⟩) 2 2] 30)).alloc (.cells #[.int .i64 2, .int .i64 3] 3) = w2 := ⟨_, rfl⟩
  rw [hw2]
  obtain ⟨s, hs⟩ : ∃ s, w.heap.size = s := ⟨_, rfl⟩
  rw [hs] at hw2 ⊢
  have hL : Blk w2 s 73 #[.int .i64 2, .int .i64 18, .int .i64 17, .int .i64 5] := by rw [← hw2, ← hs]; exact (((((Blk.new _ _ _).alloc _).alloc _).alloc _).alloc _).alloc _
  have hr : Blk w2 (s + 1) 30 #[.int .i64 0, .int .i64 1, .int .i64 1, .int .i64 1, .int .i64 0, .int .i64 0, .int .i64 0, .slice (some ⟨s, 0, none⟩) 1 1, .slice none 0 0] := by rw [← hw2]; exact ((((Blk.size (by simp [hs])).alloc _).alloc _).alloc _).alloc _
  have hI : Blk w2 (s + 1 + 1) 3 #[.int .i64 1, .int .i64 2] := by rw [← hw2]; exact (((Blk.size (by simp [hs])).alloc _).alloc _).alloc _
  have hn : Blk w2 (s + 1 + 1 + 1) 30 #[.int .i64 0, .int .i64 2, .int .i64 18, .int .i64 2, .int .i64 0, .int .i64 0, .int .i64 0, .slice none 0 0, .slice (some ⟨s + 1 + 1, 0, none⟩) 2 2] := by rw [← hw2]; exact ((Blk.size (by simp [hs])).alloc _).alloc _
  have hm : Blk w2 (s + 1 + 1 + 1 + 1) 30 #[.int .i64 0, .int .i64 2, .int .i64 18, .int .i64 2, .int .i64 0, .int .i64 0, .int .i64 0, .slice none 0 0, .slice (some ⟨s + 1 + 1 + 1 + 1 + 1, 0, none⟩) 2 2] := by rw [← hw2]; exact (Blk.size (by simp [hs])).alloc _
  have hJ : Blk w2 (s + 1 + 1 + 1 + 1 + 1) 3 #[.int .i64 2, .int .i64 3] := by rw [← hw2]; exact Blk.size (by simp [hs])
  have hb2 : Below w.heap.size w w2 := by rw [← hw2]; exact ((((((Below.refl _ _).alloc (Nat.le_refl _) _).alloc (by simp) _).alloc (by simp; omega) _).alloc (by simp; omega) _).alloc (by simp; omega) _).alloc (by simp; omega) _
  have hxr : rowsX w2 (xr20 ⟨s, 0, none⟩) := ⟨rows_of_blkG (C := 4) (cells := Lnk.cells) (L := [⟨2, 18, 17, 5⟩]) (fun _ => rfl) hL hL.lt, RowsAt.nil⟩
  have hxn : rowsX w2 (xn20 ⟨s + 1 + 1, 0, none⟩) := ⟨RowsAt.nil, rows_of_blkG (C := 1) (cells := icell) (L := [1, 2]) (fun _ => rfl) hI hI.lt⟩
  have hxm : rowsX w2 (xm20 ⟨s + 1 + 1 + 1 + 1 + 1, 0, none⟩) := ⟨RowsAt.nil, rows_of_blkG (C := 1) (cells := icell) (L := [2, 3]) (fun _ => rfl) hJ hJ.lt⟩
  have HE := Lib.hid (edges_lit w2 _ _ #[.int .i64 0, .int .i64 1, .int .i64 1, .int .i64 1, .int .i64 0, .int .i64 0, .int .i64 0, .slice (some ⟨s, 0, none⟩) 1 1, .slice none 0 0, .int .i64 0, .int .i64 2, .int .i64 18, .int .i64 2, .int .i64 0, .int .i64 0, .int .i64 0, .slice none 0 0, .slice (some ⟨s + 1 + 1, 0, none⟩) 2 2] rfl hxr hxn (by simp [xr20]) (by simp [xn20]))
  have HE2 := Lib.hid (fun W (hW : Below w2.heap.size w2 W) => edges_lit W _ _ #[.int .i64 0, .int .i64 1, .int .i64 1, .int .i64 1, .int .i64 0, .int .i64 0, .int .i64 0, .slice (some ⟨s, 0, none⟩) 1 1, .slice none 0 0, .int .i64 0, .int .i64 2, .int .i64 18, .int .i64 2, .int .i64 0, .int .i64 0, .int .i64 0, .slice none 0 0, .slice (some ⟨s + 1 + 1 + 1 + 1 + 1, 0, none⟩) 2 2] rfl (hxr.keep hW) (hxm.keep hW) (by simp [xr20]) (by simp [xm20]))
  have Hr := Lib.hid hr
  have Hm := Lib.hid hm
  have Hb2 := Lib.hid hb2
  have Hs := Lib.hid hs
  obtain ⟨r0, r1, r2, r3, r4, r5, r6, r7, r8, -⟩ := blk9 hr
  obtain ⟨n0, n1, n2, n3, n4, n5, n6, n7, n8, -⟩ := blk9 hn
  clear hL hr hI hn hm hJ hb2 hxr hxn hxm hw2
  go_wp2_with fail
  with_reducible refine Calls.mono HE.out ?_
  rintro r w3 ⟨⟨v, rfl, hown⟩, hb3⟩
  rw [edges_rn] at hown
  obtain ⟨A7, c7, hv7⟩ := hown.shape
  subst hv7
  obtain ⟨g, o, hA, -, x0, x1, x2, x3, x4⟩ := row_ed (OwnR.rows (C := 5) (cells := Ed.cells) (fun _ => rfl) hown).2 0 (by decide)
  obtain ⟨g', o', hA', -, y0, y1, y2, y3, y4⟩ := row_ed (OwnR.rows (C := 5) (cells := Ed.cells) (fun _ => rfl) hown).2 1 (by decide)
  have e := hA.symm.trans hA'
  injection e with e
  injection e with e1 e2
  subst e1 e2
  subst hA
  simp only [List.getElem_cons_zero, List.getElem_cons_succ, Nat.zero_mul, Nat.one_mul, Nat.add_zero] at x0 x1 x2 x3 x4 y0 y1 y2 y3 y4
  have HE3 := Lib.hid (HE2.out w3 hb3)
  have Hb3 := Lib.hid (below_trans Hb2.out Hb2.out.size hb3)
  obtain ⟨r0, r1, r2, r3, r4, r5, r6, r7, r8, -⟩ := blk9 (Hr.out.below hb3 Hr.out.lt)
  obtain ⟨n0, n1, n2, n3, n4, n5, n6, n7, n8, -⟩ := blk9 (Hm.out.below hb3 Hm.out.lt)
  clear hown hb3
  go_wp2_with (go_at_call 15; (with_reducible refine Calls.mono HE3.out ?_); rintro r w4 ⟨⟨v4, rfl, hown4⟩, hb4⟩; rw [edges_rm] at hown4; obtain ⟨A8, c8, hv8⟩ := hown4.shape; subst hv8; have Hb4 := Lib.hid (below_trans Hb3.out Hb3.out.size hb4); clear hown4 hb4; simp only [List.length_nil])
  go_ret
  exact ⟨rfl, Hb4.out⟩

end Go.Proofs.Ytpfjgecdlilkcaa
