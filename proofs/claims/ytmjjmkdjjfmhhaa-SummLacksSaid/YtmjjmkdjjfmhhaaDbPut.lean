/-
  Layer 7: a description is put.
-/
import Derived.Test.YtmjjmkdjjfmhhaaDbMem
import Derived.Test.YtmjjmkdjjfmhhaaFlKeys
import Derived.Test.YtmjjmkdjjfmhhaaCmpTail
namespace Go.Proofs.Ytmjjmkdjjfmhhaa
open Go.RowKit

theorem DbAt.drewN {w : World} {p b : Nat} {room : Int} {M : List Lsa} (h : DbAt w p b room M) (q : Nat) : DbAt (w.drewN q) p b room M := h.keep (below_drewN (Below.refl _ _) q)
theorem DbAt.drew {w : World} {p b : Nat} {room : Int} {M : List Lsa} (h : DbAt w p b room M) : DbAt w.drew p b room M := h.keep (Below.refl _ _).drew
theorem ptr1 {w : World} {g : Nat} {t : TypeId} {a b : Value} (h : Blk w g t #[a, b]) : w.cell? ⟨g, 1, none⟩ = some b := h.cell 1
theorem blk3c {w : World} {g : Nat} {t : TypeId} {a b c : Value} (h : Blk w g t #[a, b, c]) : w.cell? ⟨g, 0, none⟩ = some a ∧ w.cell? ⟨g, 1, none⟩ = some b ∧ w.cell? ⟨g, 2, none⟩ = some c := ⟨h.cell 0, h.cell 1, h.cell 2⟩
/-- sealed, it stands in the database; its own two lists are new from block B on -/
def PutTo (B : Nat) (w' : World) (p b : Nat) (room : Int) (h : Hd) (ls : List Lnk) (ms : List Int) (M : List Lsa) : Prop :=
  ∃ Aa ca Ab cb, (∀ a, Aa = some a → B ≤ a.block) ∧ (∀ a, Ab = some a → B ≤ a.block) ∧ DbAt w' p b room (setX ⟨sealedH h ls ms, Aa, ca, ls, Ab, cb, ms⟩ M)
theorem PutTo.mono {B B' : Nat} {w' : World} {p b : Nat} {room : Int} {h : Hd} {ls : List Lnk} {ms : List Int} {M : List Lsa} (hp : PutTo B w' p b room h ls ms M) (hB : B' ≤ B) : PutTo B' w' p b room h ls ms M := by
  obtain ⟨Aa, ca, Ab, cb, h1, h2, h3⟩ := hp
  exact ⟨Aa, ca, Ab, cb, fun a e => Nat.le_trans hB (h1 a e), fun a e => Nat.le_trans hB (h2 a e), h3⟩
set_option maxHeartbeats 8000000 in
set_option maxRecDepth 100000 in
theorem DbPut_ok (p b : Nat) (room : Int) (M : List Lsa) (y1 y2 y3 y4 y5 y6 y7 : Int) (ka : Option Addr) (kc : Nat) (ls : List Lnk) (ma : Option Addr) (mc : Nat) (ms : List Int) (w : World) (h : DbAt w p b room M) (hl : RowsAt 4 Lnk.cells w w.heap.size ka ls) (hm : RowsAt 1 icell w w.heap.size ma ms) (hlm : ls.length ≤ 1000) (hmm : ms.length ≤ 1000) (nl nm : Nat) (hnl : nl = ls.length) (hnm : nm = ms.length)
    (ht : rightB ⟨⟨y1, y2, y3, y4, y5, y6, y7⟩, ka, kc, ls, ma, mc, ms⟩ = true) {is : Bool} (his : (getX ⟨y2, y3, y4⟩ M).isSome = is) (hroom : is = true ∨ (M.length : Int) ≠ room) :
    Calls Try.prog 34 #[.pointer (some ⟨p, 0, none⟩), .agg #[.int .i64 y1, .int .i64 y2, .int .i64 y3, .int .i64 y4, .int .i64 y5, .int .i64 y6, .int .i64 y7, .slice ka nl kc, .slice ma nm mc]] w fun r w' => r = .returned (.int .i64 0) ∧ PutTo w.heap.size w' p b room ⟨y1, y2, y3, y4, y5, y6, y7⟩ ls ms M ∧ w.grownBy w' (some b) := by
  obtain ⟨w1, hW1⟩ : ∃ w1, w.alloc (.cells #[.int .i64 y1, .int .i64 y2, .int .i64 y3, .int .i64 y4, .int .i64 y5, .int .i64 y6, .int .i64 y7, .slice ka nl kc, .slice ma nm mc] 27) = w1 := ⟨_, rfl⟩
  have hk1 := Blk.new w 27 #[.int .i64 y1, .int .i64 y2, .int .i64 y3, .int .i64 y4, .int .i64 y5, .int .i64 y6, .int .i64 y7, .slice ka nl kc, .slice ma nm mc]
  have hb1 := below_new w (.cells #[.int .i64 y1, .int .i64 y2, .int .i64 y3, .int .i64 y4, .int .i64 y5, .int .i64 y6, .int .i64 y7, .slice ka nl kc, .slice ma nm mc] 27)
  rw [hW1] at hk1 hb1
  have HR := Lib.hid (lsaRight_any y1 y2 y3 y4 y5 y6 y7 ka kc ls ma mc ms w1 w1.heap.size (rows_keep hl hb1) (rows_keep hm hb1) (Nat.le_refl _) (by unfold maxLen; omega) (by unfold maxLen; omega) nl nm hnl hnm ht)
  have HS := Lib.hid (fun W (hW : Below w.heap.size w W) => seal_any y1 y2 y3 y4 y5 y6 y7 ka kc ls ma mc ms W w.heap.size (hl.below hW) (hm.below hW) hW.size hlm hmm nl nm hnl hnm ht (s1 := (sealedH ⟨y1, y2, y3, y4, y5, y6, y7⟩ ls ms).sum) (s2 := (sealedH ⟨y1, y2, y3, y4, y5, y6, y7⟩ ls ms).long) rfl)
  have Hlen : Hid (ls.length ≤ 1000 ∧ ms.length ≤ 1000 ∧ nl = ls.length ∧ nm = ms.length) := Lib.hid ⟨hlm, hmm, hnl, hnm⟩
  have H := Lib.hid h
  have Hb1 := Lib.hid hb1
  have Hk1 := Lib.hid hk1
  have His := Lib.hid his
  have Hroom := Lib.hid hroom
  obtain ⟨z0, z1, z2, z3, z4, z5, z6, z7, z8, zf⟩ := blk9 hk1
  clear hk1 hb1 hl hm hlm hmm hnl hnm ht his hroom h
  go_enter Try.func34, Try.ntmps34
  go_upto_region 6 with (first
    | (go_at_call 63; (with_reducible refine Calls.mono HR.out ?_); rintro r w2 ⟨rfl, hb2⟩; obtain ⟨x0, x1, x2, x3, x4, x5, x6, x7, x8, xf⟩ := blk9 (Hk1.out.below hb2 Hk1.out.lt); have Hb2 := Lib.hid hb2; clear hb2)
    | (go_at_call 20; (with_reducible refine Calls.mono (keyOf_any _ _ _ _ _ _ _ _) ?_); rintro r w3 ⟨rfl, hb3⟩; have Hb3 := Lib.hid hb3; clear hb3))
  obtain ⟨w5, hw5⟩ : ∃ w5, w3.alloc (.cells #[.int .i64 y2, .int .i64 y3, .int .i64 y4] 39) = w5 := ⟨_, rfl⟩
  have hb5 := below_new w3 (.cells #[.int .i64 y2, .int .i64 y3, .int .i64 y4] 39)
  have hk5 : Blk w5 w3.heap.size 39 #[.int .i64 y2, .int .i64 y3, .int .i64 y4] := by rw [← hw5]; exact Blk.new w3 _ _
  rw [hw5] at hb5 ⊢
  have hbw5 := below_trans Hb1.out Hb1.out.size (below_trans Hb2.out Hb2.out.size (below_trans Hb3.out Hb3.out.size hb5))
  have hx5 : Blk w5 w.heap.size 27 #[.int .i64 y1, .int .i64 y2, .int .i64 y3, .int .i64 y4, .int .i64 y5, .int .i64 y6, .int .i64 y7, .slice ka nl kc, .slice ma nm mc] := ((Hk1.out.below Hb2.out Hk1.out.lt).below Hb3.out (Hk1.out.below Hb2.out Hk1.out.lt).lt).below hb5 ((Hk1.out.below Hb2.out Hk1.out.lt).below Hb3.out (Hk1.out.below Hb2.out Hk1.out.lt).lt).lt
  have hd5 := H.out.keep hbw5
  have Hbw5 := Lib.hid hbw5
  have Hd5 := Lib.hid hd5
  have Hk5 := Lib.hid hk5
  have Hx5 := Lib.hid hx5
  clear hw5 hb5 hbw5 hk5 hx5 hd5 z0 z1 z2 z3 z4 z5 z6 z7 z8 zf x0 x1 x2 x3 x4 x5 x6 x7 x8 xf
  have hl := Hd5.out.map.drew.look_run keyK3 Try.underlying110 (zeroXv _) ⟨y2, y3, y4⟩ true
  have hl2 := fun o => (Hd5.out.map.alloc o).drew.look_run keyK3 Try.underlying110 (zeroXv _) ⟨y2, y3, y4⟩ true
  simp only [if_true, K3.enc] at hl hl2
  obtain ⟨e1, e2⟩ := getL_valX ⟨y2, y3, y4⟩ M
  rw [His.out] at e2
  obtain ⟨u, hu⟩ : ∃ u, (getX ⟨y2, y3, y4⟩ M).getD zeroX = u := ⟨_, rfl⟩
  rw [hu] at e1
  rw [e1, e2] at hl hl2
  obtain ⟨⟨u1, u2, u3, u4, u5, u6, u7⟩, xa, xc, xs, va, vc, vs⟩ := u
  unfold Lsa.val Lsa.cells at hl hl2
  simp only at hl hl2
  obtain ⟨xl, hxl⟩ : ∃ xl, xs.length = xl := ⟨_, rfl⟩
  obtain ⟨vl, hvl⟩ : ∃ vl, vs.length = vl := ⟨_, rfl⟩
  rw [hxl, hvl] at hl hl2
  clear e1 e2 hu hxl hvl
  obtain ⟨z0, z1, z2, z3⟩ : _ ∧ _ ∧ _ ∧ _ := ⟨Hk5.out.cell 0, Hk5.out.cell 1, Hk5.out.cell 2, Hd5.out.ptr.cell 1⟩
  obtain ⟨c0, c1, c2, c3⟩ : _ ∧ _ ∧ _ ∧ _ := ⟨fun o => (Hk5.out.alloc o).cell 0, fun o => (Hk5.out.alloc o).cell 1, fun o => (Hk5.out.alloc o).cell 2, fun o => (Hd5.out.ptr.alloc o).cell 1⟩
  simp only [List.getElem?_toArray, List.getElem?_cons_zero, List.getElem?_cons_succ] at c0 c1 c2 c3 z0 z1 z2 z3
  go_region
  obtain ⟨w6, hw6⟩ : ∃ w6, (w5.alloc (.cells #[.int .i64 u1, .int .i64 u2, .int .i64 u3, .int .i64 u4, .int .i64 u5, .int .i64 u6, .int .i64 u7, .slice xa xl xc, .slice va vl vc] 27)).drew = w6 := ⟨_, rfl⟩
  have hb6 : Below w5.heap.size w5 w6 := by rw [← hw6]; exact (below_new w5 _).drew
  rw [hw6]
  have hd6 := Hd5.out.keep hb6
  have hk6 := Hk5.out.below hb6 Hk5.out.lt
  have hx6 := Hx5.out.below hb6 Hx5.out.lt
  have Hb6 := Lib.hid (below_trans Hbw5.out Hbw5.out.size hb6)
  have Hd6 := Lib.hid hd6
  have Hk6 := Lib.hid hk6
  have Hx6 := Lib.hid hx6
  clear hw6 hb6 hd6 hk6 hx6 z0 z1 z2 z3 c0 c1 c2 c3 hl hl2
  obtain ⟨z0, z1⟩ : _ ∧ _ := ⟨Hd6.out.ptr.cell 0, Hd6.out.ptr.cell 1⟩
  simp only [List.getElem?_toArray, List.getElem?_cons_zero, List.getElem?_cons_succ] at z0 z1
  have hML : (dbL M).length = M.length := by simp [dbL]
  have hln := fun t => Hd6.out.map.drew.len_run (P := Try.prog) Try.underlying110 t
  rw [hML] at hln
  clear hML
  go_upto_region 7 with fail
  rcases (show is = true ∨ (is = false ∧ (M.length : Int) ≠ room) from by
    rcases Hroom.out with h1 | h1
    · exact .inl h1
    · cases is
      · exact .inr ⟨rfl, h1⟩
      · exact .inl rfl) with rfl | ⟨rfl, hr⟩
  all_goals
    go_region
    go_upto_region 9 with fail
    clear hln z0 z1
    have FZ := Lib.hid (fun W (hW : Below w6.heap.size w6 W) => (show _ ∧ _ ∧ _ from ⟨ptr1 (Hd6.out.keep hW).ptr, blk3c (Hk6.out.below hW Hk6.out.lt), blk9 (Hx6.out.below hW Hx6.out.lt)⟩))
    refine wp_region_F (F := fun W => Below w6.heap.size w6 W) (n := 7) (m := 8) (s := #[false, false, false, false, false, false, false, false]) (by kernel_rfl) (by kernel_rfl) (by kernel_rfl) ?_
    intro wd hwd
    have hF : Below w6.heap.size w6 wd := by rw [hwd.out]; exact (Below.refl _ _).drew.drew
    clear hwd
    refine F_take (i := 0) (d := some 41) (by kernel_rfl) (by kernel_rfl) (by decide) (s' := #[true, false, false, false, false, false, false, false]) (by kernel_rfl) rfl rfl (by kernel_rfl) (by kernel_rfl) (by kernel_rfl) (fun _ _ _ h => h) (Or.inl ⟨by kernel_rfl, fun W hW => by obtain ⟨x0, ⟨k0, k1, k2⟩, x1, x2, x3, x4, x5, x6, x7, x8, x9, -⟩ := FZ.out W hW; go_simp; try with_reducible rfl⟩) hF ?_
    go_frame
    refine F_take (i := 1) (d := some 42) (by kernel_rfl) (by kernel_rfl) (by decide) (s' := #[true, true, false, false, false, false, false, false]) (by kernel_rfl) rfl rfl (by kernel_rfl) (by kernel_rfl) (by kernel_rfl) (fun _ _ _ h => h) (Or.inl ⟨by kernel_rfl, fun W hW => by obtain ⟨x0, ⟨k0, k1, k2⟩, x1, x2, x3, x4, x5, x6, x7, x8, x9, -⟩ := FZ.out W hW; go_simp; try with_reducible rfl⟩) hF ?_
    go_frame
    refine F_take (i := 2) (d := some 43) (by kernel_rfl) (by kernel_rfl) (by decide) (s' := #[true, true, true, false, false, false, false, false]) (by kernel_rfl) rfl rfl (by kernel_rfl) (by kernel_rfl) (by kernel_rfl) (fun _ _ _ h => h) (Or.inl ⟨by kernel_rfl, fun W hW => by obtain ⟨x0, ⟨k0, k1, k2⟩, x1, x2, x3, x4, x5, x6, x7, x8, x9, -⟩ := FZ.out W hW; go_simp; try with_reducible rfl⟩) hF ?_
    go_frame
    refine F_take (i := 3) (d := some 44) (by kernel_rfl) (by kernel_rfl) (by decide) (s' := #[true, true, true, true, false, false, false, false]) (by kernel_rfl) rfl rfl (by kernel_rfl) (by kernel_rfl) (by kernel_rfl) (fun _ _ _ h => h) (Or.inl ⟨by kernel_rfl, fun W hW => by obtain ⟨x0, ⟨k0, k1, k2⟩, x1, x2, x3, x4, x5, x6, x7, x8, x9, -⟩ := FZ.out W hW; go_simp; try with_reducible rfl⟩) hF ?_
    go_frame
    refine F_take (i := 4) (d := some 45) (by kernel_rfl) (by kernel_rfl) (by decide) (s' := #[true, true, true, true, true, false, false, false]) (by kernel_rfl) rfl rfl (by kernel_rfl) (by kernel_rfl) (by kernel_rfl) (fun _ _ _ h => h) (Or.inl ⟨by kernel_rfl, fun W hW => by obtain ⟨x0, ⟨k0, k1, k2⟩, x1, x2, x3, x4, x5, x6, x7, x8, x9, -⟩ := FZ.out W hW; go_simp; try with_reducible rfl⟩) hF ?_
    go_frame
    refine F_take (i := 5) (d := some 46) (by kernel_rfl) (by kernel_rfl) (by decide) (s' := #[true, true, true, true, true, true, false, false]) (by kernel_rfl) rfl rfl (by kernel_rfl) (by kernel_rfl) (by kernel_rfl) (fun _ _ _ h => h) (Or.inl ⟨by kernel_rfl, fun W hW => by obtain ⟨x0, ⟨k0, k1, k2⟩, x1, x2, x3, x4, x5, x6, x7, x8, x9, -⟩ := FZ.out W hW; go_simp; try with_reducible rfl⟩) hF ?_
    go_frame
    refine F_one (i := 6) (s' := #[true, true, true, true, true, true, true, false]) (by kernel_rfl) (by kernel_rfl) (wpOp_enterL (i := 6) (d := some 47) (f := 64) (args := #[.agg #[.int .i64 y1, .int .i64 y2, .int .i64 y3, .int .i64 y4, .int .i64 y5, .int .i64 y6, .int .i64 y7, .slice ka nl kc, .slice ma nm mc]]) rfl rfl (by kernel_rfl) (by go_simp) ((HS.out wd (below_trans Hb6.out Hb6.out.size hF)).mono ?_))
    rintro r v6w ⟨va', vb', rfl, oa, ob, hb8⟩
    obtain ⟨Aa, ca, rfl⟩ : ∃ A c, va' = .slice A nl c := by obtain ⟨A, c, e⟩ := oa.shape; exact ⟨A, c, by rw [e, Hlen.out.2.2.1]⟩
    obtain ⟨Ab, cb, rfl⟩ : ∃ A c, vb' = .slice A nm c := by obtain ⟨A, c, e⟩ := ob.shape; exact ⟨A, c, by rw [e, Hlen.out.2.2.2]⟩
    have hszd := (below_trans Hb6.out Hb6.out.size hF).size
    have Hfa := Lib.hid (show ∀ a, Aa = some a → w.heap.size ≤ a.block from fun a e => Nat.le_trans hszd (OwnR.block oa _ (by rw [e]; rfl)).1)
    have Hfb := Lib.hid (show ∀ a, Ab = some a → w.heap.size ≤ a.block from fun a e => Nat.le_trans hszd (OwnR.block ob _ (by rw [e]; rfl)).1)
    clear hszd
    have ra := (OwnR.rows (C := 4) (cells := Lnk.cells) (fun _ => rfl) oa).2
    have rb := (OwnR.rows (C := 1) (cells := icell) (fun _ => rfl) ob).2
    have hF := below_trans hF hF.size hb8
    have hd8 := Hd6.out.keep hF
    obtain ⟨sh, hsh⟩ : ∃ sh, sealedH ⟨y1, y2, y3, y4, y5, y6, y7⟩ ls ms = sh := ⟨_, rfl⟩
    obtain ⟨w9, hrun, hm9, hg9, -⟩ := hd8.map.update_run (P := Try.prog) keyK3 Try.underlying110 ⟨y2, y3, y4⟩ (.agg #[.int .i64 y1, .int .i64 y2, .int .i64 y3, .int .i64 y4, .int .i64 y5, .int .i64 sh.sum, .int .i64 sh.long, .slice Aa nl ca, .slice Ab nm cb])
    simp only [K3.enc] at hrun
    refine ⟨_, rfl, fun _ => hF, ?_⟩
    rw [hsh]
    go_frame
    refine F_one (i := 7) (s' := #[true, true, true, true, true, true, true, true]) (by kernel_rfl) (by kernel_rfl) (wpOp_skipL (i := 7) (w' := w9) rfl rfl (by kernel_rfl) (by go_simp) ⟨fun h => absurd h (by decide), ?_⟩)
    go_frame
    refine F_done (by kernel_rfl) ?_ _
    have hval : (.agg #[.int .i64 y1, .int .i64 y2, .int .i64 y3, .int .i64 y4, .int .i64 y5, .int .i64 sh.sum, .int .i64 sh.long, .slice Aa nl ca, .slice Ab nm cb] : Value) = (⟨sealedH ⟨y1, y2, y3, y4, y5, y6, y7⟩ ls ms, Aa, ca, ls, Ab, cb, ms⟩ : Lsa).val := by
      unfold Lsa.val Lsa.cells
      simp only
      rw [← Hlen.out.2.2.1, ← Hlen.out.2.2.2, hsh]
      rw [← hsh]
      rfl
    rw [hval, show (⟨y2, y3, y4⟩ : K3) = keyH (sealedH ⟨y1, y2, y3, y4, y5, y6, y7⟩ ls ms) from rfl] at hm9
    have hm9' := hm9
    rw [setL_db (⟨sealedH ⟨y1, y2, y3, y4, y5, y6, y7⟩ ls ms, Aa, ca, ls, Ab, cb, ms⟩ : Lsa)] at hm9'
    have hd9 := Lib.hid (hd8.turned hg9 hm9' (fun x hx => (setX_mem hx).elim .inl (fun e => .inr (by subst e; exact ⟨⟨rows_map (fun _ => rfl) (by decide) ra hd8.map hg9, rows_map (fun _ => rfl) (by decide) rb hd8.map hg9⟩, Hlen.out.1, Hlen.out.2.1⟩))))
    have hgw := Lib.hid (grown_trans (grown_below (World.grownBy.refl w (some b)) (below_trans Hb6.out Hb6.out.size hF)) hg9)
    clear hm9 hm9' hg9 hrun hval ra rb oa ob hb8 hd8 hF hsh
    go_wp2
    go_ret
    exact ⟨rfl, ⟨Aa, ca, Ab, cb, Hfa.out, Hfb.out, hd9.out⟩, hgw.out⟩

end Go.Proofs.Ytmjjmkdjjfmhhaa

/-
  Layer 7: a description is not put: it is not right, or there is no room.
-/
namespace Go.Proofs.Ytmjjmkdjjfmhhaa
open Go.RowKit

theorem below_drew2 {B : Nat} {a w : World} (h : Below B a w) : Below B a w.drew := below_drewN h 1
set_option maxHeartbeats 4000000 in
set_option maxRecDepth 100000 in
theorem DbPut_bad (p : Nat) (y1 y2 y3 y4 y5 y6 y7 : Int) (ka : Option Addr) (kc : Nat) (ls : List Lnk) (ma : Option Addr) (mc : Nat) (ms : List Int) (w : World) (hl : RowsAt 4 Lnk.cells w w.heap.size ka ls) (hm : RowsAt 1 icell w w.heap.size ma ms) (hlm : ls.length ≤ maxLen) (hmm : ms.length ≤ maxLen) (nl nm : Nat) (hnl : nl = ls.length) (hnm : nm = ms.length)
    (ht : rightB ⟨⟨y1, y2, y3, y4, y5, y6, y7⟩, ka, kc, ls, ma, mc, ms⟩ = false) :
    Calls Try.prog 34 #[.pointer (some ⟨p, 0, none⟩), .agg #[.int .i64 y1, .int .i64 y2, .int .i64 y3, .int .i64 y4, .int .i64 y5, .int .i64 y6, .int .i64 y7, .slice ka nl kc, .slice ma nm mc]] w fun r w' => r = .returned (.int .i64 1) ∧ Below w.heap.size w w' := by
  obtain ⟨w1, hW1⟩ : ∃ w1, w.alloc (.cells #[.int .i64 y1, .int .i64 y2, .int .i64 y3, .int .i64 y4, .int .i64 y5, .int .i64 y6, .int .i64 y7, .slice ka nl kc, .slice ma nm mc] 27) = w1 := ⟨_, rfl⟩
  have hk1 := Blk.new w 27 #[.int .i64 y1, .int .i64 y2, .int .i64 y3, .int .i64 y4, .int .i64 y5, .int .i64 y6, .int .i64 y7, .slice ka nl kc, .slice ma nm mc]
  have hb1 := below_new w (.cells #[.int .i64 y1, .int .i64 y2, .int .i64 y3, .int .i64 y4, .int .i64 y5, .int .i64 y6, .int .i64 y7, .slice ka nl kc, .slice ma nm mc] 27)
  rw [hW1] at hk1 hb1
  have HR := Lib.hid (lsaRight_any y1 y2 y3 y4 y5 y6 y7 ka kc ls ma mc ms w1 w1.heap.size (rows_keep hl hb1) (rows_keep hm hb1) (Nat.le_refl _) hlm hmm nl nm hnl hnm ht)
  have Hb1 := Lib.hid hb1
  obtain ⟨z0, z1, z2, z3, z4, z5, z6, z7, z8, zf⟩ := blk9 hk1
  clear hk1 hb1 hl hm hlm hmm hnl hnm ht
  go_enter Try.func34, Try.ntmps34
  go_wp2_with (go_at_call 63; (with_reducible refine Calls.mono HR.out ?_); rintro r w2 ⟨rfl, hb2⟩; have Hb2 := Lib.hid (below_trans Hb1.out Hb1.out.size hb2); clear hb2)
  go_ret
  exact ⟨rfl, Hb2.out⟩
set_option maxHeartbeats 8000000 in
set_option maxRecDepth 100000 in
theorem DbPut_full (p b : Nat) (room : Int) (M : List Lsa) (y1 y2 y3 y4 y5 y6 y7 : Int) (ka : Option Addr) (kc : Nat) (ls : List Lnk) (ma : Option Addr) (mc : Nat) (ms : List Int) (w : World) (h : DbAt w p b room M) (hl : RowsAt 4 Lnk.cells w w.heap.size ka ls) (hm : RowsAt 1 icell w w.heap.size ma ms) (hlm : ls.length ≤ 1000) (hmm : ms.length ≤ 1000) (nl nm : Nat) (hnl : nl = ls.length) (hnm : nm = ms.length)
    (ht : rightB ⟨⟨y1, y2, y3, y4, y5, y6, y7⟩, ka, kc, ls, ma, mc, ms⟩ = true) (his : (getX ⟨y2, y3, y4⟩ M).isSome = false) (hroom : (M.length : Int) = room) :
    Calls Try.prog 34 #[.pointer (some ⟨p, 0, none⟩), .agg #[.int .i64 y1, .int .i64 y2, .int .i64 y3, .int .i64 y4, .int .i64 y5, .int .i64 y6, .int .i64 y7, .slice ka nl kc, .slice ma nm mc]] w fun r w' => r = .returned (.int .i64 7) ∧ Below w.heap.size w w' := by
  obtain ⟨w1, hW1⟩ : ∃ w1, w.alloc (.cells #[.int .i64 y1, .int .i64 y2, .int .i64 y3, .int .i64 y4, .int .i64 y5, .int .i64 y6, .int .i64 y7, .slice ka nl kc, .slice ma nm mc] 27) = w1 := ⟨_, rfl⟩
  have hk1 := Blk.new w 27 #[.int .i64 y1, .int .i64 y2, .int .i64 y3, .int .i64 y4, .int .i64 y5, .int .i64 y6, .int .i64 y7, .slice ka nl kc, .slice ma nm mc]
  have hb1 := below_new w (.cells #[.int .i64 y1, .int .i64 y2, .int .i64 y3, .int .i64 y4, .int .i64 y5, .int .i64 y6, .int .i64 y7, .slice ka nl kc, .slice ma nm mc] 27)
  rw [hW1] at hk1 hb1
  have HR := Lib.hid (lsaRight_any y1 y2 y3 y4 y5 y6 y7 ka kc ls ma mc ms w1 w1.heap.size (rows_keep hl hb1) (rows_keep hm hb1) (Nat.le_refl _) (by unfold maxLen; omega) (by unfold maxLen; omega) nl nm hnl hnm ht)
  have Hlen : Hid (ls.length ≤ 1000 ∧ ms.length ≤ 1000 ∧ nl = ls.length ∧ nm = ms.length) := Lib.hid ⟨hlm, hmm, hnl, hnm⟩
  have H := Lib.hid h
  have Hb1 := Lib.hid hb1
  have Hk1 := Lib.hid hk1
  have His := Lib.hid his
  have Hroom := Lib.hid hroom
  obtain ⟨z0, z1, z2, z3, z4, z5, z6, z7, z8, zf⟩ := blk9 hk1
  clear hk1 hb1 hl hm hlm hmm hnl hnm ht his hroom h
  go_enter Try.func34, Try.ntmps34
  go_upto_region 6 with (first
    | (go_at_call 63; (with_reducible refine Calls.mono HR.out ?_); rintro r w2 ⟨rfl, hb2⟩; obtain ⟨x0, x1, x2, x3, x4, x5, x6, x7, x8, xf⟩ := blk9 (Hk1.out.below hb2 Hk1.out.lt); have Hb2 := Lib.hid hb2; clear hb2)
    | (go_at_call 20; (with_reducible refine Calls.mono (keyOf_any _ _ _ _ _ _ _ _) ?_); rintro r w3 ⟨rfl, hb3⟩; have Hb3 := Lib.hid hb3; clear hb3))
  obtain ⟨w5, hw5⟩ : ∃ w5, w3.alloc (.cells #[.int .i64 y2, .int .i64 y3, .int .i64 y4] 39) = w5 := ⟨_, rfl⟩
  have hb5 := below_new w3 (.cells #[.int .i64 y2, .int .i64 y3, .int .i64 y4] 39)
  have hk5 : Blk w5 w3.heap.size 39 #[.int .i64 y2, .int .i64 y3, .int .i64 y4] := by rw [← hw5]; exact Blk.new w3 _ _
  rw [hw5] at hb5 ⊢
  have hbw5 := below_trans Hb1.out Hb1.out.size (below_trans Hb2.out Hb2.out.size (below_trans Hb3.out Hb3.out.size hb5))
  have hx5 : Blk w5 w.heap.size 27 #[.int .i64 y1, .int .i64 y2, .int .i64 y3, .int .i64 y4, .int .i64 y5, .int .i64 y6, .int .i64 y7, .slice ka nl kc, .slice ma nm mc] := ((Hk1.out.below Hb2.out Hk1.out.lt).below Hb3.out (Hk1.out.below Hb2.out Hk1.out.lt).lt).below hb5 ((Hk1.out.below Hb2.out Hk1.out.lt).below Hb3.out (Hk1.out.below Hb2.out Hk1.out.lt).lt).lt
  have hd5 := H.out.keep hbw5
  have Hbw5 := Lib.hid hbw5
  have Hd5 := Lib.hid hd5
  have Hk5 := Lib.hid hk5
  have Hx5 := Lib.hid hx5
  clear hw5 hb5 hbw5 hk5 hx5 hd5 z0 z1 z2 z3 z4 z5 z6 z7 z8 zf x0 x1 x2 x3 x4 x5 x6 x7 x8 xf
  have hl := Hd5.out.map.drew.look_run keyK3 Try.underlying110 (zeroXv _) ⟨y2, y3, y4⟩ true
  have hl2 := fun o => (Hd5.out.map.alloc o).drew.look_run keyK3 Try.underlying110 (zeroXv _) ⟨y2, y3, y4⟩ true
  simp only [if_true, K3.enc] at hl hl2
  obtain ⟨e1, e2⟩ := getL_valX ⟨y2, y3, y4⟩ M
  rw [His.out] at e2
  obtain ⟨u, hu⟩ : ∃ u, (getX ⟨y2, y3, y4⟩ M).getD zeroX = u := ⟨_, rfl⟩
  rw [hu] at e1
  rw [e1, e2] at hl hl2
  obtain ⟨⟨u1, u2, u3, u4, u5, u6, u7⟩, xa, xc, xs, va, vc, vs⟩ := u
  unfold Lsa.val Lsa.cells at hl hl2
  simp only at hl hl2
  obtain ⟨xl, hxl⟩ : ∃ xl, xs.length = xl := ⟨_, rfl⟩
  obtain ⟨vl, hvl⟩ : ∃ vl, vs.length = vl := ⟨_, rfl⟩
  rw [hxl, hvl] at hl hl2
  clear e1 e2 hu hxl hvl
  obtain ⟨z0, z1, z2, z3⟩ : _ ∧ _ ∧ _ ∧ _ := ⟨Hk5.out.cell 0, Hk5.out.cell 1, Hk5.out.cell 2, Hd5.out.ptr.cell 1⟩
  obtain ⟨c0, c1, c2, c3⟩ : _ ∧ _ ∧ _ ∧ _ := ⟨fun o => (Hk5.out.alloc o).cell 0, fun o => (Hk5.out.alloc o).cell 1, fun o => (Hk5.out.alloc o).cell 2, fun o => (Hd5.out.ptr.alloc o).cell 1⟩
  simp only [List.getElem?_toArray, List.getElem?_cons_zero, List.getElem?_cons_succ] at c0 c1 c2 c3 z0 z1 z2 z3
  go_region
  obtain ⟨w6, hw6⟩ : ∃ w6, (w5.alloc (.cells #[.int .i64 u1, .int .i64 u2, .int .i64 u3, .int .i64 u4, .int .i64 u5, .int .i64 u6, .int .i64 u7, .slice xa xl xc, .slice va vl vc] 27)).drew = w6 := ⟨_, rfl⟩
  have hb6 : Below w5.heap.size w5 w6 := by rw [← hw6]; exact (below_new w5 _).drew
  rw [hw6]
  have hd6 := Hd5.out.keep hb6
  have hk6 := Hk5.out.below hb6 Hk5.out.lt
  have hx6 := Hx5.out.below hb6 Hx5.out.lt
  have Hb6 := Lib.hid (below_trans Hbw5.out Hbw5.out.size hb6)
  have Hd6 := Lib.hid hd6
  have Hk6 := Lib.hid hk6
  have Hx6 := Lib.hid hx6
  clear hw6 hb6 hd6 hk6 hx6 z0 z1 z2 z3 c0 c1 c2 c3 hl hl2
  obtain ⟨z0, z1⟩ : _ ∧ _ := ⟨Hd6.out.ptr.cell 0, Hd6.out.ptr.cell 1⟩
  simp only [List.getElem?_toArray, List.getElem?_cons_zero, List.getElem?_cons_succ] at z0 z1
  have hML : (dbL M).length = M.length := by simp [dbL]
  have hln := fun t => Hd6.out.map.drew.len_run (P := Try.prog) Try.underlying110 t
  rw [hML] at hln
  clear hML
  go_upto_region 7 with fail
  have hr := Hroom.out
  subst hr
  go_region
  go_wp2
  go_ret
  exact ⟨rfl, below_drew2 Hb6.out⟩

end Go.Proofs.Ytmjjmkdjjfmhhaa
