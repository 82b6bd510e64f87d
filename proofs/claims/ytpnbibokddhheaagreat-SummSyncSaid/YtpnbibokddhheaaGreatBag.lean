/-
  Layer 7: a description is put.
-/
import Derived.Deep.CutRange
import Derived.Deep.DeepCutAuto
import Derived.Test.YtpnbibokddhheaaGreatBab
import Derived.Test.YtpnbibokddhheaaGreatBac
import Derived.Test.YtpnbibokddhheaaGreatBaf
namespace Go.Proofs.YtpnbibokddhheaaGreat
open Go.RowKit

theorem DbAt.drewN {w : World} {p b : Nat} {room : Int} {M : List Lsa} (h : DbAt w p b room M) (q : Nat) : DbAt (w.drewN q) p b room M := h.keep (below_drewN (Below.refl _ _) q)
theorem DbAt.drew {w : World} {p b : Nat} {room : Int} {M : List Lsa} (h : DbAt w p b room M) : DbAt w.drew p b room M := h.keep (Below.refl _ _).drew
theorem ptr1 {w : World} {g : Nat} {t : TypeId} {a b : Value} (h : Blk w g t #[a, b]) : w.cell? ⟨g, 1, none⟩ = some b := h.cell 1
theorem blk3c {w : World} {g : Nat} {t : TypeId} {a b c : Value} (h : Blk w g t #[a, b, c]) : w.cell? ⟨g, 0, none⟩ = some a ∧ w.cell? ⟨g, 1, none⟩ = some b ∧ w.cell? ⟨g, 2, none⟩ = some c := ⟨h.cell 0, h.cell 1, h.cell 2⟩
/-- sealed, it stands in the database; its own two lists are new from block B on -/
def PutTo (B : Nat) (w' : World) (p b : Nat) (room : Int) (h : Hd) (ls : List Lnk) (ms : List Int) (M : List Lsa) : Prop :=
  ∃ Aa ca Ab cb, (∀ a, Aa = some a → B ≤ a.block) ∧ (∀ a, Ab = some a → B ≤ a.block) ∧ DbAt w' p b room (setX ⟨sealedH h ls ms, Aa, ca, ls, Ab, cb, ms⟩ M)
theorem PutTo.mono {B B' : Nat} {w' : World} {p b : Nat} {room : Int} {h : Hd} {ls : List Lnk} {ms : List Int} {M : List Lsa} (hp : PutTo B w' p b room h ls ms M) (hB : B' ≤ B) : PutTo B' w' p b room h ls ms M := by
  obtain ⟨Aa, ca, Ab, cb, h1, h2, h3⟩ := hp
  exact ⟨Aa, ca, Ab, cb, fun a e => Nat.le_trans hB (h1 a e), fun a e => Nat.le_trans hB (h2 a e), h3⟩
set_option maxHeartbeats 8000000 in
set_option maxRecDepth 100000 in
theorem DbPut_ok (p b : Nat) (room : Int) (M : List Lsa) (y1 y2 y3 y4 y5 y6 y7 : Int) (ka : Option Addr) (kc : Nat) (ls : List Lnk) (ma : Option Addr) (mc : Nat) (ms : List Int) (w : World) (h : DbAt w p b room M) (hl : RowsAt 4 Lnk.cells w w.heap.size ka ls) (hm : RowsAt 1 icell w w.heap.size ma ms) (hlm : ls.length ≤ 1000) (hmm : ms.length ≤ 1000) (nl nm : Nat) (hnl : nl = ls.length) (hnm : nm = ms.length)
    (ht : rightB ⟨⟨y1, y2, y3, y4, y5, y6, y7⟩, ka, kc, ls, ma, mc, ms⟩ = true) {is : Bool} (his : (getX ⟨y2, y3, y4⟩ M).isSome = is) (hroom : is = true ∨ (M.length : Int) ≠ room) :
    Calls Tryz.prog 24 #[.pointer (some ⟨p, 0, none⟩), .agg #[.int .i64 y1, .int .i64 y2, .int .i64 y3, .int .i64 y4, .int .i64 y5, .int .i64 y6, .int .i64 y7, .slice ka nl kc, .slice ma nm mc]] w fun r w' => r = .returned (.int .i64 0) ∧ PutTo w.heap.size w' p b room ⟨y1, y2, y3, y4, y5, y6, y7⟩ ls ms M ∧ w.grownBy w' (some b) := by
  obtain ⟨w1, hW1⟩ : ∃ w1, w.alloc (.cells #[.int .i64 y1, .int .i64 y2, .int .i64 y3, .int .i64 y4, .int .i64 y5, .int .i64 y6, .int .i64 y7, .slice ka nl kc, .slice ma nm mc] 31) = w1 := ⟨_, rfl⟩
  have hk1 := Blk.new w 31 #[.int .i64 y1, .int .i64 y2, .int .i64 y3, .int .i64 y4, .int .i64 y5, .int .i64 y6, .int .i64 y7, .slice ka nl kc, .slice ma nm mc]
  have hb1 := below_new w (.cells #[.int .i64 y1, .int .i64 y2, .int .i64 y3, .int .i64 y4, .int .i64 y5, .int .i64 y6, .int .i64 y7, .slice ka nl kc, .slice ma nm mc] 31)
  rw [hW1] at hk1 hb1
  have HR := Lib.hid (lsaRight_any y1 y2 y3 y4 y5 y6 y7 ka kc ls ma mc ms w1 w1.heap.size (rows_keep hl hb1) (rows_keep hm hb1) (Nat.le_refl _) (by unfold maxLen; omega) (by unfold maxLen; omega) nl nm hnl hnm ht)
  have HS := Lib.hid (fun W (hW : Below w.heap.size w W) => seal_any y1 y2 y3 y4 y5 y6 y7 ka kc ls ma mc ms W w.heap.size (hl.below hW) (hm.below hW) hW.size hlm hmm nl nm hnl hnm ht (s1 := (sealedH ⟨y1, y2, y3, y4, y5, y6, y7⟩ ls ms).sum) (s2 := (sealedH ⟨y1, y2, y3, y4, y5, y6, y7⟩ ls ms).long) rfl)
  have Hlen : Hid (ls.length ≤ 1000 ∧ ms.length ≤ 1000 ∧ nl = ls.length ∧ nm = ms.length) := Lib.hid ⟨hlm, hmm, hnl, hnm⟩
  have H := Lib.hid h
  have Hb1 := Lib.hid hb1
  have Hk1 := Lib.hid hk1
  have His := Lib.hid his
  have Hroom := Lib.hid hroom
  obtain ⟨z0, z1, z2, z3, z4, z5, z6, z7, z8, zf⟩ := blk9 hk1
  clear hk1 hb1 hl hm hlm hmm hnl hnm ht his hroom h
  go_enter Tryz.func24, Tryz.ntmps24
  go_upto_region 6 with (first
    | (go_at_call 50; (with_reducible refine Calls.mono HR.out ?_); rintro r w2 ⟨rfl, hb2⟩; obtain ⟨x0, x1, x2, x3, x4, x5, x6, x7, x8, xf⟩ := blk9 (Hk1.out.below hb2 Hk1.out.lt); have Hb2 := Lib.hid hb2; clear hb2)
    | (go_at_call 23; (with_reducible refine Calls.mono (keyOf_any _ _ _ _ _ _ _ _) ?_); rintro r w3 ⟨rfl, hb3⟩; have Hb3 := Lib.hid hb3; clear hb3))
  obtain ⟨w5, hw5⟩ : ∃ w5, w3.alloc (.cells #[.int .i64 y2, .int .i64 y3, .int .i64 y4] 69) = w5 := ⟨_, rfl⟩
  have hb5 := below_new w3 (.cells #[.int .i64 y2, .int .i64 y3, .int .i64 y4] 69)
  have hk5 : Blk w5 w3.heap.size 69 #[.int .i64 y2, .int .i64 y3, .int .i64 y4] := by rw [← hw5]; exact Blk.new w3 _ _
  rw [hw5] at hb5 ⊢
  have hbw5 := below_trans Hb1.out Hb1.out.size (below_trans Hb2.out Hb2.out.size (below_trans Hb3.out Hb3.out.size hb5))
  have hx5 : Blk w5 w.heap.size 31 #[.int .i64 y1, .int .i64 y2, .int .i64 y3, .int .i64 y4, .int .i64 y5, .int .i64 y6, .int .i64 y7, .slice ka nl kc, .slice ma nm mc] := ((Hk1.out.below Hb2.out Hk1.out.lt).below Hb3.out (Hk1.out.below Hb2.out Hk1.out.lt).lt).below hb5 ((Hk1.out.below Hb2.out Hk1.out.lt).below Hb3.out (Hk1.out.below Hb2.out Hk1.out.lt).lt).lt
  have hd5 := H.out.keep hbw5
  have Hbw5 := Lib.hid hbw5
  have Hd5 := Lib.hid hd5
  have Hk5 := Lib.hid hk5
  have Hx5 := Lib.hid hx5
  clear hw5 hb5 hbw5 hk5 hx5 hd5 z0 z1 z2 z3 z4 z5 z6 z7 z8 zf x0 x1 x2 x3 x4 x5 x6 x7 x8 xf
  have hl := Hd5.out.map.drew.look_run keyK3 Tryz.underlying112 (zeroXv _) ⟨y2, y3, y4⟩ true
  have hl2 := fun o => (Hd5.out.map.alloc o).drew.look_run keyK3 Tryz.underlying112 (zeroXv _) ⟨y2, y3, y4⟩ true
  simp only [if_true, K3.enc] at hl hl2
  obtain ⟨e1, e2⟩ := getL_valX ⟨y2, y3, y4⟩ M
  rw [His.out] at e2
  obtain ⟨u, hu⟩ : ∃ u, (getX ⟨y2, y3, y4⟩ M).getD zeroX = u := ⟨_, rfl⟩
  rw [hu] at e1
  rw [e1, e2] at hl hl2
  obtain ⟨⟨u1, u2, u3, u4, u5, u6, u7⟩, xa, xc, xs, va, vc, vs⟩ := u
  unfold Lsa.val Lsa.cells at hl hl2
  simp only at hl hl2
  obtain ⟨xl, hxl⟩ : ∃ xl, xs.length = xl := ⟨_, rfl⟩
  obtain ⟨vl, hvl⟩ : ∃ vl, vs.length = vl := ⟨_, rfl⟩
  rw [hxl, hvl] at hl hl2
  clear e1 e2 hu hxl hvl
  obtain ⟨z0, z1, z2, z3⟩ : _ ∧ _ ∧ _ ∧ _ := ⟨Hk5.out.cell 0, Hk5.out.cell 1, Hk5.out.cell 2, Hd5.out.ptr.cell 1⟩
  obtain ⟨c0, c1, c2, c3⟩ : _ ∧ _ ∧ _ ∧ _ := ⟨fun o => (Hk5.out.alloc o).cell 0, fun o => (Hk5.out.alloc o).cell 1, fun o => (Hk5.out.alloc o).cell 2, fun o => (Hd5.out.ptr.alloc o).cell 1⟩
  simp only [List.getElem?_toArray, List.getElem?_cons_zero, List.getElem?_cons_succ] at c0 c1 c2 c3 z0 z1 z2 z3
  go_region
  obtain ⟨w6, hw6⟩ : ∃ w6, (w5.alloc (.cells #[.int .i64 u1, .int .i64 u2, .int .i64 u3, .int .i64 u4, .int .i64 u5, .int .i64 u6, .int .i64 u7, .slice xa xl xc, .slice va vl vc] 31)).drew = w6 := ⟨_, rfl⟩
  have hb6 : Below w5.heap.size w5 w6 := by rw [← hw6]; exact (below_new w5 _).drew
  rw [hw6]
  have hd6 := Hd5.out.keep hb6
  have hk6 := Hk5.out.below hb6 Hk5.out.lt
  have hx6 := Hx5.out.below hb6 Hx5.out.lt
  have Hb6 := Lib.hid (below_trans Hbw5.out Hbw5.out.size hb6)
  have Hd6 := Lib.hid hd6
  have Hk6 := Lib.hid hk6
  have Hx6 := Lib.hid hx6
  clear hw6 hb6 hd6 hk6 hx6 z0 z1 z2 z3 c0 c1 c2 c3 hl hl2
  obtain ⟨z0, z1⟩ : _ ∧ _ := ⟨Hd6.out.ptr.cell 0, Hd6.out.ptr.cell 1⟩
  simp only [List.getElem?_toArray, List.getElem?_cons_zero, List.getElem?_cons_succ] at z0 z1
  have hML : (dbL M).length = M.length := by simp [dbL]
  have hln := fun t => Hd6.out.map.drew.len_run (P := Tryz.prog) Tryz.underlying112 t
  rw [hML] at hln
  clear hML
  go_upto_region 7 with fail
  rcases (show is = true ∨ (is = false ∧ (M.length : Int) ≠ room) from by
    rcases Hroom.out with h1 | h1
    · exact .inl h1
    · cases is
      · exact .inr ⟨rfl, h1⟩
      · exact .inl rfl) with rfl | ⟨rfl, hr⟩
  all_goals
    go_region
    go_upto_region 9 with fail
    clear hln z0 z1
    have FZ := Lib.hid (fun W (hW : Below w6.heap.size w6 W) => (show _ ∧ _ ∧ _ from ⟨ptr1 (Hd6.out.keep hW).ptr, blk3c (Hk6.out.below hW Hk6.out.lt), blk9 (Hx6.out.below hW Hx6.out.lt)⟩))
    refine wp_region_F (F := fun W => Below w6.heap.size w6 W) (n := 7) (m := 8) (s := #[false, false, false, false, false, false, false, false]) (by kernel_rfl) (by kernel_rfl) (by kernel_rfl) ?_
    intro wd hwd
    have hF : Below w6.heap.size w6 wd := by rw [hwd.out]; exact (Below.refl _ _).drew.drew
    clear hwd
    refine F_take (i := 0) (d := some 41) (by kernel_rfl) (by kernel_rfl) (by decide) (s' := #[true, false, false, false, false, false, false, false]) (by kernel_rfl) rfl rfl (by kernel_rfl) (by kernel_rfl) (by kernel_rfl) (fun _ _ _ h => h) (Or.inl ⟨by kernel_rfl, fun W hW => by obtain ⟨x0, ⟨k0, k1, k2⟩, x1, x2, x3, x4, x5, x6, x7, x8, x9, -⟩ := FZ.out W hW; go_simp; try with_reducible rfl⟩) hF ?_
    go_frame
    refine F_take (i := 1) (d := some 42) (by kernel_rfl) (by kernel_rfl) (by decide) (s' := #[true, true, false, false, false, false, false, false]) (by kernel_rfl) rfl rfl (by kernel_rfl) (by kernel_rfl) (by kernel_rfl) (fun _ _ _ h => h) (Or.inl ⟨by kernel_rfl, fun W hW => by obtain ⟨x0, ⟨k0, k1, k2⟩, x1, x2, x3, x4, x5, x6, x7, x8, x9, -⟩ := FZ.out W hW; go_simp; try with_reducible rfl⟩) hF ?_
    go_frame
    refine F_take (i := 2) (d := some 43) (by kernel_rfl) (by kernel_rfl) (by decide) (s' := #[true, true, true, false, false, false, false, false]) (by kernel_rfl) rfl rfl (by kernel_rfl) (by kernel_rfl) (by kernel_rfl) (fun _ _ _ h => h) (Or.inl ⟨by kernel_rfl, fun W hW => by obtain ⟨x0, ⟨k0, k1, k2⟩, x1, x2, x3, x4, x5, x6, x7, x8, x9, -⟩ := FZ.out W hW; go_simp; try with_reducible rfl⟩) hF ?_
    go_frame
    refine F_take (i := 3) (d := some 44) (by kernel_rfl) (by kernel_rfl) (by decide) (s' := #[true, true, true, true, false, false, false, false]) (by kernel_rfl) rfl rfl (by kernel_rfl) (by kernel_rfl) (by kernel_rfl) (fun _ _ _ h => h) (Or.inl ⟨by kernel_rfl, fun W hW => by obtain ⟨x0, ⟨k0, k1, k2⟩, x1, x2, x3, x4, x5, x6, x7, x8, x9, -⟩ := FZ.out W hW; go_simp; try with_reducible rfl⟩) hF ?_
    go_frame
    refine F_take (i := 4) (d := some 45) (by kernel_rfl) (by kernel_rfl) (by decide) (s' := #[true, true, true, true, true, false, false, false]) (by kernel_rfl) rfl rfl (by kernel_rfl) (by kernel_rfl) (by kernel_rfl) (fun _ _ _ h => h) (Or.inl ⟨by kernel_rfl, fun W hW => by obtain ⟨x0, ⟨k0, k1, k2⟩, x1, x2, x3, x4, x5, x6, x7, x8, x9, -⟩ := FZ.out W hW; go_simp; try with_reducible rfl⟩) hF ?_
    go_frame
    refine F_take (i := 5) (d := some 46) (by kernel_rfl) (by kernel_rfl) (by decide) (s' := #[true, true, true, true, true, true, false, false]) (by kernel_rfl) rfl rfl (by kernel_rfl) (by kernel_rfl) (by kernel_rfl) (fun _ _ _ h => h) (Or.inl ⟨by kernel_rfl, fun W hW => by obtain ⟨x0, ⟨k0, k1, k2⟩, x1, x2, x3, x4, x5, x6, x7, x8, x9, -⟩ := FZ.out W hW; go_simp; try with_reducible rfl⟩) hF ?_
    go_frame
    refine F_one (i := 6) (s' := #[true, true, true, true, true, true, true, false]) (by kernel_rfl) (by kernel_rfl) (wpOp_enterL (i := 6) (d := some 47) (f := 51) (args := #[.agg #[.int .i64 y1, .int .i64 y2, .int .i64 y3, .int .i64 y4, .int .i64 y5, .int .i64 y6, .int .i64 y7, .slice ka nl kc, .slice ma nm mc]]) rfl rfl (by kernel_rfl) (by go_simp) ((HS.out wd (below_trans Hb6.out Hb6.out.size hF)).mono ?_))
    rintro r v6w ⟨va', vb', rfl, oa, ob, hb8⟩
    obtain ⟨Aa, ca, rfl⟩ : ∃ A c, va' = .slice A nl c := by obtain ⟨A, c, e⟩ := oa.shape; exact ⟨A, c, by rw [e, Hlen.out.2.2.1]⟩
    obtain ⟨Ab, cb, rfl⟩ : ∃ A c, vb' = .slice A nm c := by obtain ⟨A, c, e⟩ := ob.shape; exact ⟨A, c, by rw [e, Hlen.out.2.2.2]⟩
    have hszd := (below_trans Hb6.out Hb6.out.size hF).size
    have Hfa := Lib.hid (show ∀ a, Aa = some a → w.heap.size ≤ a.block from fun a e => Nat.le_trans hszd (OwnR.block oa _ (by rw [e]; rfl)).1)
    have Hfb := Lib.hid (show ∀ a, Ab = some a → w.heap.size ≤ a.block from fun a e => Nat.le_trans hszd (OwnR.block ob _ (by rw [e]; rfl)).1)
    clear hszd
    have ra := (OwnR.rows (C := 4) (cells := Lnk.cells) (fun _ => rfl) oa).2
    have rb := (OwnR.rows (C := 1) (cells := icell) (fun _ => rfl) ob).2
    have hF := below_trans hF hF.size hb8
    have hd8 := Hd6.out.keep hF
    obtain ⟨sh, hsh⟩ : ∃ sh, sealedH ⟨y1, y2, y3, y4, y5, y6, y7⟩ ls ms = sh := ⟨_, rfl⟩
    obtain ⟨w9, hrun, hm9, hg9, -⟩ := hd8.map.update_run (P := Tryz.prog) keyK3 Tryz.underlying112 ⟨y2, y3, y4⟩ (.agg #[.int .i64 y1, .int .i64 y2, .int .i64 y3, .int .i64 y4, .int .i64 y5, .int .i64 sh.sum, .int .i64 sh.long, .slice Aa nl ca, .slice Ab nm cb])
    simp only [K3.enc] at hrun
    refine ⟨_, rfl, fun _ => hF, ?_⟩
    rw [hsh]
    go_frame
    refine F_one (i := 7) (s' := #[true, true, true, true, true, true, true, true]) (by kernel_rfl) (by kernel_rfl) (wpOp_skipL (i := 7) (w' := w9) rfl rfl (by kernel_rfl) (by go_simp) ⟨fun h => absurd h (by decide), ?_⟩)
    go_frame
    refine F_done (by kernel_rfl) ?_ _
    have hval : (.agg #[.int .i64 y1, .int .i64 y2, .int .i64 y3, .int .i64 y4, .int .i64 y5, .int .i64 sh.sum, .int .i64 sh.long, .slice Aa nl ca, .slice Ab nm cb] : Value) = (⟨sealedH ⟨y1, y2, y3, y4, y5, y6, y7⟩ ls ms, Aa, ca, ls, Ab, cb, ms⟩ : Lsa).val := by
      unfold Lsa.val Lsa.cells
      simp only
      rw [← Hlen.out.2.2.1, ← Hlen.out.2.2.2, hsh]
      rw [← hsh]
      rfl
    rw [hval, show (⟨y2, y3, y4⟩ : K3) = keyH (sealedH ⟨y1, y2, y3, y4, y5, y6, y7⟩ ls ms) from rfl] at hm9
    have hm9' := hm9
    rw [setL_db (⟨sealedH ⟨y1, y2, y3, y4, y5, y6, y7⟩ ls ms, Aa, ca, ls, Ab, cb, ms⟩ : Lsa)] at hm9'
    have hd9 := Lib.hid (hd8.turned hg9 hm9' (fun x hx => (setX_mem hx).elim .inl (fun e => .inr (by subst e; exact ⟨⟨rows_map (fun _ => rfl) (by decide) ra hd8.map hg9, rows_map (fun _ => rfl) (by decide) rb hd8.map hg9⟩, Hlen.out.1, Hlen.out.2.1⟩))))
    have hgw := Lib.hid (grown_trans (grown_below (World.grownBy.refl w (some b)) (below_trans Hb6.out Hb6.out.size hF)) hg9)
    clear hm9 hm9' hg9 hrun hval ra rb oa ob hb8 hd8 hF hsh
    go_wp2
    go_ret
    exact ⟨rfl, ⟨Aa, ca, Ab, cb, Hfa.out, Hfb.out, hd9.out⟩, hgw.out⟩

end Go.Proofs.YtpnbibokddhheaaGreat

/-
  Layer 7: a description is not put: it is not right, or there is no room.
-/
namespace Go.Proofs.YtpnbibokddhheaaGreat
open Go.RowKit

theorem below_drew2 {B : Nat} {a w : World} (h : Below B a w) : Below B a w.drew := below_drewN h 1
set_option maxHeartbeats 4000000 in
set_option maxRecDepth 100000 in
theorem DbPut_bad (p : Nat) (y1 y2 y3 y4 y5 y6 y7 : Int) (ka : Option Addr) (kc : Nat) (ls : List Lnk) (ma : Option Addr) (mc : Nat) (ms : List Int) (w : World) (hl : RowsAt 4 Lnk.cells w w.heap.size ka ls) (hm : RowsAt 1 icell w w.heap.size ma ms) (hlm : ls.length ≤ maxLen) (hmm : ms.length ≤ maxLen) (nl nm : Nat) (hnl : nl = ls.length) (hnm : nm = ms.length)
    (ht : rightB ⟨⟨y1, y2, y3, y4, y5, y6, y7⟩, ka, kc, ls, ma, mc, ms⟩ = false) :
    Calls Tryz.prog 24 #[.pointer (some ⟨p, 0, none⟩), .agg #[.int .i64 y1, .int .i64 y2, .int .i64 y3, .int .i64 y4, .int .i64 y5, .int .i64 y6, .int .i64 y7, .slice ka nl kc, .slice ma nm mc]] w fun r w' => r = .returned (.int .i64 1) ∧ Below w.heap.size w w' := by
  obtain ⟨w1, hW1⟩ : ∃ w1, w.alloc (.cells #[.int .i64 y1, .int .i64 y2, .int .i64 y3, .int .i64 y4, .int .i64 y5, .int .i64 y6, .int .i64 y7, .slice ka nl kc, .slice ma nm mc] 31) = w1 := ⟨_, rfl⟩
  have hk1 := Blk.new w 31 #[.int .i64 y1, .int .i64 y2, .int .i64 y3, .int .i64 y4, .int .i64 y5, .int .i64 y6, .int .i64 y7, .slice ka nl kc, .slice ma nm mc]
  have hb1 := below_new w (.cells #[.int .i64 y1, .int .i64 y2, .int .i64 y3, .int .i64 y4, .int .i64 y5, .int .i64 y6, .int .i64 y7, .slice ka nl kc, .slice ma nm mc] 31)
  rw [hW1] at hk1 hb1
  have HR := Lib.hid (lsaRight_any y1 y2 y3 y4 y5 y6 y7 ka kc ls ma mc ms w1 w1.heap.size (rows_keep hl hb1) (rows_keep hm hb1) (Nat.le_refl _) hlm hmm nl nm hnl hnm ht)
  have Hb1 := Lib.hid hb1
  obtain ⟨z0, z1, z2, z3, z4, z5, z6, z7, z8, zf⟩ := blk9 hk1
  clear hk1 hb1 hl hm hlm hmm hnl hnm ht
  go_enter Tryz.func24, Tryz.ntmps24
  go_wp2_with (go_at_call 50; (with_reducible refine Calls.mono HR.out ?_); rintro r w2 ⟨rfl, hb2⟩; have Hb2 := Lib.hid (below_trans Hb1.out Hb1.out.size hb2); clear hb2)
  go_ret
  exact ⟨rfl, Hb2.out⟩
set_option maxHeartbeats 8000000 in
set_option maxRecDepth 100000 in
theorem DbPut_full (p b : Nat) (room : Int) (M : List Lsa) (y1 y2 y3 y4 y5 y6 y7 : Int) (ka : Option Addr) (kc : Nat) (ls : List Lnk) (ma : Option Addr) (mc : Nat) (ms : List Int) (w : World) (h : DbAt w p b room M) (hl : RowsAt 4 Lnk.cells w w.heap.size ka ls) (hm : RowsAt 1 icell w w.heap.size ma ms) (hlm : ls.length ≤ 1000) (hmm : ms.length ≤ 1000) (nl nm : Nat) (hnl : nl = ls.length) (hnm : nm = ms.length)
    (ht : rightB ⟨⟨y1, y2, y3, y4, y5, y6, y7⟩, ka, kc, ls, ma, mc, ms⟩ = true) (his : (getX ⟨y2, y3, y4⟩ M).isSome = false) (hroom : (M.length : Int) = room) :
    Calls Tryz.prog 24 #[.pointer (some ⟨p, 0, none⟩), .agg #[.int .i64 y1, .int .i64 y2, .int .i64 y3, .int .i64 y4, .int .i64 y5, .int .i64 y6, .int .i64 y7, .slice ka nl kc, .slice ma nm mc]] w fun r w' => r = .returned (.int .i64 7) ∧ Below w.heap.size w w' := by
  obtain ⟨w1, hW1⟩ : ∃ w1, w.alloc (.cells #[.int .i64 y1, .int .i64 y2, .int .i64 y3, .int .i64 y4, .int .i64 y5, .int .i64 y6, .int .i64 y7, .slice ka nl kc, .slice ma nm mc] 31) = w1 := ⟨_, rfl⟩
  have hk1 := Blk.new w 31 #[.int .i64 y1, .int .i64 y2, .int .i64 y3, .int .i64 y4, .int .i64 y5, .int .i64 y6, .int .i64 y7, .slice ka nl kc, .slice ma nm mc]
  have hb1 := below_new w (.cells #[.int .i64 y1, .int .i64 y2, .int .i64 y3, .int .i64 y4, .int .i64 y5, .int .i64 y6, .int .i64 y7, .slice ka nl kc, .slice ma nm mc] 31)
  rw [hW1] at hk1 hb1
  have HR := Lib.hid (lsaRight_any y1 y2 y3 y4 y5 y6 y7 ka kc ls ma mc ms w1 w1.heap.size (rows_keep hl hb1) (rows_keep hm hb1) (Nat.le_refl _) (by unfold maxLen; omega) (by unfold maxLen; omega) nl nm hnl hnm ht)
  have Hlen : Hid (ls.length ≤ 1000 ∧ ms.length ≤ 1000 ∧ nl = ls.length ∧ nm = ms.length) := Lib.hid ⟨hlm, hmm, hnl, hnm⟩
  have H := Lib.hid h
  have Hb1 := Lib.hid hb1
  have Hk1 := Lib.hid hk1
  have His := Lib.hid his
  have Hroom := Lib.hid hroom
  obtain ⟨z0, z1, z2, z3, z4, z5, z6, z7, z8, zf⟩ := blk9 hk1
  clear hk1 hb1 hl hm hlm hmm hnl hnm ht his hroom h
  go_enter Tryz.func24, Tryz.ntmps24
  go_upto_region 6 with (first
    | (go_at_call 50; (with_reducible refine Calls.mono HR.out ?_); rintro r w2 ⟨rfl, hb2⟩; obtain ⟨x0, x1, x2, x3, x4, x5, x6, x7, x8, xf⟩ := blk9 (Hk1.out.below hb2 Hk1.out.lt); have Hb2 := Lib.hid hb2; clear hb2)
    | (go_at_call 23; (with_reducible refine Calls.mono (keyOf_any _ _ _ _ _ _ _ _) ?_); rintro r w3 ⟨rfl, hb3⟩; have Hb3 := Lib.hid hb3; clear hb3))
  obtain ⟨w5, hw5⟩ : ∃ w5, w3.alloc (.cells #[.int .i64 y2, .int .i64 y3, .int .i64 y4] 69) = w5 := ⟨_, rfl⟩
  have hb5 := below_new w3 (.cells #[.int .i64 y2, .int .i64 y3, .int .i64 y4] 69)
  have hk5 : Blk w5 w3.heap.size 69 #[.int .i64 y2, .int .i64 y3, .int .i64 y4] := by rw [← hw5]; exact Blk.new w3 _ _
  rw [hw5] at hb5 ⊢
  have hbw5 := below_trans Hb1.out Hb1.out.size (below_trans Hb2.out Hb2.out.size (below_trans Hb3.out Hb3.out.size hb5))
  have hx5 : Blk w5 w.heap.size 31 #[.int .i64 y1, .int .i64 y2, .int .i64 y3, .int .i64 y4, .int .i64 y5, .int .i64 y6, .int .i64 y7, .slice ka nl kc, .slice ma nm mc] := ((Hk1.out.below Hb2.out Hk1.out.lt).below Hb3.out (Hk1.out.below Hb2.out Hk1.out.lt).lt).below hb5 ((Hk1.out.below Hb2.out Hk1.out.lt).below Hb3.out (Hk1.out.below Hb2.out Hk1.out.lt).lt).lt
  have hd5 := H.out.keep hbw5
  have Hbw5 := Lib.hid hbw5
  have Hd5 := Lib.hid hd5
  have Hk5 := Lib.hid hk5
  have Hx5 := Lib.hid hx5
  clear hw5 hb5 hbw5 hk5 hx5 hd5 z0 z1 z2 z3 z4 z5 z6 z7 z8 zf x0 x1 x2 x3 x4 x5 x6 x7 x8 xf
  have hl := Hd5.out.map.drew.look_run keyK3 Tryz.underlying112 (zeroXv _) ⟨y2, y3, y4⟩ true
  have hl2 := fun o => (Hd5.out.map.alloc o).drew.look_run keyK3 Tryz.underlying112 (zeroXv _) ⟨y2, y3, y4⟩ true
  simp only [if_true, K3.enc] at hl hl2
  obtain ⟨e1, e2⟩ := getL_valX ⟨y2, y3, y4⟩ M
  rw [His.out] at e2
  obtain ⟨u, hu⟩ : ∃ u, (getX ⟨y2, y3, y4⟩ M).getD zeroX = u := ⟨_, rfl⟩
  rw [hu] at e1
  rw [e1, e2] at hl hl2
  obtain ⟨⟨u1, u2, u3, u4, u5, u6, u7⟩, xa, xc, xs, va, vc, vs⟩ := u
  unfold Lsa.val Lsa.cells at hl hl2
  simp only at hl hl2
  obtain ⟨xl, hxl⟩ : ∃ xl, xs.length = xl := ⟨_, rfl⟩
  obtain ⟨vl, hvl⟩ : ∃ vl, vs.length = vl := ⟨_, rfl⟩
  rw [hxl, hvl] at hl hl2
  clear e1 e2 hu hxl hvl
  obtain ⟨z0, z1, z2, z3⟩ : _ ∧ _ ∧ _ ∧ _ := ⟨Hk5.out.cell 0, Hk5.out.cell 1, Hk5.out.cell 2, Hd5.out.ptr.cell 1⟩
  obtain ⟨c0, c1, c2, c3⟩ : _ ∧ _ ∧ _ ∧ _ := ⟨fun o => (Hk5.out.alloc o).cell 0, fun o => (Hk5.out.alloc o).cell 1, fun o => (Hk5.out.alloc o).cell 2, fun o => (Hd5.out.ptr.alloc o).cell 1⟩
  simp only [List.getElem?_toArray, List.getElem?_cons_zero, List.getElem?_cons_succ] at c0 c1 c2 c3 z0 z1 z2 z3
  go_region
  obtain ⟨w6, hw6⟩ : ∃ w6, (w5.alloc (.cells #[.int .i64 u1, .int .i64 u2, .int .i64 u3, .int .i64 u4, .int .i64 u5, .int .i64 u6, .int .i64 u7, .slice xa xl xc, .slice va vl vc] 31)).drew = w6 := ⟨_, rfl⟩
  have hb6 : Below w5.heap.size w5 w6 := by rw [← hw6]; exact (below_new w5 _).drew
  rw [hw6]
  have hd6 := Hd5.out.keep hb6
  have hk6 := Hk5.out.below hb6 Hk5.out.lt
  have hx6 := Hx5.out.below hb6 Hx5.out.lt
  have Hb6 := Lib.hid (below_trans Hbw5.out Hbw5.out.size hb6)
  have Hd6 := Lib.hid hd6
  have Hk6 := Lib.hid hk6
  have Hx6 := Lib.hid hx6
  clear hw6 hb6 hd6 hk6 hx6 z0 z1 z2 z3 c0 c1 c2 c3 hl hl2
  obtain ⟨z0, z1⟩ : _ ∧ _ := ⟨Hd6.out.ptr.cell 0, Hd6.out.ptr.cell 1⟩
  simp only [List.getElem?_toArray, List.getElem?_cons_zero, List.getElem?_cons_succ] at z0 z1
  have hML : (dbL M).length = M.length := by simp [dbL]
  have hln := fun t => Hd6.out.map.drew.len_run (P := Tryz.prog) Tryz.underlying112 t
  rw [hML] at hln
  clear hML
  go_upto_region 7 with fail
  have hr := Hroom.out
  subst hr
  go_region
  go_wp2
  go_ret
  exact ⟨rfl, below_drew2 Hb6.out⟩

end Go.Proofs.YtpnbibokddhheaaGreat

/-
  Layer 7: the document's database in memory; a new one; where a key stands.
-/
namespace Go.Proofs.YtpnbibokddhheaaGreat
open Go.RowKit Go.Sort

theorem refKey_any (a b c d e f g : Int) (x1 : Option Addr) (n1 c1 : Nat) (x2 : Option Addr) (n2 c2 : Nat) (w : World) : Calls Tryz.prog 75 #[.agg #[.int .i64 a, .int .i64 b, .int .i64 c, .int .i64 d, .int .i64 e, .int .i64 f, .int .i64 g, .slice x1 n1 c1, .slice x2 n2 c2]] w
    fun r w' => r = .returned (.agg #[.int .i64 b, .int .i64 c, .int .i64 d]) ∧ Below w.heap.size w w' := by
  go_enter Tryz.func75, Tryz.ntmps75
  go_wp2
  refine bodyPost_ret (v := .agg #[.int .i64 b, .int .i64 c, .int .i64 d]) (by simp [results, Tryz.results75, go_sem]) rfl ⟨rfl, ?_⟩
  exact ((Below.refl _ _).alloc (Nat.le_refl _) _).alloc (by simp) _
theorem eqKey7 (a b c a' b' c' : Int) (w : World) : (Op.equalIn 10000 69 (.agg #[.int .i64 a, .int .i64 b, .int .i64 c]) (.agg #[.int .i64 a', .int .i64 b', .int .i64 c'])).run Tryz.prog w = .ok (decide ((⟨a, b, c⟩ : K3) = ⟨a', b', c'⟩)) w := by
  rw [eqKey]
  congr 1
  by_cases h1 : a = a' <;> by_cases h2 : b = b' <;> by_cases h3 : c = c' <;> simp [h1, h2, h3]

/-- the document's database: the pointer's block, the room, the row -/
structure RdAt (W : World) (q : Nat) (room : Int) (v : Value) (L : List Lsa) : Prop where
  ptr : Blk W q 61 #[v, .int .i64 room]
  xs : XsAt W (q + 1) v L
section
variable {W W' : World} {q : Nat} {room : Int} {v : Value} {L : List Lsa}
theorem RdAt.keep (h : RdAt W q room v L) (hb : Below W.heap.size W W') : RdAt W' q room v L := ⟨h.ptr.below hb h.ptr.lt, h.xs.keep hb⟩
theorem RdAt.cell (h : RdAt W q room v L) : W.cell? ⟨q, 0, none⟩ = some v ∧ W.cell? ⟨q, 1, none⟩ = some (.int .i64 room) := ⟨h.ptr.cell 0, h.ptr.cell 1⟩
theorem RdAt.store {v' : Value} {L' : List Lsa} (h : RdAt W q room v L) (hx : XsAt W (q + 1) v' L') : RdAt (W.setCell ⟨q, 0, none⟩ v') q room v' L' := by
  refine ⟨by simpa using h.ptr.set_ 0 v', ⟨?_, fun x hx' => (hx.rows x hx').grown (grown_set W q 0 v') (fun a ha e => ?_), hx.far, hx.from_, hx.lens⟩⟩
  · refine hx.own.kept (grown_set W q 0 v') ?_
    cases hv : v'.ownBlock with
    | none => exact .inl rfl
    | some k => right; intro e; have := (hx.own.block k hv).1; injection e with e; omega
  · injection e with e
    rcases ha with ⟨e1, h0⟩ | ⟨e1, h0⟩
    · have := (hx.from_ x hx').1 a e1 h0; omega
    · have := (hx.from_ x hx').2 a e1 h0; omega
end
set_option maxHeartbeats 1000000 in
theorem RdNew40 (w : World) : Calls Tryz.prog 35 #[.int .i64 40] w fun r w' => r = .returned (.pointer (some ⟨w.heap.size, 0, none⟩)) ∧ RdAt w' w.heap.size 40 (.slice none 0 0) [] ∧ Below w.heap.size w w' := by
  go_enter Tryz.func35, Tryz.ntmps35
  go_wp2
  go_ret
  exact ⟨rfl, ⟨Blk.new _ _ _, XsAt.nil _ _⟩, below_new _ _⟩

set_option maxHeartbeats 4000000 in
set_option maxRecDepth 100000 in
theorem rdFind (q : Nat) (room : Int) (v : Value) (L : List Lsa) (k1 k2 k3 : Int) (w : World) (hR : RdAt w q room v L) (hlen : L.length ≤ 2 ^ 20) {z : Int} (hz : findX ⟨k1, k2, k3⟩ L = z) :
    Calls Tryz.prog 74 #[.pointer (some ⟨q, 0, none⟩), .agg #[.int .i64 k1, .int .i64 k2, .int .i64 k3]] w fun r w' => r = .returned (.int .i64 z) ∧ Below w.heap.size w w' := by
  obtain ⟨A, cap, hv⟩ := hR.xs.own.shape
  subst hv
  obtain ⟨w0, hW0⟩ : ∃ w0, w.alloc (.cells #[.int .i64 k1, .int .i64 k2, .int .i64 k3] 69) = w0 := ⟨_, rfl⟩
  have hb0 := below_new w (.cells #[.int .i64 k1, .int .i64 k2, .int .i64 k3] 69)
  have hR1 := hR.keep hb0
  have hk0 := Blk.new w 69 #[.int .i64 k1, .int .i64 k2, .int .i64 k3]
  rw [hW0] at hR1 hk0 hb0
  have HR1 := Lib.hid hR1
  have Hk := Lib.hid hk0
  have Hb0 := Lib.hid hb0
  have Hz := Lib.hid hz
  clear hR hR1 hz hk0 hb0
  have CK := Lib.hid (fun w0 a b c d e f g x1 n1 c1 x2 n2 c2 dd os => Calls.regrown_of (w := w0) (d := dd) (os := os) (refKey_any a b c d e f g x1 n1 c1 x2 n2 c2 _))
  go_enter Tryz.func74, Tryz.ntmps74
  go_wp2
  go_loopw [5] (fun i wr => ∃ k : Nat, i = .int .i64 k ∧ k ≤ L.length ∧ (∀ j, (hj : j < k) → (hl : j < L.length) → keyX L[j] ≠ ⟨k1, k2, k3⟩) ∧ Below w0.heap.size w0 wr) (fun i _ => L.length - (intOf i).toNat)
  case atStart => exact ⟨0, rfl, Nat.zero_le _, fun j hj => absurd hj (by omega), Below.refl _ _⟩
  case round =>
    obtain ⟨k, rfl, hk, h0, hb⟩ := hrel
    have hRr := HR1.out.keep hb
    have hkr := Hk.out.below hb Hk.out.lt
    have hc := hRr.cell.1
    have H0 := Lib.hid h0
    have Hb := Lib.hid hb
    by_cases hlt : k < L.length
    · obtain ⟨g, c, hv, z0, z1, z2, z3, z4, z5, z6, z7, z8⟩ := row_at hRr.xs.own k hlt
      injection hv with hA hn hcap
      subst hA hcap
      have hkl : (k : Int) < (L.length : Int) := by omega
      have hat := fun he => findX_at hlt he h0
      have hmore : keyX L[k] ≠ ⟨k1, k2, k3⟩ → ∀ j, (hj : j < k + 1) → (hl : j < L.length) → keyX L[j] ≠ ⟨k1, k2, k3⟩ := by
        intro hne j hj hl
        by_cases hjk : j = k
        · subst hjk; exact hne
        · exact h0 j (by omega) hl
      have Hmore := Lib.hid hmore
      have Hat := Lib.hid hat
      have hcr := cell_regrown hc
      obtain ⟨y0, y1, y2⟩ : _ ∧ _ ∧ _ := ⟨cell_regrown (hkr.cell 0), cell_regrown (hkr.cell 1), cell_regrown (hkr.cell 2)⟩
      have z0 := cell_regrown z0
      have z1 := cell_regrown z1
      have z2 := cell_regrown z2
      have z3 := cell_regrown z3
      have z4 := cell_regrown z4
      have z5 := cell_regrown z5
      have z6 := cell_regrown z6
      have z7 := cell_regrown z7
      have z8 := cell_regrown z8
      clear hRr hkr h0 hb hmore hat hn
      generalize L[k] = e at *
      obtain ⟨⟨e1, e2, e3, e4, e5, e6, e7⟩, ka, kc, ls, ma, mc, ms⟩ := e
      simp only at z0 z1 z2 z3 z4 z5 z6 z7 z8
      have heq := fun w => eqKey7 e2 e3 e4 k1 k2 k3 w
      obtain ⟨t, ht⟩ : ∃ t, decide ((⟨e2, e3, e4⟩ : K3) = ⟨k1, k2, k3⟩) = t := ⟨_, rfl⟩
      rw [ht] at heq
      have Ht := Lib.hid ht
      clear ht
      go_wp2_with fail
      refine wp_below_tail 9 (by kernel_rfl) (by kernel_rfl) ?_
      simp only [List.take_succ_cons, List.take_zero, List.drop_succ_cons, List.drop_zero]
      repeat (go_big_quiet_step (exact CK.out _ _ _ _ _ _ _ _ _ _ _ _ _ _ _ _))
      refine wpQuiet_nil ?_
      rintro w3 ⟨⟨dq, osq⟩, rfl⟩
      have hb3 := below_regrown wr dq osq
      have Hb3 := Lib.hid (Hb.out.trans (hb3.mono Hb.out.size))
      clear hb3
      generalize grow (redrawn wr dq) osq = w3 at *
      cases t
      · have Hm2 := Lib.hid (Hmore.out (by have := Ht.out; simpa [keyX, keyH] using this))
        go_wp2
        go_roundw
        case measure => simp [intOf]; omega
        case rel => exact ⟨k + 1, by go_num, hlt, Hm2.out, Hb3.out⟩
      · have hz2 : z = k := by rw [← Hz.out]; exact Hat.out (by have := Ht.out; simpa [keyX, keyH] using this)
        subst hz2
        go_wp2
        go_ret
        exact ⟨rfl, Hb0.out.trans (Hb3.out.mono Hb0.out.size)⟩
    · have hkk : k = L.length := by omega
      subst hkk
      have hz2 : z = -1 := by rw [← Hz.out]; exact findX_none fun j hj => H0.out j hj hj
      subst hz2
      clear hRr hkr h0 hb
      go_wp2
      go_ret
      exact ⟨rfl, Hb0.out.trans (Hb.out.mono Hb0.out.size)⟩

end Go.Proofs.YtpnbibokddhheaaGreat

/-
  Layer 7: whatever is put into a database.
-/
namespace Go.Proofs.YtpnbibokddhheaaGreat
open Go.RowKit Go.Sort

def PutOk (M : List Lsa) (x : Lsa) : Prop := rightB x = true ∧ ((getX (keyX x) M).isSome = true ∨ (M.length : Int) ≠ 40)
def PutOkL (L : List Lsa) (x : Lsa) : Prop := rightB x = true ∧ (0 ≤ findX (keyX x) L ∨ (L.length : Int) < 40)
def sealV (x : Lsa) : VX := (sealedH x.head x.links x.members, x.links, x.members)
/-- what a put makes of what was had -/
def PutM (B : Nat) (M : List Lsa) (x : Lsa) (M' : List Lsa) : Prop :=
  (PutOk M x ∧ ∃ Aa ca Ab cb, (∀ a, Aa = some a → B ≤ a.block) ∧ (∀ a, Ab = some a → B ≤ a.block) ∧ M' = setX ⟨sealedH x.head x.links x.members, Aa, ca, x.links, Ab, cb, x.members⟩ M) ∨ (¬ PutOk M x ∧ M' = M)
def PutL (L : List Lsa) (x : Lsa) (L' : List Lsa) : Prop := (PutOkL L x ∧ ∃ z, vX z = sealV x ∧ L' = insX z (dropX (keyX x) L)) ∨ (¬ PutOkL L x ∧ L' = L)
theorem keyX_seal {x z : Lsa} (h : vX z = sealV x) : keyX z = keyX x := by
  rw [← keyV_vX, h]
  unfold keyV sealV keyX keyH
  simp only [sealedH]
theorem putOk_iff {M L : List Lsa} (h : DEq M L) (hl : M.length ≤ 40) (x : Lsa) : PutOk M x ↔ PutOkL L x := by
  have hlen := h.len
  unfold PutOk PutOkL
  rcases h.find (keyX x) with ⟨h1, h2, -⟩ | ⟨a, j, hj, h1, h2, -⟩
  · rw [h1]
    simp only [Option.isSome_none, Bool.false_eq_true, false_or]
    constructor
    · rintro ⟨h3, h4⟩; exact ⟨h3, .inr (by omega)⟩
    · rintro ⟨h3, h4 | h4⟩
      · omega
      · exact ⟨h3, by omega⟩
  · rw [h1]
    simp only [Option.isSome_some, true_or, and_true]
    constructor
    · intro h3; exact ⟨h3, .inl (by omega)⟩
    · exact fun h3 => h3.1
theorem setX_len (y : Lsa) : ∀ M : List Lsa, (setX y M).length = if (getX (keyX y) M).isSome = true then M.length else M.length + 1
  | [] => rfl
  | x :: M => by
    have ih := setX_len y M
    unfold setX getX
    by_cases h : keyH x.head = keyH y.head
    · have h' : keyH x.head = keyX y := h
      rw [if_pos h, if_pos h']
      simp
    · have h' : ¬ keyH x.head = keyX y := h
      rw [if_neg h, if_neg h', List.length_cons, ih, List.length_cons]
      split <;> rfl
theorem put_both {B : Nat} {M M' L L' : List Lsa} {x : Lsa} (h : DEq M L) (hl : M.length ≤ 40) (h1 : PutM B M x M') (h2 : PutL L x L') : DEq M' L' ∧ M'.length ≤ 40 := by
  have hi := putOk_iff h hl x
  rcases h1 with ⟨c1, Aa, ca, Ab, cb, -, -, rfl⟩ | ⟨c1, rfl⟩
  · rcases h2 with ⟨-, z, hz, rfl⟩ | ⟨c2, -⟩
    · have hk := keyX_seal hz
      rw [← hk]
      refine ⟨h.put (show vX _ = vX z by rw [hz]; rfl), ?_⟩
      rw [setX_len]
      have hky : keyX ⟨sealedH x.head x.links x.members, Aa, ca, x.links, Ab, cb, x.members⟩ = keyX x := keyX_seal rfl
      rw [hky]
      rcases c1.2 with c | c
      · rw [if_pos c]; exact hl
      · split <;> omega
    · exact absurd (hi.1 c1) c2
  · rcases h2 with ⟨c2, -⟩ | ⟨-, rfl⟩
    · exact absurd (hi.2 c2) c1
    · exact ⟨h, hl⟩
def DbPost (w w' : World) (p b : Nat) (M : List Lsa) (x : Lsa) : Prop := ∃ M', PutM w.heap.size M x M' ∧ DbAt w' p b 40 M'
def someInt (r : Ending) : Prop := ∃ e : Int, r = .returned (.int .i64 e)
theorem dbPut_any (p b : Nat) (M : List Lsa) (y1 y2 y3 y4 y5 y6 y7 : Int) (ka : Option Addr) (kc : Nat) (ls : List Lnk) (ma : Option Addr) (mc : Nat) (ms : List Int) (w : World) (h : DbAt w p b 40 M) (hl : RowsAt 4 Lnk.cells w w.heap.size ka ls) (hm : RowsAt 1 icell w w.heap.size ma ms) (hlm : ls.length ≤ 1000) (hmm : ms.length ≤ 1000) (nl nm : Nat) (hnl : nl = ls.length) (hnm : nm = ms.length) :
    Calls Tryz.prog 24 #[.pointer (some ⟨p, 0, none⟩), .agg #[.int .i64 y1, .int .i64 y2, .int .i64 y3, .int .i64 y4, .int .i64 y5, .int .i64 y6, .int .i64 y7, .slice ka nl kc, .slice ma nm mc]] w fun r w' => someInt r ∧ DbPost w w' p b M ⟨⟨y1, y2, y3, y4, y5, y6, y7⟩, ka, kc, ls, ma, mc, ms⟩ ∧ w.grownBy w' (some b) := by
  by_cases ht : rightB ⟨⟨y1, y2, y3, y4, y5, y6, y7⟩, ka, kc, ls, ma, mc, ms⟩ = true
  · by_cases hr : (getX ⟨y2, y3, y4⟩ M).isSome = true ∨ (M.length : Int) ≠ 40
    · refine (DbPut_ok p b 40 M y1 y2 y3 y4 y5 y6 y7 ka kc ls ma mc ms w h hl hm hlm hmm nl nm hnl hnm ht rfl hr).mono ?_
      rintro r w' ⟨rfl, ⟨Aa, ca, Ab, cb, h1, h2, h3⟩, hg⟩
      exact ⟨⟨0, rfl⟩, ⟨_, .inl ⟨⟨ht, hr⟩, Aa, ca, Ab, cb, h1, h2, rfl⟩, h3⟩, hg⟩
    · have h1 : (getX ⟨y2, y3, y4⟩ M).isSome = false := by
        cases hs : (getX ⟨y2, y3, y4⟩ M).isSome with
        | false => rfl
        | true => exact absurd (.inl hs) hr
      have h2 : (M.length : Int) = 40 := Decidable.byContradiction fun c => hr (.inr c)
      refine (DbPut_full p b 40 M y1 y2 y3 y4 y5 y6 y7 ka kc ls ma mc ms w h hl hm hlm hmm nl nm hnl hnm ht h1 h2).mono ?_
      rintro r w' ⟨rfl, hb⟩
      exact ⟨⟨7, rfl⟩, ⟨M, .inr ⟨fun c => hr c.2, rfl⟩, h.keep hb⟩, grown_below (World.grownBy.refl w (some b)) hb⟩
  · refine (DbPut_bad p y1 y2 y3 y4 y5 y6 y7 ka kc ls ma mc ms w hl hm (by unfold maxLen; omega) (by unfold maxLen; omega) nl nm hnl hnm (by simpa using ht)).mono ?_
    rintro r w' ⟨rfl, hb⟩
    exact ⟨⟨1, rfl⟩, ⟨M, .inr ⟨fun c => ht c.1, rfl⟩, h.keep hb⟩, grown_below (World.grownBy.refl w (some b)) hb⟩
theorem blk_nemap4 {κ : Type} {enc : κ → Value} {L : List (κ × Value)} {W : World} {g b : Nat} {t : TypeId} {cs : Array Value} (hb : Blk W g t cs) (hm : MapAt enc W b L) : g ≠ b := by
  rintro rfl
  obtain ⟨es, clock, h1, -⟩ := hm
  unfold Blk at hb
  rw [h1] at hb
  cases hb
theorem own_nemap {κ α : Type} {enc : κ → Value} {S : List (κ × Value)} {W : World} {b B C : Nat} {e : TypeId} {cells : α → List Value} {v : Value} {L : List α} (h : OwnR e C cells W B v L) (hm : MapAt enc W b S) : v.ownBlock ≠ some b := by
  intro e1
  obtain ⟨es, clock, h1, -⟩ := hm
  rcases h.2 with ⟨rfl, -⟩ | ⟨g, cap, cur, rfl, -, hg, -⟩
  · cases e1
  · have : g = b := by injection e1
    subst this
    rw [h1] at hg
    cases hg
theorem row_nemap {κ α : Type} {enc : κ → Value} {S : List (κ × Value)} {W : World} {B C b : Nat} {cells : α → List Value} {A : Option Addr} {R : List α} (hC : ∀ x, (cells x).length = C) (hC0 : 0 < C) (h : RowsAt C cells W B A R) (hm : MapAt enc W b S) (a : Addr) (ea : A = some a) (h0 : 0 < R.length) : some b ≠ some a.block := by
  intro e
  injection e with e
  obtain ⟨b', o, e2, -, hc⟩ := h h0
  rw [ea] at e2
  injection e2 with e2
  subst e2
  have hlt : 0 < (cells R[0]).length := by rw [hC]; exact hC0
  have h1 := hc 0 h0 0 _ hC0 (List.getElem?_eq_getElem hlt)
  obtain ⟨es, clock, hb', -⟩ := hm
  simp only at e
  subst e
  simp [World.cell?, hb'] at h1
def ages13 (M : List Lsa) : Prop := ∀ y ∈ M, 0 ≤ y.head.age ∧ y.head.age ≤ 60
theorem right_age {x : Lsa} (hr : rightB x = true) : 0 ≤ x.head.age ∧ x.head.age ≤ 60 := by
  unfold rightB at hr
  rw [Bool.and_eq_true] at hr
  have h1 := hr.1
  unfold headB at h1
  simp only [Bool.and_eq_true, inB_iff] at h1
  exact h1.1.1.1
theorem putM_ages {B : Nat} {M M' : List Lsa} {x : Lsa} (h : ages13 M) (hp : PutM B M x M') : ages13 M' := by
  rcases hp with ⟨hok, Aa, ca, Ab, cb, -, -, rfl⟩ | ⟨-, rfl⟩
  · intro y hy
    rcases setX_mem hy with hy | rfl
    · exact h y hy
    · exact right_age hok.1
  · exact h

end Go.Proofs.YtpnbibokddhheaaGreat

/-
  Keys in order: what the document asks of them.
-/
namespace Go.Proofs.YtpnbibokddhheaaGreat
open Go.RowKit

theorem less_cases (a1 a2 a3 b1 b2 b3 : Int) : (¬a1 = b1 ∧ less3 a1 a2 a3 b1 b2 b3 = decide (a1 < b1)) ∨ (a1 = b1 ∧ ¬a2 = b2 ∧ less3 a1 a2 a3 b1 b2 b3 = decide (a2 < b2)) ∨ (a1 = b1 ∧ a2 = b2 ∧ less3 a1 a2 a3 b1 b2 b3 = decide (a3 < b3)) := by
  unfold less3
  by_cases h1 : a1 = b1
  · by_cases h2 : a2 = b2
    · right; right; simp [h1, h2]
    · right; left; simp [h1, h2]
  · left; simp [h1]
set_option maxHeartbeats 1000000 in
theorem Less07 (a1 a2 a3 b1 b2 b3 : Int) (w : World) {z : Bool} (hz : lessK ⟨a1, a2, a3⟩ ⟨b1, b2, b3⟩ = z) :
    Calls Tryz.prog 41 #[.agg #[.int .i64 a1, .int .i64 a2, .int .i64 a3], .agg #[.int .i64 b1, .int .i64 b2, .int .i64 b3]] w fun r w' => r = .returned (.bool z) ∧ Below w.heap.size w w' := by
  have Hb := Lib.hid (fun o q => ((Below.refl w.heap.size w).alloc (Nat.le_refl _) o).alloc (by simp) q)
  have hz : less3 a1 a2 a3 b1 b2 b3 = z := hz
  rcases less_cases a1 a2 a3 b1 b2 b3 with ⟨h, e⟩ | ⟨rfl, h, e⟩ | ⟨rfl, rfl, e⟩
  all_goals
    rw [e] at hz
    subst hz
    clear e
    go_enter Tryz.func41, Tryz.ntmps41
    go_wp2
    go_ret
    exact ⟨rfl, Hb.out _ _⟩

end Go.Proofs.YtpnbibokddhheaaGreat

/-
  The document's word for a description that may be: the program's way.
-/
namespace Go.Proofs.YtpnbibokddhheaaGreat
open Go.RowKit

set_option maxHeartbeats 1000000 in
theorem rin_v (n a b : Int) (w : World) {t : Bool} (ht : inB n a b = t) : Calls Tryz.prog 107 #[.int .i64 n, .int .i64 a, .int .i64 b] w fun r w' => r = .returned (.bool t) ∧ w = w' := by
  rcases in_cases n a b with ⟨h1, h2⟩ | ⟨h1, h2⟩
  · rw [h2] at ht
    subst ht
    clear h2
    go_enter Tryz.func107, Tryz.ntmps107
    go_wp2
    go_ret
    exact ⟨rfl, rfl⟩
  · rw [ht] at h2
    clear ht
    go_enter Tryz.func107, Tryz.ntmps107
    go_wp2
    go_ret
    exact ⟨rfl, rfl⟩

set_option maxHeartbeats 2000000 in
set_option maxRecDepth 100000 in
theorem refHead_any (a1 a2 a3 a4 a5 a6 a7 : Int) (w : World) {t : Bool} (ht : headB ⟨a1, a2, a3, a4, a5, a6, a7⟩ = t) : Calls Tryz.prog 106 #[.agg #[.int .i64 a1, .int .i64 a2, .int .i64 a3, .int .i64 a4, .int .i64 a5, .int .i64 a6, .int .i64 a7]] w fun r w' => r = .returned (.bool t) ∧ Below w.heap.size w w' := by
  unfold headB at ht
  simp only at ht
  obtain ⟨t1, h1⟩ : ∃ t1, inB a1 0 60 = t1 := ⟨_, rfl⟩
  obtain ⟨t2, h2⟩ : ∃ t2, inB a2 1 2 = t2 := ⟨_, rfl⟩
  obtain ⟨t3, h3⟩ : ∃ t3, inB a4 1 15 = t3 := ⟨_, rfl⟩
  obtain ⟨t4, h4⟩ : ∃ t4, inB a5 (-2147483647) 2147483647 = t4 := ⟨_, rfl⟩
  rw [h1, h2, h3, h4] at ht
  have H1 := Lib.hid h1
  have H2 := Lib.hid h2
  have H3 := Lib.hid h3
  have H4 := Lib.hid h4
  clear h1 h2 h3 h4
  have Hb := Lib.hid ((Below.refl w.heap.size w).alloc (Nat.le_refl _) (.cells #[.int .i64 a1, .int .i64 a2, .int .i64 a3, .int .i64 a4, .int .i64 a5, .int .i64 a6, .int .i64 a7] 27))
  rcases bool4 t1 t2 t3 t4 with rfl | ⟨rfl, rfl⟩ | ⟨rfl, rfl, rfl⟩ | ⟨rfl, rfl, rfl, rfl⟩ | ⟨rfl, rfl, rfl, rfl⟩
  all_goals
    simp only [Bool.false_and, Bool.and_false, Bool.and_true] at ht
    subst ht
    go_enter Tryz.func106, Tryz.ntmps106
    go_wp2_with (first
      | (go_at_call 107; (with_reducible refine Calls.mono (rin_v a1 0 60 _ H1.out) ?_); rintro r w2 ⟨rfl, rfl⟩)
      | (go_at_call 107; (with_reducible refine Calls.mono (rin_v a2 1 2 _ H2.out) ?_); rintro r w2 ⟨rfl, rfl⟩)
      | (go_at_call 107; (with_reducible refine Calls.mono (rin_v a4 1 15 _ H3.out) ?_); rintro r w2 ⟨rfl, rfl⟩)
      | (go_at_call 107; (with_reducible refine Calls.mono (rin_v a5 (-2147483647) 2147483647 _ H4.out) ?_); rintro r w2 ⟨rfl, rfl⟩))
    go_ret
    exact ⟨rfl, Hb.out⟩

theorem rin_q (n a b : Int) (w : World) (q : Nat) {t : Bool} (ht : inB n a b = t) : Calls Tryz.prog 107 #[.int .i64 n, .int .i64 a, .int .i64 b] (w.drewN q) fun r w' => r = .returned (.bool t) ∧ ∃ q', w' = w.drewN q' :=
  (rin_v n a b _ ht).mono fun _r _w' ⟨h1, h2⟩ => ⟨h1, q, h2.symm⟩
theorem inB23 {x : Int} {t : Bool} (h : inB x 2 3 = t) : (t = true ∧ (x = 2 ∨ x = 3)) ∨ (t = false ∧ ¬ x = 2 ∧ ¬ x = 3) := by
  subst h
  unfold inB
  by_cases h1 : x = 2
  · subst h1; left; simp
  · by_cases h2 : x = 3
    · subst h2; left; simp
    · right; refine ⟨?_, h1, h2⟩; simp; omega
theorem in23t {x : Int} (h : (true = true ∧ (x = 2 ∨ x = 3)) ∨ (true = false ∧ ¬ x = 2 ∧ ¬ x = 3)) : x = 2 ∨ x = 3 := by
  rcases h with ⟨-, h⟩ | ⟨h, -⟩
  · exact h
  · cases h
set_option maxHeartbeats 8000000 in
set_option maxRecDepth 100000 in
theorem refRight_any (a1 a2 a3 a4 a5 a6 a7 : Int) (ka : Option Addr) (kc : Nat) (ls : List Lnk) (ma : Option Addr) (mc : Nat) (ms : List Int) (w : World) (B : Nat) (hl : RowsAt 4 Lnk.cells w B ka ls) (hm : RowsAt 1 icell w B ma ms) (hB : B ≤ w.heap.size) (hlm : ls.length ≤ maxLen) (hmm : ms.length ≤ maxLen) (nl nm : Nat) (hnl : nl = ls.length) (hnm : nm = ms.length) {t : Bool} (ht : rightB ⟨⟨a1, a2, a3, a4, a5, a6, a7⟩, ka, kc, ls, ma, mc, ms⟩ = t) :
    Calls Tryz.prog 73 #[.agg #[.int .i64 a1, .int .i64 a2, .int .i64 a3, .int .i64 a4, .int .i64 a5, .int .i64 a6, .int .i64 a7, .slice ka nl kc, .slice ma nm mc]] w fun r w' => r = .returned (.bool t) ∧ Below w.heap.size w w' := by
  have hcs := right_cases ⟨⟨a1, a2, a3, a4, a5, a6, a7⟩, ka, kc, ls, ma, mc, ms⟩
  simp only at hcs
  rw [← hnl, ← hnm] at hcs
  obtain ⟨w0, hW0⟩ : ∃ w0, w.alloc (.cells #[.int .i64 a1, .int .i64 a2, .int .i64 a3, .int .i64 a4, .int .i64 a5, .int .i64 a6, .int .i64 a7, .slice ka nl kc, .slice ma nm mc] 31) = w0 := ⟨_, rfl⟩
  have hk0 := Blk.new w 31 #[.int .i64 a1, .int .i64 a2, .int .i64 a3, .int .i64 a4, .int .i64 a5, .int .i64 a6, .int .i64 a7, .slice ka nl kc, .slice ma nm mc]
  have hb0 := (Below.refl w.heap.size w).alloc (Nat.le_refl _) (.cells #[.int .i64 a1, .int .i64 a2, .int .i64 a3, .int .i64 a4, .int .i64 a5, .int .i64 a6, .int .i64 a7, .slice ka nl kc, .slice ma nm mc] 31)
  rw [hW0] at hk0 hb0
  have Hk0 := Lib.hid hk0
  have Hb0 := Lib.hid hb0
  have Hl := Lib.hid (hl.more hB)
  have Hm := Lib.hid (hm.more hB)
  obtain ⟨z0, z1, z2, z3, z4, z5, z6, z7, z8, -⟩ := blk9 hk0
  clear hl hm hB hk0 hb0
  obtain ⟨th, hth⟩ : ∃ th, headB ⟨a1, a2, a3, a4, a5, a6, a7⟩ = th := ⟨_, rfl⟩
  obtain ⟨tl, htl⟩ : ∃ tl, linksB ls = tl := ⟨_, rfl⟩
  obtain ⟨tm, htm⟩ : ∃ tm, membersB ms = tm := ⟨_, rfl⟩
  obtain ⟨ti, hti⟩ : ∃ ti, inB a3 0 63 = ti := ⟨_, rfl⟩
  rw [hth, htl, htm, hti, ht] at hcs
  have Hth := Lib.hid hth
  have Htl := Lib.hid htl
  have Htm := Lib.hid htm
  have Hti := Lib.hid hti
  clear ht hth htl htm hti
  have HC := Lib.hid (fun W (hW : Below w.heap.size w W) => refHead_any a1 a2 a3 a4 a5 a6 a7 W Hth.out)
  have Hnl := Lib.hid hnl
  have Hnm := Lib.hid hnm
  have Hlm := Lib.hid hlm
  have Hmm := Lib.hid hmm
  have hm1 : (nl : Int) ≤ 9223372036854775807 := by unfold maxLen at hlm; omega
  have hm2 : (nm : Int) ≤ 9223372036854775807 := by unfold maxLen at hmm; omega
  have FW := Lib.hid (fun W (hW : Below w0.heap.size w0 W) => blk9 (Hk0.out.below hW Hk0.out.lt))
  clear hnl hnm hlm hmm
  rcases hcs with ⟨h1, rfl⟩ | ⟨h1, h2, h3, rfl⟩ | ⟨h1, h2, h3, h4, rfl⟩ | ⟨h1, h2, h3, rfl, rfl⟩ | ⟨h1, h2, h3, rfl⟩ | ⟨h1, h2, h3, h4, rfl⟩ | ⟨h1, h2, h3, rfl, rfl⟩
  all_goals
    subst h1
    go_enter Tryz.func73, Tryz.ntmps73
    go_wp2_with fail
    with_reducible refine Calls.mono (HC.out _ Hb0.out) ?_
    rintro r w2 ⟨rfl, hb2⟩
    obtain ⟨y0, y1, y2, y3, y4, y5, y6, y7, y8, -⟩ := blk9 (Hk0.out.below hb2 Hk0.out.lt)
    have Hb2 := Lib.hid (Hb0.out.trans (hb2.mono Hb0.out.size))
    have Hb02 := Lib.hid (hb2.mono (show w0.heap.size ≤ w0.heap.size from Nat.le_refl _))
    clear z0 z1 z2 z3 z4 z5 z6 z7 z8 hb2
  · go_wp2
    go_ret
    exact ⟨rfl, Hb2.out⟩
  · have g1 := of_decide_eq_false h3
    go_wp2
    go_ret
    exact ⟨rfl, Hb2.out⟩
  · have g1 := of_decide_eq_true h3
    have g2 : (0 : Int) < (nm : Int) := by omega
    subst g1
    go_wp2
    go_ret
    exact ⟨rfl, Hb2.out⟩
  · have g1 := of_decide_eq_true h3
    subst g1
    by_cases h4 : nl ≤ 4
    · have g4 : ¬ (4 : Int) < (nl : Int) := by omega
      have hk1 : a2 = 1 := by simpa using h2
      subst hk1
      go_wp2
      go_loopw [3] (fun i wr => ∃ k : Nat, i = .int .i64 k ∧ k ≤ ls.length ∧ (ls.take k).all linkB = true ∧ Below w0.heap.size w0 wr) (fun i _ => ls.length - (intOf i).toNat)
      case atStart => exact ⟨0, rfl, Nat.zero_le _, by simp, Hb02.out⟩
      case round =>
        obtain ⟨k, rfl, hk, hall, hb⟩ := hrel
        have Hb := Lib.hid hb
        have hbw := Hb0.out.trans (hb.mono Hb0.out.size)
        by_cases hlt : k < ls.length
        · obtain ⟨g, o, rfl, -, z0, z1, z2, z3⟩ := row_lnk (Hl.out.below hbw) k hlt
          obtain ⟨y0, y1, y2, y3, y4, y5, y6, y7, y8, -⟩ := FW.out _ hb
          have hkl : (k : Int) < (nl : Int) := by have := Hnl.out; omega
          have hno : linkB ls[k] = false → linksB ls = false := fun h => by
            unfold linksB
            have : ls.all linkB = false := by
              rw [List.all_eq_false]
              exact ⟨ls[k], List.getElem_mem hlt, by simp [h]⟩
            rw [this]; rfl
          have hyes : linkB ls[k] = true → (ls.take (k + 1)).all linkB = true := fun h => by
            rw [List.take_succ_eq_append_getElem hlt, List.all_append, hall]
            simp [h]
          have Hno := Lib.hid hno
          have Hyes := Lib.hid hyes
          have Hal := Lib.hid (fun o => hbw.alloc hbw.size o)
          have Hal0 := Lib.hid (fun o => hb.alloc hb.size o)
          clear hb hbw hno hyes hall
          generalize ls[k] = x at *
          obtain ⟨x1, x2, x3, x4⟩ := x
          simp only at z0 z1 z2 z3
          unfold linkB at Hno Hyes
          simp only at Hno Hyes
          obtain ⟨t1, h1⟩ : ∃ t1, inB x1 2 3 = t1 := ⟨_, rfl⟩
          obtain ⟨t2, h2⟩ : ∃ t2, inB x2 0 63 = t2 := ⟨_, rfl⟩
          obtain ⟨t3, h3⟩ : ∃ t3, inB x3 0 63 = t3 := ⟨_, rfl⟩
          obtain ⟨t4, h4⟩ : ∃ t4, inB x4 1 100 = t4 := ⟨_, rfl⟩
          rw [h1, h2, h3, h4] at Hno Hyes
          have h23 := inB23 h1
          have H2 := Lib.hid h2
          have H3 := Lib.hid h3
          have H4 := Lib.hid h4
          clear h1 h2 h3 h4
          rcases bool4n t1 t2 t3 t4 with ⟨hv, hd⟩ | ⟨hv, rfl, rfl, rfl, rfl⟩
          · have ht2 : t = false := by rw [← Htl.out]; exact Hno.out hv
            subst ht2
            clear Hyes Hno hv
            rcases hd with rfl | ⟨rfl, rfl⟩ | ⟨rfl, rfl, rfl⟩ | ⟨rfl, rfl, rfl, rfl⟩
            · rcases h23 with ⟨h0, -⟩ | ⟨-, n2, n3⟩
              · cases h0
              · go_wp2_with (first
                | (go_at_call 107; (with_reducible refine Calls.mono (rin_v x4 1 100 _ H4.out) ?_); rintro r w9 ⟨rfl, rfl⟩)
                | (go_at_call 107; (with_reducible refine Calls.mono (rin_v x2 0 63 _ H2.out) ?_); rintro r w9 ⟨rfl, rfl⟩)
                | (go_at_call 107; (with_reducible refine Calls.mono (rin_v x3 0 63 _ H3.out) ?_); rintro r w9 ⟨rfl, rfl⟩))
                go_ret
                exact ⟨rfl, Hal.out _⟩
            all_goals
              rcases in23t h23 with rfl | rfl
              all_goals
                go_wp2_with (first
                | (go_at_call 107; (with_reducible refine Calls.mono (rin_v x4 1 100 _ H4.out) ?_); rintro r w9 ⟨rfl, rfl⟩)
                | (go_at_call 107; (with_reducible refine Calls.mono (rin_v x2 0 63 _ H2.out) ?_); rintro r w9 ⟨rfl, rfl⟩)
                | (go_at_call 107; (with_reducible refine Calls.mono (rin_v x3 0 63 _ H3.out) ?_); rintro r w9 ⟨rfl, rfl⟩))
                go_ret
                exact ⟨rfl, Hal.out _⟩
          · have Hy := Lib.hid (Hyes.out hv)
            clear Hno Hyes hv
            rcases in23t h23 with rfl | rfl
            all_goals
              go_wp2_with (first
                | (go_at_call 107; (with_reducible refine Calls.mono (rin_v x4 1 100 _ H4.out) ?_); rintro r w9 ⟨rfl, rfl⟩)
                | (go_at_call 107; (with_reducible refine Calls.mono (rin_v x2 0 63 _ H2.out) ?_); rintro r w9 ⟨rfl, rfl⟩)
                | (go_at_call 107; (with_reducible refine Calls.mono (rin_v x3 0 63 _ H3.out) ?_); rintro r w9 ⟨rfl, rfl⟩))
              go_roundw
              case measure => simp [intOf]; omega
              case rel => exact ⟨k + 1, by go_num, hlt, Hy.out, Hal0.out _⟩
        · have hkk : k = ls.length := by omega
          obtain ⟨y0, y1, y2, y3, y4, y5, y6, y7, y8, -⟩ := FW.out _ hb
          have hkl : ¬ (k : Int) < (nl : Int) := by have := Hnl.out; omega
          have ht2 : t = true := by
            rw [← Htl.out]
            unfold linksB
            rw [hkk, List.take_length] at hall
            rw [hall, Bool.true_and]
            exact decide_eq_true (by have := Hnl.out; omega)
          subst ht2
          have Hbw := Lib.hid hbw
          clear hb hall hkk hbw
          go_wp2
          go_ret
          exact ⟨rfl, Hbw.out⟩
    · have g4 : (4 : Int) < (nl : Int) := by omega
      have ht2 : t = false := by
        rw [← Htl.out]
        unfold linksB
        rw [decide_eq_false (by have := Hnl.out; omega), Bool.and_false]
      subst ht2
      go_wp2
      go_ret
      exact ⟨rfl, Hb2.out⟩
  · go_wp2_with (go_at_call 107; (with_reducible refine Calls.mono (rin_v a3 0 63 _ Hti.out) ?_); rintro r w3 ⟨rfl, rfl⟩)
    go_ret
    exact ⟨rfl, Hb2.out⟩
  · subst h3
    have g2 : (0 : Int) < (nl : Int) := by omega
    go_wp2_with (go_at_call 107; (with_reducible refine Calls.mono (rin_v a3 0 63 _ Hti.out) ?_); rintro r w3 ⟨rfl, rfl⟩)
    go_ret
    exact ⟨rfl, Hb2.out⟩
  · by_cases h5 : nm = 0
    · subst h5
      have ht2 : t = false := by
        rw [← Htm.out]
        unfold membersB
        rw [decide_eq_false (by have := Hnm.out; omega), Bool.and_false]
      subst ht2
      subst h3
      go_wp2_with (go_at_call 107; (with_reducible refine Calls.mono (rin_v a3 0 63 _ Hti.out) ?_); rintro r w3 ⟨rfl, rfl⟩)
      go_ret
      exact ⟨rfl, Hb2.out⟩
    · subst h3
      have g5 : ¬ (nm : Int) = 0 := by omega
      have g6 : ((nm : Int) == 0) = false := by simpa using h5
      go_wp2_with (go_at_call 107; (with_reducible refine Calls.mono (rin_v a3 0 63 _ Hti.out) ?_); rintro r w3 ⟨rfl, rfl⟩)
      go_loopw [5] (fun i wr => ∃ (k : Nat) (z : Int), i = .int .i64 k ∧ k ≤ ms.length ∧ memC 0 (ms.take k) = true ∧ (((0 : Int) :: ms.take k).getLast (by simp)) = z ∧ 0 ≤ z ∧ z ≤ 15 ∧ Below w0.heap.size w0 wr) (fun i _ => ms.length - (intOf i).toNat)
      case atStart => exact ⟨0, 0, rfl, Nat.zero_le _, rfl, rfl, by omega, by omega, Hb02.out⟩
      case round =>
        obtain ⟨k, z, rfl, hk, hmem, hz, hz0, hz15, hb⟩ := hrel
        have hbw := Hb0.out.trans (hb.mono Hb0.out.size)
        obtain ⟨y0, y1, y2, y3, y4, y5, y6, y7, y8, -⟩ := FW.out _ hb
        by_cases hlt : k < ms.length
        · obtain ⟨g, o, rfl, -, z9⟩ := row_int (Hm.out.below hbw) k hlt
          have hkl : (k : Int) < (nm : Int) := by have := Hnm.out; omega
          obtain ⟨m1, m2⟩ := memC_take hlt hmem
          have hlast : (((0 : Int) :: ms.take (k + 1)).getLast (by simp)) = ms[k] := by
            have : (0 : Int) :: ms.take (k + 1) = ((0 : Int) :: ms.take k) ++ [ms[k]] := by rw [List.take_succ_eq_append_getElem hlt]; rfl
            simp only [this, List.getLast_append, List.getLast_singleton]
            simp
          have Hb := Lib.hid hb
          have Hbw := Lib.hid hbw
          have Hlt := Lib.hid hlt
          rcases Nat.eq_zero_or_pos k with hk0 | hk0
          · subst hk0
            have hz' : z = 0 := by rw [← hz]; rfl
            subst hz'
            rw [hz] at m1 m2
            generalize ms[0] = x at *
            rw [Nat.add_zero] at z9
            have hkl0 : (0 : Int) < (nm : Int) := by omega
            obtain ⟨t1, h1⟩ : ∃ t1, inB x 1 15 = t1 := ⟨_, rfl⟩
            rw [show ((0 : Int) + 1) = 1 from rfl, h1] at m1 m2
            have H1 := Lib.hid h1
            have Hlast := Lib.hid hlast
            have M1 := Lib.hid m1
            have hx := fun h => (inB_iff.1 (h1.trans h))
            cases t1
            · have ht2 : t = false := by rw [← Htm.out]; unfold membersB; rw [m2 rfl]; rfl
              subst ht2
              clear h1 m1 m2 hlast hmem hz hb hbw hx hlt
              go_wp2_with fail
              refine wp_drew_tail 24 (by kernel_rfl) (by kernel_rfl) ?_
              simp only [List.take_succ_cons, List.take_zero, List.drop_succ_cons, List.drop_zero]
              repeat (go_big_quiet_step (exact rin_q x 1 15 _ _ H1.out))
              refine wpQuiet_nil ?_
              rintro w9 ⟨dq, rfl⟩
              go_wp2
              go_ret
              exact ⟨rfl, below_drewN Hbw.out dq⟩
            · obtain ⟨hx1, hx2⟩ := hx rfl
              clear h1 m1 m2 hlast hmem hz hb hbw hlt hx
              go_wp2_with fail
              refine wp_drew_tail 24 (by kernel_rfl) (by kernel_rfl) ?_
              simp only [List.take_succ_cons, List.take_zero, List.drop_succ_cons, List.drop_zero]
              repeat (go_big_quiet_step (exact rin_q x 1 15 _ _ H1.out))
              refine wpQuiet_nil ?_
              rintro w9 ⟨dq, rfl⟩
              go_wp2
              go_roundw
              case measure => have := Hlt.out; simp [intOf]; omega
              case rel => exact ⟨0 + 1, x, by go_num, Hlt.out, M1.out, Hlast.out, by omega, by omega, below_drewN Hb.out dq⟩
          · obtain ⟨j, hj⟩ : ∃ j, k = j + 1 := ⟨k - 1, by omega⟩
            have hjl : j < ms.length := by omega
            obtain ⟨g', o', e', -, z8'⟩ := row_int (Hm.out.below hbw) j hjl
            injection e' with e'
            injection e' with e1 e2
            subst e1 e2
            have hzj : ms[j] = z := by
              subst hj
              rw [← hz]
              have : (0 : Int) :: ms.take (j + 1) = ((0 : Int) :: ms.take j) ++ [ms[j]] := by rw [List.take_succ_eq_append_getElem hjl]; rfl
              simp only [this, List.getLast_append, List.getLast_singleton]
              simp
            rw [hzj] at z8'
            rw [hz] at m1 m2
            generalize ms[k] = x at *
            obtain ⟨t1, h1⟩ : ∃ t1, inB x 1 15 = t1 := ⟨_, rfl⟩
            have H1 := Lib.hid h1
            have Hlast := Lib.hid hlast
            have M1 := Lib.hid m1
            have M2 := Lib.hid m2
            have h1' := h1
            have hx := fun h => (inB_iff.1 (h1.trans h))
            have g0 : (0 : Int) < (k : Int) := by omega
            have g2 : (j : Int) < (nm : Int) := by omega
            have g3 : (k : Int) - 1 = (j : Int) := by omega
            have Hj := Lib.hid hj
            clear hj
            cases t1
            · have hf : inB x (z + 1) 15 = false := by
                cases hc : inB x (z + 1) 15 with
                | false => rfl
                | true => have := inB_iff.1 hc; rw [show inB x 1 15 = true from inB_iff.2 ⟨by omega, by omega⟩] at h1; cases h1
              have ht2 : t = false := by rw [← Htm.out]; unfold membersB; rw [M2.out hf]; rfl
              subst ht2
              clear h1 h1' m1 m2 hlast hmem hz hb hbw hx hlt hjl hzj hf
              go_wp2_with fail
              refine wp_drew_tail 24 (by kernel_rfl) (by kernel_rfl) ?_
              simp only [List.take_succ_cons, List.take_zero, List.drop_succ_cons, List.drop_zero]
              repeat (go_big_quiet_step (exact rin_q x 1 15 _ _ H1.out))
              refine wpQuiet_nil ?_
              rintro w9 ⟨dq, rfl⟩
              go_wp2
              go_ret
              exact ⟨rfl, below_drewN Hbw.out dq⟩
            · obtain ⟨hx1, hx2⟩ := hx rfl
              by_cases hxz : x ≤ z
              · have hf : inB x (z + 1) 15 = false := by
                  cases hc : inB x (z + 1) 15 with
                  | false => rfl
                  | true => have := inB_iff.1 hc; omega
                have ht2 : t = false := by rw [← Htm.out]; unfold membersB; rw [M2.out hf]; rfl
                subst ht2
                clear h1 h1' m1 m2 hlast hmem hz hb hbw hx hlt hjl hzj hf
                go_wp2_with fail
                refine wp_drew_tail 24 (by kernel_rfl) (by kernel_rfl) ?_
                simp only [List.take_succ_cons, List.take_zero, List.drop_succ_cons, List.drop_zero]
                repeat (go_big_quiet_step (exact rin_q x 1 15 _ _ H1.out))
                refine wpQuiet_nil ?_
                rintro w9 ⟨dq, rfl⟩
                go_wp2
                go_ret
                exact ⟨rfl, below_drewN Hbw.out dq⟩
              · have hf : inB x (z + 1) 15 = true := inB_iff.2 ⟨by omega, by omega⟩
                have M1 := Lib.hid (M1.out.trans hf)
                have Hxz := Lib.hid hxz
                have hd : decide (x ≤ z) = false := decide_eq_false hxz
                clear h1 h1' m1 m2 hlast hmem hz hb hbw hx hlt hjl hzj hf hxz
                go_upto_region 18 with fail
                go_cut [119] (fun v wx => v = .bool false ∧ Below w0.heap.size w0 wx)
                case first =>
                  refine wp_drew_tail 24 (by kernel_rfl) (by kernel_rfl) ?_
                  simp only [List.take_succ_cons, List.take_zero, List.drop_succ_cons, List.drop_zero]
                  repeat (go_big_quiet_step (exact rin_q x 1 15 _ _ H1.out))
                  refine wpQuiet_nil ?_
                  rintro w9 ⟨dq, rfl⟩
                  go_wp2_with fail
                  go_meet
                  case rel => exact ⟨rfl, below_drewN Hb.out dq⟩
                case rest =>
                  obtain ⟨rfl, hbx⟩ := hcut
                  have Hbx := Lib.hid hbx
                  clear hbx
                  go_wp2
                  go_roundw
                  case measure => have := Hlt.out; simp [intOf]; omega
                  case rel => exact ⟨k + 1, x, by go_num, Hlt.out, M1.out, Hlast.out, by omega, by omega, Hbx.out⟩
        · have hkk : k = ms.length := by omega
          have hkl : ¬ (k : Int) < (nm : Int) := by have := Hnm.out; omega
          have ht2 : t = true := by
            rw [← Htm.out]
            unfold membersB
            rw [hkk, List.take_length] at hmem
            rw [hmem, Bool.true_and]
            exact decide_eq_true (by have := Hnm.out; omega)
          subst ht2
          have Hbw := Lib.hid hbw
          clear hb hmem hkk hbw hz
          go_wp2
          go_ret
          exact ⟨rfl, Hbw.out⟩

end Go.Proofs.YtpnbibokddhheaaGreat
