/-
  The document's sealed description: its way; it is the program's.
-/
import Derived.Test.YtmjjmkdjjfmhhaaRsBytes
import Derived.Test.YtmjjmkdjjfmhhaaLsSeal
namespace Go.Proofs.Ytmjjmkdjjfmhhaa
open Go.RowKit

theorem fillL_far {r : List Int} {k : Nat} (h : 16 ≤ k) : (fillL r)[k]? = r[k]? := by
  unfold fillL zero2
  rw [List.getElem?_set_ne (by omega), List.getElem?_set_ne (by omega), List.getElem?_set_ne (by omega), List.getElem?_set_ne (by omega)]
theorem headL_split (h : Hd) : ∃ X, X.length = 18 ∧ headL h = X ++ beL 2 h.long :=
  ⟨(head1 h.age h.kind ++ [h.id, h.adv, h.seq].flatMap (beL 4)) ++ beL 2 h.sum, by simp [head1_len, beL_len], by unfold headL; simp [List.append_assoc]⟩
theorem bytesL_two (h : Hd) (ls : List Lnk) (ms : List Int) (hl : ls.length ≤ 1000) (hm : ms.length ≤ 1000) : (bytesL h ls ms)[18]?.getD 0 * 256 + (bytesL h ls ms)[19]?.getD 0 = ((bytesL h ls ms).length : Int) := by
  obtain ⟨hlo, hhi⟩ := bytesL_len h ls ms hl hm
  have hbl := bodyL_len h.kind ls ms hl hm
  have hlen : ((bytesL h ls ms).length : Int) = 20 + ((bodyL h.kind ls ms).length : Int) := by
    have h1 := rawL_len h (bodyL h.kind ls ms)
    have h3 := sealL_len (rawL h (bodyL h.kind ls ms)) (by omega)
    unfold bytesL
    rw [h3, h1]
    omega
  obtain ⟨X, hX, hXe⟩ := headL_split { h with sum := 0, long := 20 + ((bodyL h.kind ls ms).length : Int) }
  have hraw : rawL h (bodyL h.kind ls ms) = X ++ (beL 2 (20 + ((bodyL h.kind ls ms).length : Int)) ++ bodyL h.kind ls ms) := by
    unfold rawL
    rw [hXe, List.append_assoc]
  have hr2 : ∀ k, 18 ≤ k → (bytesL h ls ms)[k]? = (rawL h (bodyL h.kind ls ms))[k]? := by
    intro k hk
    have ht : ((rawL h (bodyL h.kind ls ms)).take 2).length = 2 := by rw [List.length_take, rawL_len]; omega
    unfold bytesL sealL
    rw [List.getElem?_append_right (by omega), ht, fillL_far (by omega), List.getElem?_drop]
    congr 1
    omega
  have h18 : (bytesL h ls ms)[18]? = some (byteI (20 + ((bodyL h.kind ls ms).length : Int)) 1) := by
    rw [hr2 18 (by omega), hraw, List.getElem?_append_right (by omega), hX]
    rfl
  have h19 : (bytesL h ls ms)[19]? = some (byteI (20 + ((bodyL h.kind ls ms).length : Int)) 0) := by
    rw [hr2 19 (by omega), hraw, List.getElem?_append_right (by omega), hX]
    rfl
  rw [h18, h19, hlen]
  simp only [Option.getD_some]
  unfold byteI
  simp
  omega
theorem sealed_long (h : Hd) (ls : List Lnk) (ms : List Int) (hl : ls.length ≤ 1000) (hm : ms.length ≤ 1000) : (sealedH h ls ms).long = ((bytesL h ls ms).length : Int) := bytesL_two h ls ms hl hm
theorem rows_two {w : World} {g o : Nat} {x y : Int} (h0 : w.cell? ⟨g, o, none⟩ = some (.int .u8 x)) (h1 : w.cell? ⟨g, o + 1, none⟩ = some (.int .u8 y)) : RowsAt 1 bcell w (g + 1) (some ⟨g, o, none⟩) [x, y] := by
  intro _
  refine ⟨g, o, rfl, by omega, fun k hk i u hi hu => ?_⟩
  have hi0 : i = 0 := by omega
  subst hi0
  match k, hk with
  | 0, _ => simp [bcell] at hu; subst hu; simpa using h0
  | 1, _ => simp [bcell] at hu; subst hu; simpa using h1
  | (k + 2), hk => exact absurd hk (by simp)
theorem below_none {w w' : World} (h : w.grownBy w' none) : Below w.heap.size w w' := (Below.refl w.heap.size w).grown h (Nat.le_refl _) (fun j hj => by cases hj)

/-- behind the two lists -/
structure S6 (w2 : World) (k g : Nat) (cs : Array Value) (x0 x1 : Int) (va : Value) (ls : List Lnk) (W : World) : Prop where
  blk : Blk W k 27 cs
  oa : OwnR 108 4 Lnk.cells W w2.heap.size va ls
  na : va.ownBlock ≠ some k
  c0 : W.cell? ⟨g, 16, none⟩ = some (.int .u8 x0)
  c1 : W.cell? ⟨g, 17, none⟩ = some (.int .u8 x1)
  bel : Below w2.heap.size w2 W
  gk : g < k
  k2 : w2.heap.size ≤ k
theorem cell_set {w : World} {k g i j : Nat} {u v : Value} (h : w.cell? ⟨g, j, none⟩ = some v) (hne : g < k) : (w.setCell ⟨k, i, none⟩ u).cell? ⟨g, j, none⟩ = some v :=
  (World.cell?_of_block (w := w) (a := ⟨g, j, none⟩) (Below.heap_setCell w ⟨k, i, none⟩ u g (by simpa using Nat.ne_of_lt hne))).trans h
theorem sealed_one {w2 wc w5 : World} {k g nl : Nat} {a1 a2 a3 a4 a5 a6 a7 : Value} {x0 x1 : Int} {ls : List Lnk} {v : Value} (hown : OwnR 108 4 Lnk.cells w5 wc.heap.size v ([] ++ ls)) (hg : wc.grownBy w5 (Value.slice none 0 0).ownBlock)
    (hk : Blk wc k 27 #[a1, a2, a3, a4, a5, a6, a7, .slice none 0 0, .slice none 0 0]) (hb : Below w2.heap.size w2 wc) (h0 : wc.cell? ⟨g, 16, none⟩ = some (.int .u8 x0)) (h1 : wc.cell? ⟨g, 17, none⟩ = some (.int .u8 x1)) (hgk : g < k) (hk2 : w2.heap.size ≤ k) (hn : nl = ls.length) :
    ∃ w6 A c, v = .slice A nl c ∧ (w5.cell? ⟨k, 7, none⟩ = some (.slice none 0 0) ∧ w5.frozen? ⟨k, 7, none⟩ = false) ∧ w5.setCell ⟨k, 7, none⟩ (.slice A nl c) = w6 ∧ S6 w2 k g #[a1, a2, a3, a4, a5, a6, a7, .slice A nl c, .slice none 0 0] x0 x1 (.slice A nl c) ls w6 := by
  rw [List.nil_append] at hown
  have hb5 : Below wc.heap.size wc w5 := below_none hg
  obtain ⟨A, c, hv⟩ := hown.shape
  rw [← hn] at hv
  subst hv
  have hne : (Value.slice A nl c).ownBlock ≠ some k := fun e => by have := (OwnR.block hown _ e).1; have := hk.lt; omega
  have hb0 : g < wc.heap.size := Nat.lt_trans hgk hk.lt
  refine ⟨_, A, c, rfl, ⟨(hk.below hb5 hk.lt).cell 7, (hk.below hb5 hk.lt).frozen 7⟩, rfl, ⟨?_, OwnR.lower (own_far hown hne 7 _) hb.size, hne, cell_set ((hb5.cell (p := ⟨g, 16, none⟩) hb0).trans h0) hgk, cell_set ((hb5.cell (p := ⟨g, 17, none⟩) hb0).trans h1) hgk, (below_trans hb hb.size hb5).setCell (p := ⟨k, 7, none⟩) hk2 _, hgk, hk2⟩⟩
  have := (hk.below hb5 hk.lt).set_ 7 (.slice A nl c)
  simpa using this
structure S8 (w2 : World) (k g : Nat) (cs : Array Value) (x0 x1 : Int) (va vb : Value) (ls : List Lnk) (ms : List Int) (W : World) : Prop where
  blk : Blk W k 27 cs
  oa : OwnR 108 4 Lnk.cells W w2.heap.size va ls
  na : va.ownBlock ≠ some k
  ob : OwnR 3 1 icell W w2.heap.size vb ms
  nb : vb.ownBlock ≠ some k
  c0 : W.cell? ⟨g, 16, none⟩ = some (.int .u8 x0)
  c1 : W.cell? ⟨g, 17, none⟩ = some (.int .u8 x1)
  bel : Below w2.heap.size w2 W
  k2 : w2.heap.size ≤ k
theorem sealed_two {w2 w6 w7 : World} {k g nm : Nat} {a1 a2 a3 a4 a5 a6 a7 va : Value} {x0 x1 : Int} {ls : List Lnk} {ms : List Int} {v : Value} (hown : OwnR 3 1 icell w7 w6.heap.size v ([] ++ ms)) (hg : w6.grownBy w7 (Value.slice none 0 0).ownBlock)
    (h : S6 w2 k g #[a1, a2, a3, a4, a5, a6, a7, va, .slice none 0 0] x0 x1 va ls w6) (hn : nm = ms.length) :
    ∃ w8 A c, v = .slice A nm c ∧ (w7.cell? ⟨k, 8, none⟩ = some (.slice none 0 0) ∧ w7.frozen? ⟨k, 8, none⟩ = false) ∧ w7.setCell ⟨k, 8, none⟩ (.slice A nm c) = w8 ∧ S8 w2 k g #[a1, a2, a3, a4, a5, a6, a7, va, .slice A nm c] x0 x1 va (.slice A nm c) ls ms w8 := by
  rw [List.nil_append] at hown
  have hb5 : Below w6.heap.size w6 w7 := below_none hg
  obtain ⟨A, c, hv⟩ := hown.shape
  rw [← hn] at hv
  subst hv
  have hne : (Value.slice A nm c).ownBlock ≠ some k := fun e => by have := (OwnR.block hown _ e).1; have := h.blk.lt; omega
  have hb0 : g < w6.heap.size := Nat.lt_trans h.gk h.blk.lt
  refine ⟨_, A, c, rfl, ⟨(h.blk.below hb5 h.blk.lt).cell 8, (h.blk.below hb5 h.blk.lt).frozen 8⟩, rfl, ⟨?_, own_far (h.oa.below hb5) h.na 8 _, h.na, OwnR.lower (own_far hown hne 8 _) h.bel.size, hne, cell_set ((hb5.cell (p := ⟨g, 16, none⟩) hb0).trans h.c0) h.gk, cell_set ((hb5.cell (p := ⟨g, 17, none⟩) hb0).trans h.c1) h.gk, (below_trans h.bel h.bel.size hb5).setCell (p := ⟨k, 8, none⟩) h.k2 _, h.k2⟩⟩
  have := (h.blk.below hb5 h.blk.lt).set_ 8 (.slice A nm c)
  simpa using this

set_option maxHeartbeats 8000000 in
set_option maxRecDepth 100000 in
theorem refSealed_any (y1 y2 y3 y4 y5 y6 y7 : Int) (ka : Option Addr) (kc : Nat) (ls : List Lnk) (ma : Option Addr) (mc : Nat) (ms : List Int) (w : World) (B : Nat) (hl : RowsAt 4 Lnk.cells w B ka ls) (hm : RowsAt 1 icell w B ma ms) (hB : B ≤ w.heap.size) (hlm : ls.length ≤ 1000) (hmm : ms.length ≤ 1000) (nl nm : Nat) (hnl : nl = ls.length) (hnm : nm = ms.length) (h1m : y2 = 1 → ms = [])
    {s1 s2 : Int} (hs1 : (sealedH ⟨y1, y2, y3, y4, y5, y6, y7⟩ ls ms).sum = s1) (hs2 : (sealedH ⟨y1, y2, y3, y4, y5, y6, y7⟩ ls ms).long = s2) :
    Calls Try.prog 23 #[.agg #[.int .i64 y1, .int .i64 y2, .int .i64 y3, .int .i64 y4, .int .i64 y5, .int .i64 y6, .int .i64 y7, .slice ka nl kc, .slice ma nm mc]] w fun r w' => ∃ Aa ca Ab cb, r = .returned (.agg #[.int .i64 y1, .int .i64 y2, .int .i64 y3, .int .i64 y4, .int .i64 y5, .int .i64 s1, .int .i64 s2, .slice Aa nl ca, .slice Ab nm cb]) ∧ OwnR 108 4 Lnk.cells w' w.heap.size (.slice Aa nl ca) ls ∧ OwnR 3 1 icell w' w.heap.size (.slice Ab nm cb) ms ∧ Below w.heap.size w w' := by
  obtain ⟨N, hN⟩ : ∃ N, N = (bytesL ⟨y1, y2, y3, y4, y5, y6, y7⟩ ls ms).length := ⟨_, rfl⟩
  have hs2N : s2 = (N : Int) := by rw [← hs2, sealed_long _ _ _ hlm hmm, hN]
  subst hs2N
  obtain ⟨hN1, hN2⟩ := bytesL_len ⟨y1, y2, y3, y4, y5, y6, y7⟩ ls ms hlm hmm
  rw [← hN] at hN1 hN2
  have hbo := bytesL_ok ⟨y1, y2, y3, y4, y5, y6, y7⟩ ls ms
  obtain ⟨x0, x1, hx0, hx1, ho0, ho1, hsum⟩ : ∃ x0 x1, (bytesL ⟨y1, y2, y3, y4, y5, y6, y7⟩ ls ms)[16]? = some x0 ∧ (bytesL ⟨y1, y2, y3, y4, y5, y6, y7⟩ ls ms)[17]? = some x1 ∧ byteOk x0 ∧ byteOk x1 ∧ x0 * 256 + x1 = s1 := by
    have e0 := List.getElem?_eq_getElem (l := bytesL ⟨y1, y2, y3, y4, y5, y6, y7⟩ ls ms) (i := 16) (by omega)
    have e1 := List.getElem?_eq_getElem (l := bytesL ⟨y1, y2, y3, y4, y5, y6, y7⟩ ls ms) (i := 17) (by omega)
    refine ⟨_, _, e0, e1, hbo _ (List.getElem_mem _), hbo _ (List.getElem_mem _), ?_⟩
    rw [← hs1]
    unfold sealedH
    rw [e0, e1]
    rfl
  obtain ⟨w2, hW2⟩ : ∃ w2, (w.alloc (.cells #[.int .i64 y1, .int .i64 y2, .int .i64 y3, .int .i64 y4, .int .i64 y5, .int .i64 y6, .int .i64 y7, .slice ka nl kc, .slice ma nm mc] 27)).alloc (.cells #[.int .i64 0, .int .i64 0, .int .i64 0, .int .i64 0, .int .i64 0, .int .i64 0, .int .i64 0, .slice none 0 0, .slice none 0 0] 27) = w2 := ⟨_, rfl⟩
  have hk : Blk w2 w.heap.size 27 #[.int .i64 y1, .int .i64 y2, .int .i64 y3, .int .i64 y4, .int .i64 y5, .int .i64 y6, .int .i64 y7, .slice ka nl kc, .slice ma nm mc] := by rw [← hW2]; exact (Blk.new w _ _).alloc _
  have hq : Blk w2 (w.heap.size + 1) 27 #[.int .i64 0, .int .i64 0, .int .i64 0, .int .i64 0, .int .i64 0, .int .i64 0, .int .i64 0, .slice none 0 0, .slice none 0 0] := by rw [← hW2]; exact Blk.size (by simp)
  have hb : Below w.heap.size w w2 := by rw [← hW2]; exact ((Below.refl w.heap.size w).alloc (Nat.le_refl _) _).alloc (by simp) _
  have FW := Lib.hid (fun W (hW : Below w2.heap.size w2 W) => blk9 (hk.below hW hk.lt))
  have FQ := Lib.hid (fun W (hW : Below w2.heap.size w2 W) => hq.below hW hq.lt)
  have hq2 : w.heap.size + 1 < w2.heap.size := hq.lt
  have hl2 := (hl.below (hb.mono hB)).more (Nat.le_trans hB hb.size)
  have hm2 := (hm.below (hb.mono hB)).more (Nat.le_trans hB hb.size)
  have HB := Lib.hid (refBytes_any y1 y2 y3 y4 y5 y6 y7 ka kc ls ma mc ms w2 w2.heap.size hl2 hm2 (Nat.le_refl _) hlm hmm nl nm hnl hnm h1m N hN)
  have HL := Lib.hid hl2
  have HM := Lib.hid hm2
  have Hb := Lib.hid hb
  have Hnl := Lib.hid hnl
  have Hnm := Lib.hid hnm
  have hnl2 : nl ≤ 1000 := by omega
  have hnm2 : nm ≤ 1000 := by omega
  have HX := Lib.hid (show _ ∧ _ from ⟨hx0, hx1⟩)
  have HO := Lib.hid (show _ ∧ _ from ⟨ho0, ho1⟩)
  have Hsum := Lib.hid hsum
  have HN := Lib.hid hN
  clear hk hq hb hl hm hB hlm hmm hnl hnm h1m hl2 hm2 hx0 hx1 ho0 ho1 hsum hs1 hs2 hbo hN
  obtain ⟨z0, z1, z2, z3, z4, z5, z6, z7, z8, zf⟩ := FW.out w2 (Below.refl _ _)
  go_enter Try.func23, Try.ntmps23
  go_wp2_with fail
  with_reducible refine Calls.mono HB.out ?_
  rintro r w3 ⟨A3, c3, rfl, hown, hb3⟩
  obtain ⟨g3, c4, hc3, hv3⟩ := own_some hown HN.out.symm (by omega)
  injection hv3 with hA hn hc
  subst hA hc
  clear hn
  have hg3 := OwnB.lt hown
  have hg3a := hg3.1
  have hg3b := hg3.2
  have HC := Lib.hid (show _ ∧ _ from ⟨own_at hown HX.out.1, own_at hown HX.out.2⟩)
  obtain ⟨wc, hwc⟩ : ∃ wc, w3.alloc (.cells #[.int .i64 y1, .int .i64 y2, .int .i64 y3, .int .i64 y4, .int .i64 y5, .int .i64 y6, .int .i64 y7, .slice none 0 0, .slice none 0 0] 27) = wc := ⟨_, rfl⟩
  have hkc : Blk wc w3.heap.size 27 #[.int .i64 y1, .int .i64 y2, .int .i64 y3, .int .i64 y4, .int .i64 y5, .int .i64 y6, .int .i64 y7, .slice none 0 0, .slice none 0 0] := by rw [← hwc]; exact Blk.new w3 _ _
  have hbc : Below w3.heap.size w3 wc := by rw [← hwc]; exact below_new _ _
  obtain ⟨k, hk⟩ : ∃ k, w3.heap.size = k := ⟨_, rfl⟩
  rw [hk] at hkc
  have hkw : k < wc.heap.size := hkc.lt
  have hk2 : w2.heap.size ≤ k := by rw [← hk]; exact hb3.size
  have hg3k : g3 < k := by rw [← hk]; exact hg3b
  have hbw := below_trans hb3 hb3.size hbc
  have Hb3 := Lib.hid hb3
  have Hkc := Lib.hid hkc
  have Hbw := Lib.hid hbw
  have HCc := Lib.hid (show _ ∧ _ from ⟨(hbc.cell (p := ⟨g3, 16, none⟩) hg3b).trans HC.out.1, (hbc.cell (p := ⟨g3, 17, none⟩) hg3b).trans HC.out.2⟩)
  have HLc := Lib.hid (rows_keep HL.out hbw)
  have Hw2c := Lib.hid hbw.size
  clear z0 z1 z2 z3 z4 z5 z6 z7 z8 zf hown hb3 hg3 hg3a hg3b hbc hbw HC
  obtain ⟨a0, a1, a2, a3, a4, a5, a6, a7, a8, af⟩ := FW.out w3 Hb3.out
  have Hwc := Lib.hid hwc
  clear hwc
  go_upto_region 3 with fail
  rw [Hwc.out]
  obtain ⟨z0, z1, z2, z3, z4, z5, z6, z7, z8, zf⟩ := FW.out wc Hbw.out
  obtain ⟨p0, p1, p2, p3, p4, p5, p6, p7, p8, pf⟩ := blk9 hkc
  clear hkc
  go_wp2_with (first
    | (at_builtin; (refine app_rows (e := 3) icell (fun _ => rfl) (by decide) (bytes := 8) (by decide) infoInt' rfl Try.underlying25 onesI (by rfl) _ _ (by rfl) w6.heap.size _ [] (by rfl) (OwnR.nil w6 _) ma mc nm ms Hnm.out (by rfl) HM6.out (by have := Hnm.out; simp; omega) (Nat.le_refl _) ?_); intro v7 w7 hown7 hg7 _; obtain ⟨w8, Ab, cb, hv7, ⟨st8, sf8⟩, hw8, h8⟩ := sealed_two hown7 hg7 Hs6.out Hnm.out; subst hv7; have Hs8 := Lib.hid h8; clear hown7 hg7 h8 p0 z0 p1 z1 p2 z2 p3 z3 p4 z4 p5 z5 p6 z6 p7 z7 p8 z8 pf zf; obtain ⟨z0, z1, z2, z3, z4, z5, z6, z7, z8, zf⟩ := FW.out w8 Hs8.out.bel; obtain ⟨p0, p1, p2, p3, p4, p5, p6, p7, p8, pf⟩ := blk9 Hs8.out.blk)
    | (at_builtin; (refine app_rows (e := 108) Lnk.cells (fun _ => rfl) (by decide) (bytes := 32) (by decide) infoLnk rfl Try.underlying24 onesL (by rfl) _ _ (by rfl) wc.heap.size _ [] (by rfl) (OwnR.nil wc _) ka kc nl ls Hnl.out (by rfl) HLc.out (by have := Hnl.out; simp; omega) (Nat.le_refl _) ?_); intro v5 w5 hown5 hg5 _; obtain ⟨w6, Aa, ca, hv5, ⟨st6, sf6⟩, hw6, h6⟩ := sealed_one hown5 hg5 Hkc.out Hbw.out HCc.out.1 HCc.out.2 hg3k hk2 Hnl.out; subst hv5; have Hs6 := Lib.hid h6; have HM6 := Lib.hid (rows_keep HM.out h6.bel); clear hown5 hg5 h6 p0 z0 p1 z1 p2 z2 p3 z3 p4 z4 p5 z5 p6 z6 p7 z7 p8 z8 pf zf; obtain ⟨z0, z1, z2, z3, z4, z5, z6, z7, z8, zf⟩ := FW.out w6 Hs6.out.bel; obtain ⟨p0, p1, p2, p3, p4, p5, p6, p7, p8, pf⟩ := blk9 Hs6.out.blk))
  have hNm := refNumber2 (some ⟨g3, 16, none⟩) (c3 - 16) x0 x1 w8 (g3 + 1) (rows_two Hs8.out.c0 Hs8.out.c1) HO.out.1 HO.out.2
  rw [Hsum.out] at hNm
  with_reducible refine Calls.mono hNm ?_
  rintro r w9 ⟨rfl, rfl⟩
  go_upto_region 7 with fail
  obtain ⟨w10, hw10⟩ : ∃ w10, (w8.setCell ⟨k, 5, none⟩ (.int .i64 s1)).setCell ⟨k, 6, none⟩ (.int .i64 (N : Int)) = w10 := ⟨_, rfl⟩
  have hk10 : Blk w10 k 27 #[.int .i64 y1, .int .i64 y2, .int .i64 y3, .int .i64 y4, .int .i64 y5, .int .i64 s1, .int .i64 (N : Int), .slice Aa nl ca, .slice Ab nm cb] := by
    rw [← hw10]
    have := (Hs8.out.blk.set_ 5 (.int .i64 s1)).set_ 6 (.int .i64 (N : Int))
    simpa using this
  have hb10 : Below w2.heap.size w2 w10 := by rw [← hw10]; exact (Hs8.out.bel.setCell (p := ⟨k, 5, none⟩) Hs8.out.k2 _).setCell (p := ⟨k, 6, none⟩) Hs8.out.k2 _
  have Oa := Lib.hid (show OwnR 108 4 Lnk.cells w10 w2.heap.size (.slice Aa nl ca) ls by rw [← hw10]; exact own_far (own_far Hs8.out.oa Hs8.out.na 5 _) Hs8.out.na 6 _)
  have Ob := Lib.hid (show OwnR 3 1 icell w10 w2.heap.size (.slice Ab nm cb) ms by rw [← hw10]; exact own_far (own_far Hs8.out.ob Hs8.out.nb 5 _) Hs8.out.nb 6 _)
  have Hb10 := Lib.hid hb10
  rw [hw10]
  clear hw10 z0 z1 z2 z3 z4 z5 z6 z7 z8 zf p0 p1 p2 p3 p4 p5 p6 p7 p8 pf a0 a1 a2 a3 a4 a5 a6 a7 a8 af hk
  obtain ⟨p0, p1, p2, p3, p4, p5, p6, p7, p8, pf⟩ := blk9 hk10
  obtain ⟨q0, q1, q2, q3, q4, q5, q6, q7, q8, qf⟩ := blk9 (FQ.out w10 hb10)
  clear hk10 hb10
  have hna : (Value.slice Aa nl ca).ownBlock ≠ some (w.heap.size + 1) := fun e => by have := (OwnR.block Oa.out _ e).1; omega
  have hnb : (Value.slice Ab nm cb).ownBlock ≠ some (w.heap.size + 1) := fun e => by have := (OwnR.block Ob.out _ e).1; omega
  have Hna := Lib.hid hna
  have Hnb := Lib.hid hnb
  clear hna hnb
  go_wp2
  refine bodyPost_named (v := .agg #[.int .i64 y1, .int .i64 y2, .int .i64 y3, .int .i64 y4, .int .i64 y5, .int .i64 s1, .int .i64 (N : Int), .slice Aa nl ca, .slice Ab nm cb]) (fun W => Blk W (w.heap.size + 1) 27 #[.int .i64 y1, .int .i64 y2, .int .i64 y3, .int .i64 y4, .int .i64 y5, .int .i64 s1, .int .i64 (N : Int), .slice Aa nl ca, .slice Ab nm cb]) (Blk.set9 (FQ.out w10 Hb10.out) _ _ _ _ _ _ _ _ _) (fun W hB => by
    obtain ⟨e0, e1, e2, e3, e4, e5, e6, e7, e8, -⟩ := blk9 hB
    simp [results, Try.results23, go_sem, e0, e1, e2, e3, e4, e5, e6, e7, e8]) rfl ?_
  exact ⟨_, _, _, _, rfl, OwnR.lower (own_far9 Oa.out Hna.out _ _ _ _ _ _ _ _ _) Hb.out.size, OwnR.lower (own_far9 Ob.out Hnb.out _ _ _ _ _ _ _ _ _) Hb.out.size, below_set9 (below_trans Hb.out Hb.out.size Hb10.out) (by omega) _ _ _ _ _ _ _ _ _⟩
theorem fld_lsa (y1 y2 y3 y4 y5 y6 y7 : Int) (A : Option Addr) (n c : Nat) (A' : Option Addr) (n' c' : Nat) : ∀ W, (Instr.field 27 (.agg #[.int .i64 y1, .int .i64 y2, .int .i64 y3, .int .i64 y4, .int .i64 y5, .int .i64 y6, .int .i64 y7, .slice A n c, .slice A' n' c']) 0).run Try.prog W = .ok (.agg #[.int .i64 y1, .int .i64 y2, .int .i64 y3, .int .i64 y4, .int .i64 y5, .int .i64 y6, .int .i64 y7]) W := fun W => by kernel_rfl
theorem right_head {h : Hd} {ka : Option Addr} {kc : Nat} {ls : List Lnk} {ma : Option Addr} {mc : Nat} {ms : List Int} (hr : rightB ⟨h, ka, kc, ls, ma, mc, ms⟩ = true) : (0 ≤ h.age ∧ h.age ≤ 60) ∧ (-2147483647 ≤ h.seq ∧ h.seq ≤ 2147483647) ∧ (h.kind = 1 → ms = []) ∧ ls.length ≤ 1000 ∧ ms.length ≤ 1000 := by
  have hc := hr
  unfold rightB at hr
  rw [Bool.and_eq_true] at hr
  obtain ⟨h1, h2⟩ := hr
  have hh := h1
  unfold headB at h1
  simp only [Bool.and_eq_true, inB_iff] at h1
  refine ⟨h1.1.1.1, h1.2, ?_, ?_⟩
  · intro hk
    simp only at h2
    rw [if_pos (by simpa using hk)] at h2
    simp only [Bool.and_eq_true, decide_eq_true_eq] at h2
    exact List.eq_nil_of_length_eq_zero h2.1.2
  · simp only at h2
    split at h2
    · simp only [linksB, Bool.and_eq_true, decide_eq_true_eq] at h2
      omega
    · simp only [membersB, Bool.and_eq_true, decide_eq_true_eq] at h2
      have : ∀ {l : List Int} {last : Int}, last ≤ 15 → memC last l = true → (l.length : Int) + last ≤ 15 := by
        intro l
        induction l with
        | nil => intro last h _; simpa using h
        | cons x l ih =>
          intro last _ hm
          unfold memC at hm
          rw [Bool.and_eq_true] at hm
          have hx := inB_iff.1 hm.1
          have := ih hx.2 hm.2
          simp only [List.length_cons]
          omega
      have := this (by decide) h2.2.1
      omega

end Go.Proofs.Ytmjjmkdjjfmhhaa
