/-
  A description with its sum and length: the program's way.
-/
import Derived.Test.YtmjjmkdjjfmhhaaLsBytes
import Derived.Test.YtmjjmkdjjfmhhaaLsRead
import Derived.Test.YtmjjmkdjjfmhhaaMem
namespace Go.Proofs.Ytmjjmkdjjfmhhaa
open Go.RowKit

/-- the head that Seal leaves -/
def sealedH (h : Hd) (ls : List Lnk) (ms : List Int) : Hd := { h with sum := (bytesL h ls ms)[16]?.getD 0 * 256 + (bytesL h ls ms)[17]?.getD 0, long := (bytesL h ls ms)[18]?.getD 0 * 256 + (bytesL h ls ms)[19]?.getD 0 }

section
variable {w w' : World} {g : Nat} {t : TypeId} {a b c d e f x y z : Value}
theorem Blk.set9 (h : Blk w g t #[a, b, c, d, e, f, x, y, z]) (a' b' c' d' e' f' x' y' z' : Value) : Blk (((((((((w.setCell ⟨g, 0, none⟩ a').setCell ⟨g, 1, none⟩ b').setCell ⟨g, 2, none⟩ c').setCell ⟨g, 3, none⟩ d').setCell ⟨g, 4, none⟩ e').setCell ⟨g, 5, none⟩ f').setCell ⟨g, 6, none⟩ x').setCell ⟨g, 7, none⟩ y').setCell ⟨g, 8, none⟩ z') g t #[a', b', c', d', e', f', x', y', z'] := by
  have := ((((((((h.set_ 0 a').set_ 1 b').set_ 2 c').set_ 3 d').set_ 4 e').set_ 5 f').set_ 6 x').set_ 7 y').set_ 8 z'
  simpa using this
theorem below_set9 {B : Nat} (h : Below B w w') (hg : B ≤ g) (a' b' c' d' e' f' x' y' z' : Value) : Below B w (((((((((w'.setCell ⟨g, 0, none⟩ a').setCell ⟨g, 1, none⟩ b').setCell ⟨g, 2, none⟩ c').setCell ⟨g, 3, none⟩ d').setCell ⟨g, 4, none⟩ e').setCell ⟨g, 5, none⟩ f').setCell ⟨g, 6, none⟩ x').setCell ⟨g, 7, none⟩ y').setCell ⟨g, 8, none⟩ z') :=
  ((((((((h.setCell hg _).setCell hg _).setCell hg _).setCell hg _).setCell hg _).setCell hg _).setCell hg _).setCell hg _).setCell hg _
theorem own_far {α : Type} {e : TypeId} {C : Nat} {cells : α → List Value} {B : Nat} {v : Value} {L : List α} (h : OwnR e C cells w B v L) (hn : v.ownBlock ≠ some g) (i : Nat) (u : Value) : OwnR e C cells (w.setCell ⟨g, i, none⟩ u) B v L :=
  h.kept (row := some g) ⟨rfl, rfl, rfl, by simp [World.setCell], fun k hk hne => Below.heap_setCell _ _ _ _ (fun e => hne (by rw [e]))⟩ (.inr hn)
theorem own_far9 {α : Type} {e : TypeId} {C : Nat} {cells : α → List Value} {B : Nat} {v : Value} {L : List α} (h : OwnR e C cells w B v L) (hn : v.ownBlock ≠ some g) (a' b' c' d' e' f' x' y' z' : Value) : OwnR e C cells (((((((((w.setCell ⟨g, 0, none⟩ a').setCell ⟨g, 1, none⟩ b').setCell ⟨g, 2, none⟩ c').setCell ⟨g, 3, none⟩ d').setCell ⟨g, 4, none⟩ e').setCell ⟨g, 5, none⟩ f').setCell ⟨g, 6, none⟩ x').setCell ⟨g, 7, none⟩ y').setCell ⟨g, 8, none⟩ z') B v L :=
  own_far (own_far (own_far (own_far (own_far (own_far (own_far (own_far (own_far h hn _ _) hn _ _) hn _ _) hn _ _) hn _ _) hn _ _) hn _ _) hn _ _) hn _ _
end
theorem sealL_ok {r : List Int} (h : ∀ x ∈ r, byteOk x) : ∀ x ∈ sealL r, byteOk x := by
  refine app_ok (fun x hx => h x (List.mem_of_mem_take hx)) (fun x hx => ?_)
  have h2 := zero2_ok (bs := r.drop 2) (fun x hx => h x (List.mem_of_mem_drop hx))
  unfold fillL at hx
  rcases List.mem_or_eq_of_mem_set hx with hx | rfl
  · rcases List.mem_or_eq_of_mem_set hx with hx | rfl
    · exact h2 x hx
    · exact ⟨by unfold bytA fillA; omega, by unfold bytA fillA; omega⟩
  · exact ⟨by unfold bytB fillB; omega, by unfold bytB fillB; omega⟩
theorem bytesL_ok (h : Hd) (ls : List Lnk) (ms : List Int) : ∀ x ∈ bytesL h ls ms, byteOk x := sealL_ok (rawL_ok _ _ (bodyL_ok _ _ _))
theorem bytesL_len (h : Hd) (ls : List Lnk) (ms : List Int) (hl : ls.length ≤ 1000) (hm : ms.length ≤ 1000) : 20 ≤ (bytesL h ls ms).length ∧ (bytesL h ls ms).length ≤ 20020 := by
  have h1 := rawL_len h (bodyL h.kind ls ms)
  have h2 := bodyL_len h.kind ls ms hl hm
  have h3 := sealL_len (rawL h (bodyL h.kind ls ms)) (by omega)
  unfold bytesL
  omega
theorem own_at {w : World} {B n g cap : Nat} {l : List Int} (h : OwnB w B (.slice (some ⟨g, 0, none⟩) n cap) l) {k : Nat} {x : Int} (hx : l[k]? = some x) : w.cell? ⟨g, k, none⟩ = some (.int .u8 x) := by
  obtain ⟨hk, rfl⟩ := List.getElem?_eq_some_iff.1 hx
  exact (OwnB.at_ h k hk).1
structure SG (w2 wc : World) (k : Nat) (cs : Array Value) (va vb : Value) (ls : List Lnk) (ms : List Int) (W : World) : Prop where
  blk : Blk W k 27 cs
  oa : OwnR 108 4 Lnk.cells W w2.heap.size va ls
  ob : OwnR 3 1 icell W w2.heap.size vb ms
  bel : Below w2.heap.size w2 W
  sz : wc.heap.size ≤ W.heap.size
  kl : k < wc.heap.size
  la : ∀ j, va.ownBlock = some j → j < wc.heap.size
  lb : ∀ j, vb.ownBlock = some j → j < wc.heap.size
section
variable {w2 wc W W' : World} {k : Nat} {cs : Array Value} {va vb : Value} {ls : List Lnk} {ms : List Int}
theorem SG.below (h : SG w2 wc k cs va vb ls ms W) (hb : Below W.heap.size W W') : SG w2 wc k cs va vb ls ms W' :=
  ⟨h.blk.below hb h.blk.lt, h.oa.below hb, h.ob.below hb, below_trans h.bel h.bel.size hb, Nat.le_trans h.sz hb.size, h.kl, h.la, h.lb⟩
theorem SG.grown {j : Nat} (h : SG w2 wc k cs va vb ls ms W) (hw : w2.heap.size ≤ wc.heap.size) (hg : W.grownBy W' (some j)) (hj : wc.heap.size ≤ j) : SG w2 wc k cs va vb ls ms W' :=
  ⟨(hg.block k h.blk.lt (fun e => by have := h.kl; have := Option.some.inj e; omega)).trans h.blk, h.oa.kept hg (.inr (fun e => by have := h.la j e; omega)), h.ob.kept hg (.inr (fun e => by have := h.lb j e; omega)),
    h.bel.grown hg h.bel.size (fun i hi => by have := Option.some.inj hi; omega), Nat.le_trans h.sz hg.size, h.kl, h.la, h.lb⟩
end
set_option maxHeartbeats 8000000 in
set_option maxRecDepth 100000 in
theorem seal_any (y1 y2 y3 y4 y5 y6 y7 : Int) (ka : Option Addr) (kc : Nat) (ls : List Lnk) (ma : Option Addr) (mc : Nat) (ms : List Int) (w : World) (B : Nat) (hl : RowsAt 4 Lnk.cells w B ka ls) (hm : RowsAt 1 icell w B ma ms) (hB : B ≤ w.heap.size) (hlm : ls.length ≤ 1000) (hmm : ms.length ≤ 1000) (nl nm : Nat) (hnl : nl = ls.length) (hnm : nm = ms.length)
    {t : Bool} (ht : rightB ⟨⟨y1, y2, y3, y4, y5, y6, y7⟩, ka, kc, ls, ma, mc, ms⟩ = t) {s1 s2 : Int} (hs : (if t then ((sealedH ⟨y1, y2, y3, y4, y5, y6, y7⟩ ls ms).sum, (sealedH ⟨y1, y2, y3, y4, y5, y6, y7⟩ ls ms).long) else (y6, y7)) = (s1, s2)) :
    Calls Try.prog 64 #[.agg #[.int .i64 y1, .int .i64 y2, .int .i64 y3, .int .i64 y4, .int .i64 y5, .int .i64 y6, .int .i64 y7, .slice ka nl kc, .slice ma nm mc]] w fun r w' => ∃ va vb, r = .returned (.agg #[.int .i64 y1, .int .i64 y2, .int .i64 y3, .int .i64 y4, .int .i64 y5, .int .i64 s1, .int .i64 s2, va, vb]) ∧ OwnR 108 4 Lnk.cells w' w.heap.size va ls ∧ OwnR 3 1 icell w' w.heap.size vb ms ∧ Below w.heap.size w w' := by
  obtain ⟨w1, hW1⟩ : ∃ w1, w.alloc (.cells #[.int .i64 y1, .int .i64 y2, .int .i64 y3, .int .i64 y4, .int .i64 y5, .int .i64 y6, .int .i64 y7, .slice ka nl kc, .slice ma nm mc] 27) = w1 := ⟨_, rfl⟩
  have hk := Blk.new w 27 #[.int .i64 y1, .int .i64 y2, .int .i64 y3, .int .i64 y4, .int .i64 y5, .int .i64 y6, .int .i64 y7, .slice ka nl kc, .slice ma nm mc]
  have hb := below_new w (.cells #[.int .i64 y1, .int .i64 y2, .int .i64 y3, .int .i64 y4, .int .i64 y5, .int .i64 y6, .int .i64 y7, .slice ka nl kc, .slice ma nm mc] 27)
  rw [hW1] at hk hb
  have FW := Lib.hid (fun W (hW : Below w1.heap.size w1 W) => blk9 (hk.below hW hk.lt))
  have Hb := Lib.hid hb
  have HL := Lib.hid (rows_keep (hl.more hB) hb)
  have HM := Lib.hid (rows_keep (hm.more hB) hb)
  have hsz := hb.size
  have Hnl := Lib.hid hnl
  have Hnm := Lib.hid hnm
  have Ht := Lib.hid ht
  have Hs := Lib.hid hs
  have hnl2 : nl ≤ 1000 := by omega
  have hnm2 : nm ≤ 1000 := by omega
  clear hk hb hl hm hB hnl hnm hlm hmm ht hs
  go_enter Try.func64, Try.ntmps64
  go_upto_region 1 with fail
  obtain ⟨w2, hW2⟩ : ∃ w2, w1.alloc (.cells #[.int .i64 0, .int .i64 0, .int .i64 0, .int .i64 0, .int .i64 0, .int .i64 0, .int .i64 0, .slice none 0 0, .slice none 0 0] 27) = w2 := ⟨_, rfl⟩
  have hq := Blk.new w1 27 #[.int .i64 0, .int .i64 0, .int .i64 0, .int .i64 0, .int .i64 0, .int .i64 0, .int .i64 0, .slice none 0 0, .slice none 0 0]
  have hb2 := below_new w1 (.cells #[.int .i64 0, .int .i64 0, .int .i64 0, .int .i64 0, .int .i64 0, .int .i64 0, .int .i64 0, .slice none 0 0, .slice none 0 0] 27)
  rw [hW2] at hq hb2 ⊢
  have F2 := Lib.hid (fun W (hW : Below w2.heap.size w2 W) => FW.out W (below_trans hb2 hb2.size hW))
  have FQ := Lib.hid (fun W (hW : Below w2.heap.size w2 W) => hq.below hW hq.lt)
  have HL2 := Lib.hid (rows_keep HL.out hb2)
  have HM2 := Lib.hid (rows_keep HM.out hb2)
  have Hb2 := Lib.hid hb2
  have hq1 : w1.heap.size < w2.heap.size := hq.lt
  clear hW2 hW1 hq hb2 FW HL HM
  go_cut [3] (fun p wx => ∃ k Aa ca Ab cb, p = .pointer (some ⟨k, 0, none⟩) ∧ Blk wx k 27 #[.int .i64 y1, .int .i64 y2, .int .i64 y3, .int .i64 y4, .int .i64 y5, .int .i64 y6, .int .i64 y7, .slice Aa nl ca, .slice Ab nm cb] ∧ OwnR 108 4 Lnk.cells wx w2.heap.size (.slice Aa nl ca) ls ∧ OwnR 3 1 icell wx w2.heap.size (.slice Ab nm cb) ms ∧ (Value.slice Aa nl ca).ownBlock ≠ some k ∧ (Value.slice Ab nm cb).ownBlock ≠ some k ∧ w2.heap.size ≤ k ∧ Below w2.heap.size w2 wx)
  case first =>
    go_wp2_with fail
    refine wp_region_F (F := fun W => Below w2.heap.size w2 W) (n := 10) (m := 11) (s := #[false, false, false, false, false, false, false, false, false, false, false]) (by kernel_rfl) (by kernel_rfl) (by kernel_rfl) ?_
    intro wd hwd
    have hF : Below w2.heap.size w2 wd := by rw [hwd.out]; exact (Below.refl _ _).drew
    clear hwd
    refine F_take (i := 0) (d := some 5) (by kernel_rfl) (by kernel_rfl) (by decide) (s' := #[true, false, false, false, false, false, false, false, false, false, false]) (by kernel_rfl) rfl rfl (by kernel_rfl) (by kernel_rfl) (by kernel_rfl) (fun _ _ _ h => h) (Or.inl ⟨by kernel_rfl, fun W hW => by obtain ⟨x0, x1, x2, x3, x4, x5, x6, x7, x8, -⟩ := F2.out W hW; go_simp; try with_reducible rfl⟩) hF ?_
    go_frame
    refine F_take (i := 2) (d := some 7) (by kernel_rfl) (by kernel_rfl) (by decide) (s' := #[true, false, true, false, false, false, false, false, false, false, false]) (by kernel_rfl) rfl rfl (by kernel_rfl) (by kernel_rfl) (by kernel_rfl) (fun _ _ _ h => h) (Or.inl ⟨by kernel_rfl, fun W hW => by obtain ⟨x0, x1, x2, x3, x4, x5, x6, x7, x8, -⟩ := F2.out W hW; go_simp; try with_reducible rfl⟩) hF ?_
    go_frame
    refine F_take (i := 5) (d := some 10) (by kernel_rfl) (by kernel_rfl) (by decide) (s' := #[true, false, true, false, false, true, false, false, false, false, false]) (by kernel_rfl) rfl rfl (by kernel_rfl) (by kernel_rfl) (by kernel_rfl) (fun _ _ _ h => h) (Or.inl ⟨by kernel_rfl, fun W hW => by obtain ⟨x0, x1, x2, x3, x4, x5, x6, x7, x8, -⟩ := F2.out W hW; go_simp; try with_reducible rfl⟩) hF ?_
    go_frame
    refine F_take (i := 1) (d := some 6) (by kernel_rfl) (by kernel_rfl) (by decide) (s' := #[true, true, true, false, false, true, false, false, false, false, false]) (by kernel_rfl) rfl rfl (by kernel_rfl) (by kernel_rfl) (by kernel_rfl) (fun _ _ _ h => h) (Or.inl ⟨by kernel_rfl, fun W hW => by obtain ⟨x0, x1, x2, x3, x4, x5, x6, x7, x8, -⟩ := F2.out W hW; go_simp; try with_reducible rfl⟩) hF ?_
    go_frame
    refine F_take (i := 3) (d := some 8) (by kernel_rfl) (by kernel_rfl) (by decide) (s' := #[true, true, true, true, false, true, false, false, false, false, false]) (by kernel_rfl) rfl rfl (by kernel_rfl) (by kernel_rfl) (by kernel_rfl) (fun _ _ _ h => h) (Or.inl ⟨by kernel_rfl, fun W hW => by obtain ⟨x0, x1, x2, x3, x4, x5, x6, x7, x8, -⟩ := F2.out W hW; go_simp; try with_reducible rfl⟩) hF ?_
    go_frame
    refine F_take (i := 6) (d := some 11) (by kernel_rfl) (by kernel_rfl) (by decide) (s' := #[true, true, true, true, false, true, true, false, false, false, false]) (by kernel_rfl) rfl rfl (by kernel_rfl) (by kernel_rfl) (by kernel_rfl) (fun _ _ _ h => h) (Or.inl ⟨by kernel_rfl, fun W hW => by obtain ⟨x0, x1, x2, x3, x4, x5, x6, x7, x8, -⟩ := F2.out W hW; go_simp; try with_reducible rfl⟩) hF ?_
    go_frame
    refine F_two (i := 4) (si := #[true, true, true, true, true, true, true, false, false, false, false]) (j := 9) (sj := #[true, true, true, true, false, true, true, false, false, true, false]) (by kernel_rfl) (by kernel_rfl) (by kernel_rfl) ?_ ?_
    · skip
      have hz4 : wd.heap.size = wd.heap.size := rfl
      refine wpOp_enterL (i := 4) (d := some 9) (f := 85) (args := #[.slice ka nl kc]) rfl rfl (by kernel_rfl) (by go_simp) ((cloneLnk ka kc ls wd w2.heap.size (HL2.out.below hF) hF.size (by have := Hnl.out; omega) nl Hnl.out).mono ?_)
      rintro r v4w ⟨va, rfl, oA, hb4⟩
      obtain ⟨Aa, ca, rfl⟩ : ∃ A c, va = .slice A nl c := by obtain ⟨A, c, e⟩ := oA.shape; exact ⟨A, c, by rw [e, Hnl.out]⟩
      have oA0 := oA
      have oA := OwnR.lower oA hF.size
      have hF := below_trans hF hF.size hb4
      refine ⟨_, rfl, fun _ => hF, ?_⟩
      go_frame
      clear hb4 hz4
      refine F_two (i := 7) (si := #[true, true, true, true, true, true, true, true, false, false, false]) (j := 9) (sj := #[true, true, true, true, true, true, true, false, false, true, false]) (by kernel_rfl) (by kernel_rfl) (by kernel_rfl) ?_ ?_
      · skip
        have hz7 : v4w.heap.size = v4w.heap.size := rfl
        refine wpOp_enterL (i := 7) (d := some 12) (f := 86) (args := #[.slice ma nm mc]) rfl rfl (by kernel_rfl) (by go_simp) ((cloneInt ma mc ms v4w w2.heap.size (HM2.out.below hF) hF.size (by have := Hnm.out; omega) nm Hnm.out).mono ?_)
        rintro r v7w ⟨vb, rfl, oB, hb7⟩
        obtain ⟨Ab, cb, rfl⟩ : ∃ A c, vb = .slice A nm c := by obtain ⟨A, c, e⟩ := oB.shape; exact ⟨A, c, by rw [e, Hnm.out]⟩
        have oB0 := oB
        have oA := OwnR.below oA hb7
        have oA0 := oA
        have oB := OwnR.lower oB hF.size
        have hF := below_trans hF hF.size hb7
        refine ⟨_, rfl, fun _ => hF, ?_⟩
        go_frame
        clear hb7 hz7
        refine F_take (i := 8) (d := some 13) (by kernel_rfl) (by kernel_rfl) (by decide) (s' := #[true, true, true, true, true, true, true, true, true, false, false]) (by kernel_rfl) rfl rfl (by kernel_rfl) (by kernel_rfl) (by kernel_rfl) (fun _ _ _ h => h) (Or.inl ⟨by kernel_rfl, fun W hW => by obtain ⟨x0, x1, x2, x3, x4, x5, x6, x7, x8, -⟩ := F2.out W hW; go_simp; try with_reducible rfl⟩) hF ?_
        go_frame
        obtain ⟨g, hg⟩ : ∃ g, v7w.heap.size = g := ⟨_, rfl⟩
        obtain ⟨v9w, hv9w⟩ : ∃ v9w, v7w.alloc (.cells #[.int .i64 0, .int .i64 0, .int .i64 0, .int .i64 0, .int .i64 0, .int .i64 0, .int .i64 0, .slice none 0 0, .slice none 0 0] 27) = v9w := ⟨_, rfl⟩
        have hb9 : Below v7w.heap.size v7w v9w := by rw [← hv9w]; exact below_new _ _
        have K9 : Blk v9w g 27 #[.int .i64 0, .int .i64 0, .int .i64 0, .int .i64 0, .int .i64 0, .int .i64 0, .int .i64 0, .slice none 0 0, .slice none 0 0] := by rw [← hv9w, ← hg]; exact Blk.new _ _ _
        have hgl : w2.heap.size ≤ g := by rw [← hg]; exact hF.size
        have oA := OwnR.below oA hb9
        have nA : (Value.slice Aa nl ca).ownBlock ≠ some g := fun e => by have := (OwnR.block oA0 g e).2; omega
        have oB := OwnR.below oB hb9
        have nB : (Value.slice Ab nm cb).ownBlock ≠ some g := fun e => by have := (OwnR.block oB0 g e).2; omega
        have hF := below_trans hF hF.size hb9
        refine F_one (i := 9) (s' := #[true, true, true, true, true, true, true, true, true, true, false]) (by kernel_rfl) (by kernel_rfl) (wpOp_valueL (i := 9) (d := some 3) (w' := v9w) (v := .pointer (some ⟨g, 0, none⟩)) rfl rfl (by kernel_rfl) (by go_simp) ⟨fun _ => hF, ?_⟩)
        go_frame
        clear hv9w hg hb9
        obtain ⟨u0, u1, u2, u3, u4, u5, u6, u7, u8, uf⟩ := blk9 K9
        refine F_one (i := 10) (s' := #[true, true, true, true, true, true, true, true, true, true, true]) (by kernel_rfl) (by kernel_rfl) (wpOp_skipL (i := 10) (w' := (((((((((v9w.setCell ⟨g, 0, none⟩ (.int .i64 y1)).setCell ⟨g, 1, none⟩ (.int .i64 y2)).setCell ⟨g, 2, none⟩ (.int .i64 y3)).setCell ⟨g, 3, none⟩ (.int .i64 y4)).setCell ⟨g, 4, none⟩ (.int .i64 y5)).setCell ⟨g, 5, none⟩ (.int .i64 y6)).setCell ⟨g, 6, none⟩ (.int .i64 y7)).setCell ⟨g, 7, none⟩ (.slice Aa nl ca)).setCell ⟨g, 8, none⟩ (.slice Ab nm cb))) rfl rfl (by kernel_rfl) (by go_simp) ⟨fun h => absurd h (by decide), ?_⟩)
        go_frame
        refine F_done (by kernel_rfl) ?_ _
        clear u0 u1 u2 u3 u4 u5 u6 u7 u8 uf
        go_wp2_with fail
        go_meet
        case rel => exact ⟨g, Aa, ca, Ab, cb, rfl, Blk.set9 K9 _ _ _ _ _ _ _ _ _, own_far9 oA nA _ _ _ _ _ _ _ _ _, own_far9 oB nB _ _ _ _ _ _ _ _ _, nA, nB, hgl, below_set9 hF hgl _ _ _ _ _ _ _ _ _⟩
      · skip
        obtain ⟨g, hg⟩ : ∃ g, v4w.heap.size = g := ⟨_, rfl⟩
        obtain ⟨v9w, hv9w⟩ : ∃ v9w, v4w.alloc (.cells #[.int .i64 0, .int .i64 0, .int .i64 0, .int .i64 0, .int .i64 0, .int .i64 0, .int .i64 0, .slice none 0 0, .slice none 0 0] 27) = v9w := ⟨_, rfl⟩
        have hb9 : Below v4w.heap.size v4w v9w := by rw [← hv9w]; exact below_new _ _
        have K9 : Blk v9w g 27 #[.int .i64 0, .int .i64 0, .int .i64 0, .int .i64 0, .int .i64 0, .int .i64 0, .int .i64 0, .slice none 0 0, .slice none 0 0] := by rw [← hv9w, ← hg]; exact Blk.new _ _ _
        have hgl : w2.heap.size ≤ g := by rw [← hg]; exact hF.size
        have oA := OwnR.below oA hb9
        have nA : (Value.slice Aa nl ca).ownBlock ≠ some g := fun e => by have := (OwnR.block oA0 g e).2; omega
        have hF := below_trans hF hF.size hb9
        refine wpOp_valueL (i := 9) (d := some 3) (w' := v9w) (v := .pointer (some ⟨g, 0, none⟩)) rfl rfl (by kernel_rfl) (by go_simp) ⟨fun _ => hF, ?_⟩
        go_frame
        clear hv9w hg hb9
        have hgW : g < v9w.heap.size := K9.lt
        have hz7 : v9w.heap.size = v9w.heap.size := rfl
        refine F_one (i := 7) (s' := #[true, true, true, true, true, true, true, true, false, true, false]) (by kernel_rfl) (by kernel_rfl) (wpOp_enterL (i := 7) (d := some 12) (f := 86) (args := #[.slice ma nm mc]) rfl rfl (by kernel_rfl) (by go_simp) ((cloneInt ma mc ms v9w w2.heap.size (HM2.out.below hF) hF.size (by have := Hnm.out; omega) nm Hnm.out).mono ?_))
        rintro r v7w ⟨vb, rfl, oB, hb7⟩
        obtain ⟨Ab, cb, rfl⟩ : ∃ A c, vb = .slice A nm c := by obtain ⟨A, c, e⟩ := oB.shape; exact ⟨A, c, by rw [e, Hnm.out]⟩
        have oB0 := oB
        have K9 := Blk.below K9 hb7 K9.lt
        have nB : (Value.slice Ab nm cb).ownBlock ≠ some g := fun e => by have := (OwnR.block oB g e).1; have := hgW; omega
        have oA := OwnR.below oA hb7
        have oA0 := oA
        have oB := OwnR.lower oB hF.size
        have hF := below_trans hF hF.size hb7
        refine ⟨_, rfl, fun _ => hF, ?_⟩
        go_frame
        clear hb7 hz7
        refine F_take (i := 8) (d := some 13) (by kernel_rfl) (by kernel_rfl) (by decide) (s' := #[true, true, true, true, true, true, true, true, true, true, false]) (by kernel_rfl) rfl rfl (by kernel_rfl) (by kernel_rfl) (by kernel_rfl) (fun _ _ _ h => h) (Or.inl ⟨by kernel_rfl, fun W hW => by obtain ⟨x0, x1, x2, x3, x4, x5, x6, x7, x8, -⟩ := F2.out W hW; go_simp; try with_reducible rfl⟩) hF ?_
        go_frame
        obtain ⟨u0, u1, u2, u3, u4, u5, u6, u7, u8, uf⟩ := blk9 K9
        refine F_one (i := 10) (s' := #[true, true, true, true, true, true, true, true, true, true, true]) (by kernel_rfl) (by kernel_rfl) (wpOp_skipL (i := 10) (w' := (((((((((v7w.setCell ⟨g, 0, none⟩ (.int .i64 y1)).setCell ⟨g, 1, none⟩ (.int .i64 y2)).setCell ⟨g, 2, none⟩ (.int .i64 y3)).setCell ⟨g, 3, none⟩ (.int .i64 y4)).setCell ⟨g, 4, none⟩ (.int .i64 y5)).setCell ⟨g, 5, none⟩ (.int .i64 y6)).setCell ⟨g, 6, none⟩ (.int .i64 y7)).setCell ⟨g, 7, none⟩ (.slice Aa nl ca)).setCell ⟨g, 8, none⟩ (.slice Ab nm cb))) rfl rfl (by kernel_rfl) (by go_simp) ⟨fun h => absurd h (by decide), ?_⟩)
        go_frame
        refine F_done (by kernel_rfl) ?_ _
        clear u0 u1 u2 u3 u4 u5 u6 u7 u8 uf
        go_wp2_with fail
        go_meet
        case rel => exact ⟨g, Aa, ca, Ab, cb, rfl, Blk.set9 K9 _ _ _ _ _ _ _ _ _, own_far9 oA nA _ _ _ _ _ _ _ _ _, own_far9 oB nB _ _ _ _ _ _ _ _ _, nA, nB, hgl, below_set9 hF hgl _ _ _ _ _ _ _ _ _⟩
    · skip
      obtain ⟨g, hg⟩ : ∃ g, wd.heap.size = g := ⟨_, rfl⟩
      obtain ⟨v9w, hv9w⟩ : ∃ v9w, wd.alloc (.cells #[.int .i64 0, .int .i64 0, .int .i64 0, .int .i64 0, .int .i64 0, .int .i64 0, .int .i64 0, .slice none 0 0, .slice none 0 0] 27) = v9w := ⟨_, rfl⟩
      have hb9 : Below wd.heap.size wd v9w := by rw [← hv9w]; exact below_new _ _
      have K9 : Blk v9w g 27 #[.int .i64 0, .int .i64 0, .int .i64 0, .int .i64 0, .int .i64 0, .int .i64 0, .int .i64 0, .slice none 0 0, .slice none 0 0] := by rw [← hv9w, ← hg]; exact Blk.new _ _ _
      have hgl : w2.heap.size ≤ g := by rw [← hg]; exact hF.size
      have hF := below_trans hF hF.size hb9
      refine wpOp_valueL (i := 9) (d := some 3) (w' := v9w) (v := .pointer (some ⟨g, 0, none⟩)) rfl rfl (by kernel_rfl) (by go_simp) ⟨fun _ => hF, ?_⟩
      go_frame
      clear hv9w hg hb9
      have hgW : g < v9w.heap.size := K9.lt
      have hz4 : v9w.heap.size = v9w.heap.size := rfl
      refine F_one (i := 4) (s' := #[true, true, true, true, true, true, true, false, false, true, false]) (by kernel_rfl) (by kernel_rfl) (wpOp_enterL (i := 4) (d := some 9) (f := 85) (args := #[.slice ka nl kc]) rfl rfl (by kernel_rfl) (by go_simp) ((cloneLnk ka kc ls v9w w2.heap.size (HL2.out.below hF) hF.size (by have := Hnl.out; omega) nl Hnl.out).mono ?_))
      rintro r v4w ⟨va, rfl, oA, hb4⟩
      obtain ⟨Aa, ca, rfl⟩ : ∃ A c, va = .slice A nl c := by obtain ⟨A, c, e⟩ := oA.shape; exact ⟨A, c, by rw [e, Hnl.out]⟩
      have oA0 := oA
      have K9 := Blk.below K9 hb4 K9.lt
      have nA : (Value.slice Aa nl ca).ownBlock ≠ some g := fun e => by have := (OwnR.block oA g e).1; have := hgW; omega
      have oA := OwnR.lower oA hF.size
      have hF := below_trans hF hF.size hb4
      refine ⟨_, rfl, fun _ => hF, ?_⟩
      go_frame
      clear hb4 hz4
      have hgW : g < v4w.heap.size := K9.lt
      have hz7 : v4w.heap.size = v4w.heap.size := rfl
      refine F_one (i := 7) (s' := #[true, true, true, true, true, true, true, true, false, true, false]) (by kernel_rfl) (by kernel_rfl) (wpOp_enterL (i := 7) (d := some 12) (f := 86) (args := #[.slice ma nm mc]) rfl rfl (by kernel_rfl) (by go_simp) ((cloneInt ma mc ms v4w w2.heap.size (HM2.out.below hF) hF.size (by have := Hnm.out; omega) nm Hnm.out).mono ?_))
      rintro r v7w ⟨vb, rfl, oB, hb7⟩
      obtain ⟨Ab, cb, rfl⟩ : ∃ A c, vb = .slice A nm c := by obtain ⟨A, c, e⟩ := oB.shape; exact ⟨A, c, by rw [e, Hnm.out]⟩
      have oB0 := oB
      have K9 := Blk.below K9 hb7 K9.lt
      have nB : (Value.slice Ab nm cb).ownBlock ≠ some g := fun e => by have := (OwnR.block oB g e).1; have := hgW; omega
      have oA := OwnR.below oA hb7
      have oA0 := oA
      have oB := OwnR.lower oB hF.size
      have hF := below_trans hF hF.size hb7
      refine ⟨_, rfl, fun _ => hF, ?_⟩
      go_frame
      clear hb7 hz7
      refine F_take (i := 8) (d := some 13) (by kernel_rfl) (by kernel_rfl) (by decide) (s' := #[true, true, true, true, true, true, true, true, true, true, false]) (by kernel_rfl) rfl rfl (by kernel_rfl) (by kernel_rfl) (by kernel_rfl) (fun _ _ _ h => h) (Or.inl ⟨by kernel_rfl, fun W hW => by obtain ⟨x0, x1, x2, x3, x4, x5, x6, x7, x8, -⟩ := F2.out W hW; go_simp; try with_reducible rfl⟩) hF ?_
      go_frame
      obtain ⟨u0, u1, u2, u3, u4, u5, u6, u7, u8, uf⟩ := blk9 K9
      refine F_one (i := 10) (s' := #[true, true, true, true, true, true, true, true, true, true, true]) (by kernel_rfl) (by kernel_rfl) (wpOp_skipL (i := 10) (w' := (((((((((v7w.setCell ⟨g, 0, none⟩ (.int .i64 y1)).setCell ⟨g, 1, none⟩ (.int .i64 y2)).setCell ⟨g, 2, none⟩ (.int .i64 y3)).setCell ⟨g, 3, none⟩ (.int .i64 y4)).setCell ⟨g, 4, none⟩ (.int .i64 y5)).setCell ⟨g, 5, none⟩ (.int .i64 y6)).setCell ⟨g, 6, none⟩ (.int .i64 y7)).setCell ⟨g, 7, none⟩ (.slice Aa nl ca)).setCell ⟨g, 8, none⟩ (.slice Ab nm cb))) rfl rfl (by kernel_rfl) (by go_simp) ⟨fun h => absurd h (by decide), ?_⟩)
      go_frame
      refine F_done (by kernel_rfl) ?_ _
      clear u0 u1 u2 u3 u4 u5 u6 u7 u8 uf
      go_wp2_with fail
      go_meet
      case rel => exact ⟨g, Aa, ca, Ab, cb, rfl, Blk.set9 K9 _ _ _ _ _ _ _ _ _, own_far9 oA nA _ _ _ _ _ _ _ _ _, own_far9 oB nB _ _ _ _ _ _ _ _ _, nA, nB, hgl, below_set9 hF hgl _ _ _ _ _ _ _ _ _⟩
  case rest =>
    obtain ⟨k, Aa, ca, Ab, cb, rfl, hkb, hoa, hob, hna, hnb, hkl, hb3⟩ := hcut
    have hsg : SG w2 wc k #[.int .i64 y1, .int .i64 y2, .int .i64 y3, .int .i64 y4, .int .i64 y5, .int .i64 y6, .int .i64 y7, .slice Aa nl ca, .slice Ab nm cb] (.slice Aa nl ca) (.slice Ab nm cb) ls ms wc := ⟨hkb, hoa, hob, hb3, Nat.le_refl _, hkb.lt, fun j e => (hoa.block j e).2, fun j e => (hob.block j e).2⟩
    have hlm : ls.length ≤ 1000 := by have := Hnl.out; omega
    have hmm : ms.length ≤ 1000 := by have := Hnm.out; omega
    have hbl := bytesL_len ⟨y1, y2, y3, y4, y5, y6, y7⟩ ls ms hlm hmm
    have hbo := bytesL_ok ⟨y1, y2, y3, y4, y5, y6, y7⟩ ls ms
    have HR := Lib.hid (lsaRight_any y1 y2 y3 y4 y5 y6 y7 ka kc ls ma mc ms wc w2.heap.size (HL2.out.below hb3) (HM2.out.below hb3) hb3.size (by unfold maxLen; omega) (by unfold maxLen; omega) nl nm Hnl.out Hnm.out Ht.out)
    have HB := Lib.hid (fun W (hW : Below w2.heap.size w2 W) => bytes_any y1 y2 y3 y4 y5 y6 y7 ka kc ls ma mc ms W w2.heap.size (HL2.out.below hW) (HM2.out.below hW) hW.size hlm hmm nl nm Hnl.out Hnm.out)
    have Hsg := Lib.hid hsg
    have Hna := Lib.hid hna
    have Hnb := Lib.hid hnb
    have Hqa : Hid ((Value.slice Aa nl ca).ownBlock ≠ some w1.heap.size) := Lib.hid (fun e => by have := (hoa.block _ e).1; omega)
    have Hqb : Hid ((Value.slice Ab nm cb).ownBlock ≠ some w1.heap.size) := Lib.hid (fun e => by have := (hob.block _ e).1; omega)
    have hwc := hb3.size
    obtain ⟨z0, z1, z2, z3, z4, z5, z6, z7, z8, zf⟩ := F2.out _ hb3
    clear hkb hoa hob hna hnb hb3 hsg hlm hmm
    cases t with
    | false =>
      obtain ⟨rfl, rfl⟩ : y6 = s1 ∧ y7 = s2 := by have := Hs.out; simpa using this
      clear hbl hbo HB
      go_wp2_with (go_at_call 63; (with_reducible refine Calls.mono HR.out ?_); rintro r w4 ⟨rfl, hb4⟩; have Hsg4 := Lib.hid (Hsg.out.below hb4); clear hb4; obtain ⟨u0, u1, u2, u3, u4, u5, u6, u7, u8, uf⟩ := blk9 Hsg4.out.blk; obtain ⟨q0, q1, q2, q3, q4, q5, q6, q7, q8, qf⟩ := blk9 (FQ.out w4 Hsg4.out.bel))
      refine bodyPost_named (v := .agg #[.int .i64 y1, .int .i64 y2, .int .i64 y3, .int .i64 y4, .int .i64 y5, .int .i64 y6, .int .i64 y7, .slice Aa nl ca, .slice Ab nm cb]) (fun W => Blk W w1.heap.size 27 #[.int .i64 y1, .int .i64 y2, .int .i64 y3, .int .i64 y4, .int .i64 y5, .int .i64 y6, .int .i64 y7, .slice Aa nl ca, .slice Ab nm cb]) (Blk.set9 (FQ.out w4 Hsg4.out.bel) _ _ _ _ _ _ _ _ _) (fun W hB => by
        obtain ⟨e0, e1, e2, e3, e4, e5, e6, e7, e8, -⟩ := blk9 hB
        simp [results, Try.results64, go_sem, e0, e1, e2, e3, e4, e5, e6, e7, e8]) rfl ?_
      exact ⟨_, _, rfl, OwnR.lower (own_far9 Hsg4.out.oa Hqa.out _ _ _ _ _ _ _ _ _) (Nat.le_trans hsz Hb2.out.size), OwnR.lower (own_far9 Hsg4.out.ob Hqb.out _ _ _ _ _ _ _ _ _) (Nat.le_trans hsz Hb2.out.size), below_set9 (below_trans Hb.out hsz (below_trans Hb2.out Hb2.out.size Hsg4.out.bel)) hsz _ _ _ _ _ _ _ _ _⟩
    | true =>
      obtain ⟨BL, hBL⟩ : ∃ BL, bytesL ⟨y1, y2, y3, y4, y5, y6, y7⟩ ls ms = BL := ⟨_, rfl⟩
      have hs0 : (sealedH ⟨y1, y2, y3, y4, y5, y6, y7⟩ ls ms).sum = s1 ∧ (sealedH ⟨y1, y2, y3, y4, y5, y6, y7⟩ ls ms).long = s2 := by have := Hs.out; simpa using this
      rw [hBL] at hbl hbo
      simp only [hBL] at HB
      obtain ⟨x0, x1, x2, x3, g0, g1, g2, g3, b0, b1, b2, b3, e1, e2⟩ : ∃ x0 x1 x2 x3, (BL.drop 16)[0]? = some x0 ∧ (BL.drop 16)[1]? = some x1 ∧ (BL.drop 16)[2]? = some x2 ∧ (BL.drop 16)[3]? = some x3 ∧ byteOk x0 ∧ byteOk x1 ∧ byteOk x2 ∧ byteOk x3 ∧ x0 * 256 + x1 = s1 ∧ x2 * 256 + x3 = s2 := by
        unfold sealedH at hs0
        simp only [hBL] at hs0
        have l0 : 16 < BL.length := by omega
        have l1 : 17 < BL.length := by omega
        have l2 : 18 < BL.length := by omega
        have l3 : 19 < BL.length := by omega
        rw [List.getElem?_eq_getElem l0, List.getElem?_eq_getElem l1, List.getElem?_eq_getElem l2, List.getElem?_eq_getElem l3] at hs0
        refine ⟨BL[16], BL[17], BL[18], BL[19], ?_, ?_, ?_, ?_, hbo _ (List.getElem_mem l0), hbo _ (List.getElem_mem l1), hbo _ (List.getElem_mem l2), hbo _ (List.getElem_mem l3), hs0.1, hs0.2⟩
        all_goals rw [List.getElem?_drop, List.getElem?_eq_getElem]
      obtain ⟨NB, hNB⟩ : ∃ NB, BL.length = NB := ⟨_, rfl⟩
      rw [hNB] at hbl
      have HNB := Lib.hid hNB
      have HBL := Lib.hid hBL
      have HX := Lib.hid (show _ ∧ _ ∧ _ ∧ _ from ⟨g0, g1, g2, g3⟩)
      have HY := Lib.hid (show _ ∧ _ ∧ _ ∧ _ from ⟨b0, b1, b2, b3⟩)
      subst e1 e2
      have hn20 : 20 ≤ NB := hbl.1
      have hn21 : NB ≤ 20020 := hbl.2
      clear hNB hBL hs0 hbl hbo g0 g1 g2 g3 b0 b1 b2 b3 Hs
      go_wp2_with (first
        | (go_at_call 63; (with_reducible refine Calls.mono HR.out ?_); rintro r w4 ⟨rfl, hb4⟩; have Hsg4 := Lib.hid (Hsg.out.below hb4); clear hb4; obtain ⟨u0, u1, u2, u3, u4, u5, u6, u7, u8, uf⟩ := F2.out w4 Hsg4.out.bel)
        | (go_at_call 101; (with_reducible refine Calls.mono (HB.out _ Hsg4.out.bel) ?_); rintro r w5 ⟨v, rfl, hown5, hb5⟩; obtain ⟨g5, c5, hc5, hv5⟩ := own_some hown5 HNB.out (by omega); subst hv5; have Hsg5 := Lib.hid (Hsg4.out.below hb5);
            have HR5 := Lib.hid (read_any (some ⟨g5, 16, none⟩) (c5 - 16) (BL.drop 16) w5 w5.heap.size (by have := rows_drop (OwnR.rows (C := 1) (cells := bcell) (fun _ => rfl) hown5).2 16 (by have := HNB.out; omega) (by have := HNB.out; omega); exact this) (Nat.le_refl _) (by have := HNB.out; rw [List.length_drop]; omega) (by have := HNB.out; rw [List.length_drop]; omega) (NB - 16) (by have := HNB.out; rw [List.length_drop]; omega)); clear hown5 hb5; have hc5n : ¬ c5 = 16 := by omega)
        | (go_at_call 100; (with_reducible refine Calls.mono HR5.out ?_); rintro r w6 ⟨k6, rfl, g6, c6, hk6, hc6, hown6, hgk, hk6l, hb6⟩; have Hsg6 := Lib.hid (Hsg5.out.below hb6);
            have hg6 := (OwnB.lt hown6).2;
            have HN1 := Lib.hid (num_two k6 g6 0 (NB - 16) c6 0 x0 x1 w6 hk6 hg6 hgk (own_at hown6 HX.out.1) (own_at hown6 HX.out.2.1) HY.out.1 HY.out.2.1 (by omega) hc6 (by omega));
            have hk6w : wc.heap.size ≤ k6 := Nat.le_trans Hsg5.out.sz hk6l;
            have HC6 := Lib.hid (show _ ∧ _ from ⟨own_at hown6 HX.out.2.2.1, own_at hown6 HX.out.2.2.2⟩); clear hk6 hown6 hb6 hk6l)
        | (go_at_call 102; (with_reducible refine Calls.mono HN1.out ?_); rintro r w7 ⟨rfl, hk7, hg7⟩; have Hsg7 := Lib.hid (Hsg6.out.grown hwc hg7 hk6w);
            have HN2 := Lib.hid (num_two k6 g6 0 (NB - 16) c6 2 x2 x3 w7 hk7 (Nat.lt_of_lt_of_le hg6 hg7.size) hgk ((World.cell?_of_block (w := w6) (hg7.block g6 hg6 (fun e => hgk (Option.some.inj e)))).trans HC6.out.1) ((World.cell?_of_block (w := w6) (hg7.block g6 hg6 (fun e => hgk (Option.some.inj e)))).trans HC6.out.2) HY.out.2.2.1 HY.out.2.2.2 (by omega) hc6 (by omega)); clear hk7 hg7)
        | (go_at_call 102; (with_reducible refine Calls.mono HN2.out ?_); rintro r w8 ⟨rfl, -, hg8⟩; have Hsg8 := Lib.hid (Hsg7.out.grown hwc hg8 hk6w); clear hg8; obtain ⟨p0, p1, p2, p3, p4, p5, p6, p7, p8, pf⟩ := blk9 Hsg8.out.blk; obtain ⟨q0, q1, q2, q3, q4, q5, q6, q7, q8, qf⟩ := blk9 (FQ.out w8 Hsg8.out.bel); have hkq : ¬ k = w1.heap.size := by omega; have hqk : ¬ w1.heap.size = k := by omega)
        | fail)
      with_reducible refine Calls.mono HN2.out ?_
      rintro r w8 ⟨rfl, -, hg8⟩
      have Hsg8 := Lib.hid (Hsg7.out.grown hwc hg8 hk6w)
      clear hg8
      obtain ⟨p0, p1, p2, p3, p4, p5, p6, p7, p8, pf⟩ := blk9 Hsg8.out.blk
      obtain ⟨q0, q1, q2, q3, q4, q5, q6, q7, q8, qf⟩ := blk9 (FQ.out w8 Hsg8.out.bel)
      have hkq : ¬ k = w1.heap.size := by omega
      have hqk : ¬ w1.heap.size = k := by omega
      go_upto_region 5 with fail
      have hk9 : Blk ((w8.setCell ⟨k, 5, none⟩ (.int .i64 (x0 * 256 + x1))).setCell ⟨k, 6, none⟩ (.int .i64 (x2 * 256 + x3))) k 27 #[.int .i64 y1, .int .i64 y2, .int .i64 y3, .int .i64 y4, .int .i64 y5, .int .i64 (x0 * 256 + x1), .int .i64 (x2 * 256 + x3), .slice Aa nl ca, .slice Ab nm cb] := by
        have := (Hsg8.out.blk.set_ 5 (.int .i64 (x0 * 256 + x1))).set_ 6 (.int .i64 (x2 * 256 + x3))
        simpa using this
      have hb9 : Below w2.heap.size w2 ((w8.setCell ⟨k, 5, none⟩ (.int .i64 (x0 * 256 + x1))).setCell ⟨k, 6, none⟩ (.int .i64 (x2 * 256 + x3))) := (Hsg8.out.bel.setCell (p := ⟨k, 5, none⟩) hkl _).setCell (p := ⟨k, 6, none⟩) hkl _
      have oa9 := own_far (own_far Hsg8.out.oa Hna.out 5 (.int .i64 (x0 * 256 + x1))) Hna.out 6 (.int .i64 (x2 * 256 + x3))
      have ob9 := own_far (own_far Hsg8.out.ob Hnb.out 5 (.int .i64 (x0 * 256 + x1))) Hnb.out 6 (.int .i64 (x2 * 256 + x3))
      obtain ⟨w9, hw9⟩ : ∃ w9, ((w8.setCell ⟨k, 5, none⟩ (.int .i64 (x0 * 256 + x1))).setCell ⟨k, 6, none⟩ (.int .i64 (x2 * 256 + x3))) = w9 := ⟨_, rfl⟩
      rw [hw9] at hk9 hb9 oa9 ob9 ⊢
      have Hb9 := Lib.hid hb9
      have Oa9 := Lib.hid oa9
      have Ob9 := Lib.hid ob9
      clear hw9 oa9 ob9 p0 p1 p2 p3 p4 p5 p6 p7 p8 pf q0 q1 q2 q3 q4 q5 q6 q7 q8 qf
      obtain ⟨p0, p1, p2, p3, p4, p5, p6, p7, p8, pf⟩ := blk9 hk9
      obtain ⟨q0, q1, q2, q3, q4, q5, q6, q7, q8, qf⟩ := blk9 (FQ.out w9 hb9)
      clear hk9 hb9
      go_wp2
      refine bodyPost_named (v := .agg #[.int .i64 y1, .int .i64 y2, .int .i64 y3, .int .i64 y4, .int .i64 y5, .int .i64 (x0 * 256 + x1), .int .i64 (x2 * 256 + x3), .slice Aa nl ca, .slice Ab nm cb]) (fun W => Blk W w1.heap.size 27 #[.int .i64 y1, .int .i64 y2, .int .i64 y3, .int .i64 y4, .int .i64 y5, .int .i64 (x0 * 256 + x1), .int .i64 (x2 * 256 + x3), .slice Aa nl ca, .slice Ab nm cb]) (Blk.set9 (FQ.out w9 Hb9.out) _ _ _ _ _ _ _ _ _) (fun W hB => by
        obtain ⟨e0, e1, e2, e3, e4, e5, e6, e7, e8, -⟩ := blk9 hB
        simp [results, Try.results64, go_sem, e0, e1, e2, e3, e4, e5, e6, e7, e8]) rfl ?_
      exact ⟨_, _, rfl, OwnR.lower (own_far9 Oa9.out Hqa.out _ _ _ _ _ _ _ _ _) (Nat.le_trans hsz Hb2.out.size), OwnR.lower (own_far9 Ob9.out Hqb.out _ _ _ _ _ _ _ _ _) (Nat.le_trans hsz Hb2.out.size), below_set9 (below_trans Hb.out hsz (below_trans Hb2.out Hb2.out.size Hb9.out)) hsz _ _ _ _ _ _ _ _ _⟩

end Go.Proofs.Ytmjjmkdjjfmhhaa

/-
  A description of its own: the program's way.
-/
namespace Go.Proofs.Ytmjjmkdjjfmhhaa
open Go.RowKit

set_option maxHeartbeats 8000000 in
set_option maxRecDepth 100000 in
theorem own_any (y1 y2 y3 y4 y5 y6 y7 : Int) (ka : Option Addr) (kc : Nat) (ls : List Lnk) (ma : Option Addr) (mc : Nat) (ms : List Int) (w : World) (B : Nat) (hl : RowsAt 4 Lnk.cells w B ka ls) (hm : RowsAt 1 icell w B ma ms) (hB : B ≤ w.heap.size) (hlm : ls.length ≤ 2 ^ 20) (hmm : ms.length ≤ 2 ^ 20) (nl nm : Nat) (hnl : nl = ls.length) (hnm : nm = ms.length) :
    Calls Try.prog 65 #[.agg #[.int .i64 y1, .int .i64 y2, .int .i64 y3, .int .i64 y4, .int .i64 y5, .int .i64 y6, .int .i64 y7, .slice ka nl kc, .slice ma nm mc]] w fun r w' => ∃ Aa ca Ab cb, r = .returned (.agg #[.int .i64 y1, .int .i64 y2, .int .i64 y3, .int .i64 y4, .int .i64 y5, .int .i64 y6, .int .i64 y7, .slice Aa nl ca, .slice Ab nm cb]) ∧ OwnR 108 4 Lnk.cells w' w.heap.size (.slice Aa nl ca) ls ∧ OwnR 3 1 icell w' w.heap.size (.slice Ab nm cb) ms ∧ Below w.heap.size w w' := by
  obtain ⟨w1, hW1⟩ : ∃ w1, w.alloc (.cells #[.int .i64 y1, .int .i64 y2, .int .i64 y3, .int .i64 y4, .int .i64 y5, .int .i64 y6, .int .i64 y7, .slice ka nl kc, .slice ma nm mc] 27) = w1 := ⟨_, rfl⟩
  have hk := Blk.new w 27 #[.int .i64 y1, .int .i64 y2, .int .i64 y3, .int .i64 y4, .int .i64 y5, .int .i64 y6, .int .i64 y7, .slice ka nl kc, .slice ma nm mc]
  have hb := below_new w (.cells #[.int .i64 y1, .int .i64 y2, .int .i64 y3, .int .i64 y4, .int .i64 y5, .int .i64 y6, .int .i64 y7, .slice ka nl kc, .slice ma nm mc] 27)
  rw [hW1] at hk hb
  have FW := Lib.hid (fun W (hW : Below w1.heap.size w1 W) => blk9 (hk.below hW hk.lt))
  have Hb := Lib.hid hb
  have HL := Lib.hid (rows_keep (hl.more hB) hb)
  have HM := Lib.hid (rows_keep (hm.more hB) hb)
  have hsz := hb.size
  have Hnl := Lib.hid hnl
  have Hnm := Lib.hid hnm
  have hnl2 : nl ≤ 2 ^ 20 := by omega
  have hnm2 : nm ≤ 2 ^ 20 := by omega
  clear hk hb hl hm hB hnl hnm hlm hmm
  go_enter Try.func65, Try.ntmps65
  go_upto_region 1 with fail
  obtain ⟨w2, hW2⟩ : ∃ w2, w1.alloc (.cells #[.int .i64 0, .int .i64 0, .int .i64 0, .int .i64 0, .int .i64 0, .int .i64 0, .int .i64 0, .slice none 0 0, .slice none 0 0] 27) = w2 := ⟨_, rfl⟩
  have hq := Blk.new w1 27 #[.int .i64 0, .int .i64 0, .int .i64 0, .int .i64 0, .int .i64 0, .int .i64 0, .int .i64 0, .slice none 0 0, .slice none 0 0]
  have hb2 := below_new w1 (.cells #[.int .i64 0, .int .i64 0, .int .i64 0, .int .i64 0, .int .i64 0, .int .i64 0, .int .i64 0, .slice none 0 0, .slice none 0 0] 27)
  rw [hW2] at hq hb2 ⊢
  have F2 := Lib.hid (fun W (hW : Below w2.heap.size w2 W) => FW.out W (below_trans hb2 hb2.size hW))
  have FQ := Lib.hid (fun W (hW : Below w2.heap.size w2 W) => hq.below hW hq.lt)
  have HL2 := Lib.hid (rows_keep HL.out hb2)
  have HM2 := Lib.hid (rows_keep HM.out hb2)
  have Hb2 := Lib.hid hb2
  have hq1 : w1.heap.size < w2.heap.size := hq.lt
  clear hW2 hW1 hq hb2 FW HL HM
  refine wp_region_F (F := fun W => Below w2.heap.size w2 W) (n := 9) (m := 10) (s := #[false, false, false, false, false, false, false, false, false, false]) (by kernel_rfl) (by kernel_rfl) (by kernel_rfl) ?_
  intro wd hwd
  have hF : Below w2.heap.size w2 wd := by rw [hwd.out]; exact (Below.refl _ _).drew
  clear hwd
  refine F_take (i := 0) (d := some 3) (by kernel_rfl) (by kernel_rfl) (by decide) (s' := #[true, false, false, false, false, false, false, false, false, false]) (by kernel_rfl) rfl rfl (by kernel_rfl) (by kernel_rfl) (by kernel_rfl) (fun _ _ _ h => h) (Or.inl ⟨by kernel_rfl, fun W hW => by obtain ⟨x0, x1, x2, x3, x4, x5, x6, x7, x8, -⟩ := F2.out W hW; go_simp; try with_reducible rfl⟩) hF ?_
  go_frame
  refine F_take (i := 2) (d := some 5) (by kernel_rfl) (by kernel_rfl) (by decide) (s' := #[true, false, true, false, false, false, false, false, false, false]) (by kernel_rfl) rfl rfl (by kernel_rfl) (by kernel_rfl) (by kernel_rfl) (fun _ _ _ h => h) (Or.inl ⟨by kernel_rfl, fun W hW => by obtain ⟨x0, x1, x2, x3, x4, x5, x6, x7, x8, -⟩ := F2.out W hW; go_simp; try with_reducible rfl⟩) hF ?_
  go_frame
  refine F_take (i := 5) (d := some 8) (by kernel_rfl) (by kernel_rfl) (by decide) (s' := #[true, false, true, false, false, true, false, false, false, false]) (by kernel_rfl) rfl rfl (by kernel_rfl) (by kernel_rfl) (by kernel_rfl) (fun _ _ _ h => h) (Or.inl ⟨by kernel_rfl, fun W hW => by obtain ⟨x0, x1, x2, x3, x4, x5, x6, x7, x8, -⟩ := F2.out W hW; go_simp; try with_reducible rfl⟩) hF ?_
  go_frame
  refine F_take (i := 1) (d := some 4) (by kernel_rfl) (by kernel_rfl) (by decide) (s' := #[true, true, true, false, false, true, false, false, false, false]) (by kernel_rfl) rfl rfl (by kernel_rfl) (by kernel_rfl) (by kernel_rfl) (fun _ _ _ h => h) (Or.inl ⟨by kernel_rfl, fun W hW => by obtain ⟨x0, x1, x2, x3, x4, x5, x6, x7, x8, -⟩ := F2.out W hW; go_simp; try with_reducible rfl⟩) hF ?_
  go_frame
  refine F_take (i := 3) (d := some 6) (by kernel_rfl) (by kernel_rfl) (by decide) (s' := #[true, true, true, true, false, true, false, false, false, false]) (by kernel_rfl) rfl rfl (by kernel_rfl) (by kernel_rfl) (by kernel_rfl) (fun _ _ _ h => h) (Or.inl ⟨by kernel_rfl, fun W hW => by obtain ⟨x0, x1, x2, x3, x4, x5, x6, x7, x8, -⟩ := F2.out W hW; go_simp; try with_reducible rfl⟩) hF ?_
  go_frame
  refine F_take (i := 6) (d := some 9) (by kernel_rfl) (by kernel_rfl) (by decide) (s' := #[true, true, true, true, false, true, true, false, false, false]) (by kernel_rfl) rfl rfl (by kernel_rfl) (by kernel_rfl) (by kernel_rfl) (fun _ _ _ h => h) (Or.inl ⟨by kernel_rfl, fun W hW => by obtain ⟨x0, x1, x2, x3, x4, x5, x6, x7, x8, -⟩ := F2.out W hW; go_simp; try with_reducible rfl⟩) hF ?_
  go_frame
  refine F_one (i := 4) (s' := #[true, true, true, true, true, true, true, false, false, false]) (by kernel_rfl) (by kernel_rfl) (wpOp_enterL (i := 4) (d := some 7) (f := 85) (args := #[.slice ka nl kc]) rfl rfl (by kernel_rfl) (by go_simp) ((cloneLnk ka kc ls wd w2.heap.size (HL2.out.below hF) hF.size (by have := Hnl.out; omega) nl Hnl.out).mono ?_))
  rintro r v4w ⟨va, rfl, oA, hb4⟩
  obtain ⟨Aa, ca, rfl⟩ : ∃ A c, va = .slice A nl c := by obtain ⟨A, c, e⟩ := oA.shape; exact ⟨A, c, by rw [e, Hnl.out]⟩
  have oA := OwnR.lower oA hF.size
  have hF := below_trans hF hF.size hb4
  refine ⟨_, rfl, fun _ => hF, ?_⟩
  go_frame
  clear hb4
  refine F_one (i := 7) (s' := #[true, true, true, true, true, true, true, true, false, false]) (by kernel_rfl) (by kernel_rfl) (wpOp_enterL (i := 7) (d := some 10) (f := 86) (args := #[.slice ma nm mc]) rfl rfl (by kernel_rfl) (by go_simp) ((cloneInt ma mc ms v4w w2.heap.size (HM2.out.below hF) hF.size (by have := Hnm.out; omega) nm Hnm.out).mono ?_))
  rintro r v7w ⟨vb, rfl, oB, hb7⟩
  obtain ⟨Ab, cb, rfl⟩ : ∃ A c, vb = .slice A nm c := by obtain ⟨A, c, e⟩ := oB.shape; exact ⟨A, c, by rw [e, Hnm.out]⟩
  have oA := OwnR.below oA hb7
  have oB := OwnR.lower oB hF.size
  have hF := below_trans hF hF.size hb7
  refine ⟨_, rfl, fun _ => hF, ?_⟩
  go_frame
  clear hb7
  refine F_take (i := 8) (d := some 11) (by kernel_rfl) (by kernel_rfl) (by decide) (s' := #[true, true, true, true, true, true, true, true, true, false]) (by kernel_rfl) rfl rfl (by kernel_rfl) (by kernel_rfl) (by kernel_rfl) (fun _ _ _ h => h) (Or.inl ⟨by kernel_rfl, fun W hW => by obtain ⟨x0, x1, x2, x3, x4, x5, x6, x7, x8, -⟩ := F2.out W hW; go_simp; try with_reducible rfl⟩) hF ?_
  go_frame
  obtain ⟨u0, u1, u2, u3, u4, u5, u6, u7, u8, uf⟩ := blk9 (FQ.out v7w hF)
  refine F_one (i := 9) (s' := #[true, true, true, true, true, true, true, true, true, true]) (by kernel_rfl) (by kernel_rfl) (wpOp_skipL (i := 9) (w' := (((((((((v7w.setCell ⟨w1.heap.size, 0, none⟩ (.int .i64 y1)).setCell ⟨w1.heap.size, 1, none⟩ (.int .i64 y2)).setCell ⟨w1.heap.size, 2, none⟩ (.int .i64 y3)).setCell ⟨w1.heap.size, 3, none⟩ (.int .i64 y4)).setCell ⟨w1.heap.size, 4, none⟩ (.int .i64 y5)).setCell ⟨w1.heap.size, 5, none⟩ (.int .i64 y6)).setCell ⟨w1.heap.size, 6, none⟩ (.int .i64 y7)).setCell ⟨w1.heap.size, 7, none⟩ (.slice Aa nl ca)).setCell ⟨w1.heap.size, 8, none⟩ (.slice Ab nm cb))) rfl rfl (by kernel_rfl) (by go_simp) ⟨fun h => absurd h (by decide), ?_⟩)
  go_frame
  refine F_done (by kernel_rfl) ?_ _
  clear u0 u1 u2 u3 u4 u5 u6 u7 u8 uf
  have Hqa : Hid ((Value.slice Aa nl ca).ownBlock ≠ some w1.heap.size) := Lib.hid (fun e => by have := (OwnR.block oA _ e).1; omega)
  have Hqb : Hid ((Value.slice Ab nm cb).ownBlock ≠ some w1.heap.size) := Lib.hid (fun e => by have := (OwnR.block oB _ e).1; omega)
  have HF := Lib.hid hF
  have OA := Lib.hid oA
  have OB := Lib.hid oB
  clear oA oB hF
  go_wp2
  refine bodyPost_named (v := .agg #[.int .i64 y1, .int .i64 y2, .int .i64 y3, .int .i64 y4, .int .i64 y5, .int .i64 y6, .int .i64 y7, .slice Aa nl ca, .slice Ab nm cb]) (fun W => Blk W w1.heap.size 27 #[.int .i64 y1, .int .i64 y2, .int .i64 y3, .int .i64 y4, .int .i64 y5, .int .i64 y6, .int .i64 y7, .slice Aa nl ca, .slice Ab nm cb]) (Blk.set9 (FQ.out v7w HF.out) _ _ _ _ _ _ _ _ _) (fun W hB => by
    obtain ⟨e0, e1, e2, e3, e4, e5, e6, e7, e8, -⟩ := blk9 hB
    simp [results, Try.results65, go_sem, e0, e1, e2, e3, e4, e5, e6, e7, e8]) rfl ?_
  exact ⟨Aa, ca, Ab, cb, rfl, OwnR.lower (own_far9 OA.out Hqa.out _ _ _ _ _ _ _ _ _) (Nat.le_trans hsz Hb2.out.size), OwnR.lower (own_far9 OB.out Hqb.out _ _ _ _ _ _ _ _ _) (Nat.le_trans hsz Hb2.out.size), below_set9 (below_trans Hb.out hsz (below_trans Hb2.out Hb2.out.size HF.out)) hsz _ _ _ _ _ _ _ _ _⟩

end Go.Proofs.Ytmjjmkdjjfmhhaa
