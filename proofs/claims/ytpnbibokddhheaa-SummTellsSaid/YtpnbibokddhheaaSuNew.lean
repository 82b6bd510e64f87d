/-
  Layer 13: the heads that are told: the program's way.
-/
import Derived.Test.YtpnbibokddhheaaXsAt
import Derived.Test.YtpnbibokddhheaaRegionP
import Derived.Test.YtpnbibokddhheaaRegionF
import Derived.Test.YtpnbibokddhheaaOwnR
namespace Go.Proofs.Ytpnbibokddhheaa
open Go.RowKit Go.Sort

theorem infoHd13 : (Try.prog.info? 34).map (fun i => (i.zero, i.size, i.bytes)) = some (some (.agg #[.int .i64 0, .int .i64 0, .int .i64 0, .int .i64 0, .int .i64 0, .int .i64 0, .int .i64 0]), 7, 56) := by kernel_rfl
theorem onesHd13 (x : Hd) : ∀ u ∈ Hd.cells x, u.oneCell' = true := by
  intro u hu
  simp [Hd.cells] at hu
  rcases hu with rfl | rfl | rfl | rfl | rfl | rfl | rfl <;> rfl
/-- the heads of what isn't gone -/
def headsOf (l : List Lsa) : List Hd := (l.filter fun x => decide (x.head.age ≠ 60)).map fun x => x.head
theorem heads_more {l : List Lsa} {k : Nat} (hk : k < l.length) : headsOf (l.take (k + 1)) = headsOf (l.take k) ++ if l[k].head.age = 60 then [] else [l[k].head] := by
  unfold headsOf
  rw [List.take_succ_eq_append_getElem hk, List.filter_append, List.map_append]
  congr 1
  by_cases h : l[k].head.age = 60 <;> simp [h]
theorem heads_len (l : List Lsa) : (headsOf l).length ≤ l.length := by
  unfold headsOf
  rw [List.length_map]
  exact List.length_filter_le _ _
/-- a summary, in memory -/
structure SmAt (W : World) (s : Nat) (v : Value) (at_ : Int) (H : List Hd) : Prop where
  ptr : Blk W s 81 #[v, .int .i64 at_]
  own : OwnR 34 7 Hd.cells W (s + 1) v H
theorem SmAt.keep {W W' : World} {s : Nat} {v : Value} {at_ : Int} {H : List Hd} (h : SmAt W s v at_ H) (hb : Below W.heap.size W W') : SmAt W' s v at_ H := ⟨h.ptr.below hb h.ptr.lt, h.own.below hb⟩

set_option maxHeartbeats 8000000 in
set_option maxRecDepth 100000 in
theorem SuNew_any (A : Option Addr) (c : Nat) (l : List Lsa) (w : World) (B : Nat) (h : RowsAt 9 Lsa.cells w B A l) (hB : B ≤ w.heap.size) (hm : l.length ≤ 2 ^ 20) (nn : Nat) (hnn : nn = l.length) (K : List Hd)
    (HS : ∀ W v, OwnR 34 7 Hd.cells W (w.heap.size + 1) v (headsOf l) → Calls Try.prog 44 #[v, .func (.func 45) #[] #[]] W fun r W' => r = .returned (.tuple #[]) ∧ OwnR 34 7 Hd.cells W' (w.heap.size + 1) v K ∧ W.grownBy W' v.ownBlock) :
    Calls Try.prog 10 #[.slice A nn c] w fun r w' => r = .returned (.pointer (some ⟨w.heap.size, 0, none⟩)) ∧ (∃ v, SmAt w' w.heap.size v 0 K) ∧ Below w.heap.size w w' := by
  subst hnn
  obtain ⟨s, hs⟩ : ∃ s, w.heap.size = s := ⟨_, rfl⟩
  have HL := Lib.hid h
  have HSo := Lib.hid HS
  have Hs := Lib.hid (show w.heap.size ≤ s by omega)
  have hm' : (l.length : Int) ≤ 9223372036854775807 := by omega
  obtain ⟨w1, hw1⟩ : ∃ w1, w.alloc (.cells #[.slice none 0 0, .int .i64 0] 81) = w1 := ⟨_, rfl⟩
  have hk1 := Blk.new w 81 #[.slice none 0 0, .int .i64 0]
  have hb1 := below_new w (.cells #[.slice none 0 0, .int .i64 0] 81)
  rw [hw1, hs] at hk1
  rw [hw1] at hb1
  have S1 := Lib.hid (show SmAt w1 s (.slice none 0 0) 0 [] from ⟨hk1, OwnR.nil _ _⟩)
  have B1 := Lib.hid hb1
  clear h HS hk1 hb1
  go_enter Try.func10, Try.ntmps10
  go_wp2
  go_loopw [10] (fun i wr => ∃ (k : Nat) (v : Value), i = .int .i64 k ∧ k ≤ l.length ∧ SmAt wr s v 0 (headsOf (l.take k)) ∧ Below w.heap.size w wr) (fun i _ => l.length - (intOf i).toNat)
  case atStart => exact ⟨0, _, rfl, Nat.zero_le _, S1.out, B1.out⟩
  case round =>
    obtain ⟨k, v, rfl, hk, hsm, hb⟩ := hrel
    clear S1 B1
    by_cases hlt : k < l.length
    · obtain ⟨g, o, hA, -, x0, x1, x2, x3, x4, x5, x6, x7, x8⟩ := row_lsa9b (HL.out.below (hb.mono hB)) k hlt
      have hkl : (k : Int) < (l.length : Int) := by omega
      have hmore := heads_more hlt
      have HA := Lib.hid hA
      rw [hA]
      have Hlt := Lib.hid hlt
      generalize l[k] = x at *
      obtain ⟨⟨y1, y2, y3, y4, y5, y6, y7⟩, ka, kc, ls, ma, mc, ms⟩ := x
      simp only at x0 x1 x2 x3 x4 x5 x6 x7 x8 hmore
      obtain ⟨nl, hnl⟩ : ∃ nl, ls.length = nl := ⟨_, rfl⟩
      obtain ⟨nm, hnm⟩ : ∃ nm, ms.length = nm := ⟨_, rfl⟩
      rw [hnl] at x7
      rw [hnm] at x8
      have HHl := Lib.hid (show (headsOf (l.take k)).length ≤ 2 ^ 20 from Nat.le_trans (heads_len _) (by rw [List.length_take]; omega))
      have Hmore := Lib.hid hmore
      obtain ⟨H, hH⟩ : ∃ H, headsOf (l.take k) = H := ⟨_, rfl⟩
      rw [hH] at hsm HHl Hmore
      clear hmore hH
      obtain ⟨A7, c7, hv7⟩ := hsm.own.shape
      subst hv7
      obtain ⟨w8, hw8⟩ : ∃ w8, wr.alloc (.cells #[.int .i64 y1, .int .i64 y2, .int .i64 y3, .int .i64 y4, .int .i64 y5, .int .i64 y6, .int .i64 y7, .slice ka nl kc, .slice ma nm mc] 38) = w8 := ⟨_, rfl⟩
      obtain ⟨g8, hg8⟩ : ∃ g8, wr.heap.size = g8 := ⟨_, rfl⟩
      have hk8 := Blk.new wr 38 #[.int .i64 y1, .int .i64 y2, .int .i64 y3, .int .i64 y4, .int .i64 y5, .int .i64 y6, .int .i64 y7, .slice ka nl kc, .slice ma nm mc]
      have hb8 := below_new wr (.cells #[.int .i64 y1, .int .i64 y2, .int .i64 y3, .int .i64 y4, .int .i64 y5, .int .i64 y6, .int .i64 y7, .slice ka nl kc, .slice ma nm mc] 38)
      rw [hw8, hg8] at hk8
      rw [hw8] at hb8
      have K8 := Lib.hid hk8
      have S8 := Lib.hid (hsm.keep hb8)
      have B8 := Lib.hid (below_trans hb hb.size hb8)
      have Hg8 := Lib.hid (show (Value.slice A7 H.length c7).ownBlock ≠ some g8 from fun e => by have := (hsm.own.block _ e).2; omega)
      obtain ⟨z0, z1, z2, z3, z4, z5, z6, z7, z8, zf⟩ := blk9 hk8
      by_cases h60 : y1 = 60
      · subst h60
        rw [if_pos rfl, List.append_nil] at Hmore
        clear hnl hnm hA hlt hk8 hb8 hk hsm hb
        go_wp2
        go_roundw
        case measure => have := Hlt.out; simp only [intOf]; omega
        case rel => exact ⟨k + 1, _, by go_num, Hlt.out, by rw [Hmore.out]; exact S8.out, B8.out⟩
      · rw [if_neg h60] at Hmore
        have FF := Lib.hid (show ∀ W, Blk W s 81 #[.slice A7 H.length c7, .int .i64 0] → Blk W g8 38 #[.int .i64 y1, .int .i64 y2, .int .i64 y3, .int .i64 y4, .int .i64 y5, .int .i64 y6, .int .i64 y7, .slice ka nl kc, .slice ma nm mc] → (W.cell? ⟨s, 0, none⟩ = some (.slice A7 H.length c7) ∧ W.cell? ⟨g8, 0, none⟩ = some (.int .i64 y1) ∧ W.cell? ⟨g8, 1, none⟩ = some (.int .i64 y2) ∧ W.cell? ⟨g8, 2, none⟩ = some (.int .i64 y3) ∧ W.cell? ⟨g8, 3, none⟩ = some (.int .i64 y4) ∧ W.cell? ⟨g8, 4, none⟩ = some (.int .i64 y5) ∧ W.cell? ⟨g8, 5, none⟩ = some (.int .i64 y6) ∧ W.cell? ⟨g8, 6, none⟩ = some (.int .i64 y7)) from
          fun W h1 h2 => ⟨h1.cell 0, h2.cell 0, h2.cell 1, h2.cell 2, h2.cell 3, h2.cell 4, h2.cell 5, h2.cell 6⟩)
        clear hnl hnm hA hlt hk8 hb8 hk hsm hb
        go_wp2
        refine wp_region_F (F := fun W => W.cell? ⟨s, 0, none⟩ = some (.slice A7 H.length c7) ∧ W.cell? ⟨g8, 0, none⟩ = some (.int .i64 y1) ∧ W.cell? ⟨g8, 1, none⟩ = some (.int .i64 y2) ∧ W.cell? ⟨g8, 2, none⟩ = some (.int .i64 y3) ∧ W.cell? ⟨g8, 3, none⟩ = some (.int .i64 y4) ∧ W.cell? ⟨g8, 4, none⟩ = some (.int .i64 y5) ∧ W.cell? ⟨g8, 5, none⟩ = some (.int .i64 y6) ∧ W.cell? ⟨g8, 6, none⟩ = some (.int .i64 y7)) (n := 11) (m := 12) (s := #[false, false, false, false, false, false, false, false, false, false, false, false]) (by kernel_rfl) (by kernel_rfl) (by kernel_rfl) ?_
        intro wd hwd
        have hbd : Below w8.heap.size w8 wd := by rw [hwd.out]; exact (Below.refl _ _).drew
        have S9 := S8.out.keep hbd
        have B9 := below_trans B8.out B8.out.size hbd
        have hF := FF.out wd S9.ptr (K8.out.below hbd K8.out.lt)
        have K9 := K8.out.below hbd K8.out.lt
        clear hwd hbd
        refine F_take (i := 0) (d := some 18) (by kernel_rfl) (by kernel_rfl) (by decide) (s' := #[true, false, false, false, false, false, false, false, false, false, false, false]) (by kernel_rfl) rfl rfl (by kernel_rfl) (by kernel_rfl) (by kernel_rfl) (fun _ _ _ h => h) (Or.inl ⟨by kernel_rfl, fun W hW => by obtain ⟨c0, x0, x1, x2, x3, x4, x5, x6⟩ := hW; go_simp; try with_reducible rfl⟩) hF ?_
        go_frame
        refine F_take (i := 1) (d := some 19) (by kernel_rfl) (by kernel_rfl) (by decide) (s' := #[true, true, false, false, false, false, false, false, false, false, false, false]) (by kernel_rfl) rfl rfl (by kernel_rfl) (by kernel_rfl) (by kernel_rfl) (fun _ _ _ h => h) (Or.inl ⟨by kernel_rfl, fun W hW => by obtain ⟨c0, x0, x1, x2, x3, x4, x5, x6⟩ := hW; go_simp; try with_reducible rfl⟩) hF ?_
        go_frame
        refine F_take (i := 2) (d := some 20) (by kernel_rfl) (by kernel_rfl) (by decide) (s' := #[true, true, true, false, false, false, false, false, false, false, false, false]) (by kernel_rfl) rfl rfl (by kernel_rfl) (by kernel_rfl) (by kernel_rfl) (fun _ _ _ h => h) (Or.inl ⟨by kernel_rfl, fun W hW => by obtain ⟨c0, x0, x1, x2, x3, x4, x5, x6⟩ := hW; go_simp; try with_reducible rfl⟩) hF ?_
        go_frame
        refine F_take (i := 3) (d := some 21) (by kernel_rfl) (by kernel_rfl) (by decide) (s' := #[true, true, true, true, false, false, false, false, false, false, false, false]) (by kernel_rfl) rfl rfl (by kernel_rfl) (by kernel_rfl) (by kernel_rfl) (fun _ _ _ h => h) (Or.inl ⟨by kernel_rfl, fun W hW => by obtain ⟨c0, x0, x1, x2, x3, x4, x5, x6⟩ := hW; go_simp; try with_reducible rfl⟩) hF ?_
        go_frame
        refine F_take (i := 4) (d := some 22) (by kernel_rfl) (by kernel_rfl) (by decide) (s' := #[true, true, true, true, true, false, false, false, false, false, false, false]) (by kernel_rfl) rfl rfl (by kernel_rfl) (by kernel_rfl) (by kernel_rfl) (fun _ _ _ h => h) (Or.inl ⟨by kernel_rfl, fun W hW => by obtain ⟨c0, x0, x1, x2, x3, x4, x5, x6⟩ := hW; go_simp; try with_reducible rfl⟩) hF ?_
        go_frame
        refine F_take (i := 5) (d := some 23) (by kernel_rfl) (by kernel_rfl) (by decide) (s' := #[true, true, true, true, true, true, false, false, false, false, false, false]) (by kernel_rfl) rfl rfl (by kernel_rfl) (by kernel_rfl) (by kernel_rfl) (fun _ _ _ h => h) (Or.inl ⟨by kernel_rfl, fun W hW => by obtain ⟨c0, x0, x1, x2, x3, x4, x5, x6⟩ := hW; go_simp; try with_reducible rfl⟩) hF ?_
        go_frame
        refine F_take (i := 6) (d := some 24) (by kernel_rfl) (by kernel_rfl) (by decide) (s' := #[true, true, true, true, true, true, true, false, false, false, false, false]) (by kernel_rfl) rfl rfl (by kernel_rfl) (by kernel_rfl) (by kernel_rfl) (fun _ _ _ h => h) (Or.inl ⟨by kernel_rfl, fun W hW => by obtain ⟨c0, x0, x1, x2, x3, x4, x5, x6⟩ := hW; go_simp; try with_reducible rfl⟩) hF ?_
        go_frame
        refine F_one (i := 7) (s' := #[true, true, true, true, true, true, true, true, false, false, false, false]) (by kernel_rfl) (by kernel_rfl) (wpOp_valueL (i := 7) (d := some 25) (w' := wd.alloc (.cells #[.int .i64 y1, .int .i64 y2, .int .i64 y3, .int .i64 y4, .int .i64 y5, .int .i64 y6, .int .i64 y7] 34)) (v := .slice (some ⟨wd.heap.size, 0, none⟩) 1 1) rfl rfl (by kernel_rfl) (by go_simp) ⟨fun _ => FF.out _ (S9.ptr.alloc _) (K9.alloc _), ?_⟩)
        go_frame
        obtain ⟨v5, w5, hrun, hown5, hg5, hor5⟩ := app_row_run (e := 34) (sl := 27) Hd.cells (fun _ => rfl) (by decide) (bytes := 56) (by decide) infoHd13 rfl Try.underlying27 onesHd13 27 (s + 1) (.slice A7 H.length c7) H (S9.own.alloc (.cells #[.int .i64 y1, .int .i64 y2, .int .i64 y3, .int .i64 y4, .int .i64 y5, .int .i64 y6, .int .i64 y7] 34)) wd.heap.size ⟨y1, y2, y3, y4, y5, y6, y7⟩ (Blk.new wd _ _) (by have := HHl.out; omega) (by have := S9.ptr.lt; simp; omega)
        have hs5 := (S9.ptr.alloc (.cells #[.int .i64 y1, .int .i64 y2, .int .i64 y3, .int .i64 y4, .int .i64 y5, .int .i64 y6, .int .i64 y7] 34)).grown hg5 (fun e => by have := (S9.own.block s e.symm).1; omega)
        have hk5 := (K9.alloc (.cells #[.int .i64 y1, .int .i64 y2, .int .i64 y3, .int .i64 y4, .int .i64 y5, .int .i64 y6, .int .i64 y7] 34)).grown hg5 (fun e => Hg8.out e.symm)
        refine F_one (i := 8) (s' := #[true, true, true, true, true, true, true, true, true, false, false, false]) (by kernel_rfl) (by kernel_rfl) (wpOp_appendL (i := 8) (d := some 26) (t := 27) rfl rfl rfl (by kernel_rfl) rfl (by rfl) (by rfl) hrun ⟨fun _ => FF.out _ hs5 hk5, ?_⟩)
        go_frame
        have hF5 := FF.out w5 hs5 hk5
        refine F_take (i := 9) (d := some 27) (by kernel_rfl) (by kernel_rfl) (by decide) (s' := #[true, true, true, true, true, true, true, true, true, true, false, false]) (by kernel_rfl) rfl rfl (by kernel_rfl) (by kernel_rfl) (by kernel_rfl) (fun _ _ _ h => h) (Or.inl ⟨by kernel_rfl, fun W hW => by obtain ⟨c0, x0, x1, x2, x3, x4, x5, x6⟩ := hW; go_simp; try with_reducible rfl⟩) hF5 ?_
        go_frame
        refine F_take (i := 10) (d := some 28) (by kernel_rfl) (by kernel_rfl) (by decide) (s' := #[true, true, true, true, true, true, true, true, true, true, true, false]) (by kernel_rfl) rfl rfl (by kernel_rfl) (by kernel_rfl) (by kernel_rfl) (fun _ _ _ h => h) (Or.inl ⟨by kernel_rfl, fun W hW => by obtain ⟨c0, x0, x1, x2, x3, x4, x5, x6⟩ := hW; go_simp; try with_reducible rfl⟩) hF5 ?_
        go_frame
        obtain ⟨A5, c5, hv5⟩ := hown5.shape
        subst hv5
        obtain ⟨n5, hn5⟩ : ∃ n5, (H ++ [(⟨y1, y2, y3, y4, y5, y6, y7⟩ : Hd)]).length = n5 := ⟨_, rfl⟩
        rw [hn5] at hown5 hor5 ⊢
        have hsf := hs5.frozen 0
        have hsc := hs5.cell 0
        simp only [List.getElem?_toArray, List.getElem?_cons_zero] at hsc
        refine F_one (i := 11) (s' := #[true, true, true, true, true, true, true, true, true, true, true, true]) (by kernel_rfl) (by kernel_rfl) (wpOp_skipL (i := 11) (w' := w5.setCell ⟨s, 0, none⟩ (.slice A5 n5 c5)) rfl rfl (by kernel_rfl) (by go_simp) ⟨fun h => absurd h (by decide), ?_⟩)
        go_frame
        refine F_done (by kernel_rfl) ?_ _
        have hblk5 : Blk (w5.setCell ⟨s, 0, none⟩ (.slice A5 n5 c5)) s 81 #[.slice A5 n5 c5, .int .i64 0] := by simpa using hs5.set_ 0 (.slice A5 n5 c5)
        have S10 := Lib.hid (show SmAt (w5.setCell ⟨s, 0, none⟩ (.slice A5 n5 c5)) s (.slice A5 n5 c5) 0 (H ++ [⟨y1, y2, y3, y4, y5, y6, y7⟩]) from ⟨hblk5, hown5.set_ (by simp) _⟩)
        have B10 := Lib.hid (show Below w.heap.size w (w5.setCell ⟨s, 0, none⟩ (.slice A5 n5 c5)) from ((B9.alloc B9.size (.cells #[.int .i64 y1, .int .i64 y2, .int .i64 y3, .int .i64 y4, .int .i64 y5, .int .i64 y6, .int .i64 y7] 34)).grown hg5 (by have := B9.size; simp; omega) (fun m e => by have := (S9.own.block m e).1; have := Hs.out; omega)).setCell (p := ⟨s, 0, none⟩) (by have := Hs.out; simpa using this) _)
        clear hblk5 hs5 hk5 hown5 hor5 hg5 hrun hF S9 K9 B9 hsf hsc hn5
        go_wp2
        go_roundw
        case measure => have := Hlt.out; simp only [intOf]; omega
        case rel => exact ⟨k + 1, _, by go_num, Hlt.out, by rw [Hmore.out]; exact S10.out, B10.out⟩
    · have hke : k = l.length := by omega
      subst hke
      have hkl : ¬ (l.length : Int) < (l.length : Int) := by omega
      rw [List.take_length] at hsm
      obtain ⟨A7, c7, hv7⟩ := hsm.own.shape
      subst hv7
      have S8 := Lib.hid hsm
      have B8 := Lib.hid hb
      have hcell := hsm.ptr.cell 0
      simp only [List.getElem?_toArray, List.getElem?_cons_zero] at hcell
      obtain ⟨nh, hnh⟩ : ∃ nh, (headsOf l).length = nh := ⟨_, rfl⟩
      rw [hnh] at hcell
      have hS := HSo.out wr _ (by have := S8.out.own; rw [← hs] at this; exact this)
      rw [hnh] at hS
      have HS2 := Lib.hid hS
      have Hnh := Lib.hid hnh
      clear hsm hb hlt hS hnh
      go_wp2_with fail
      with_reducible refine Calls.mono HS2.out ?_
      rintro r w9 ⟨rfl, hown9, hg9⟩
      have hown8 := S8.out.own
      have hptr8 := S8.out.ptr
      rw [Hnh.out] at hown8 hptr8
      have S9 := Lib.hid (show SmAt w9 s (.slice A7 nh c7) 0 K from ⟨hptr8.grown hg9 (fun e => by have := (hown8.block s e.symm).1; omega), by rw [← hs]; exact hown9⟩)
      have B9 := Lib.hid (show Below w.heap.size w w9 from B8.out.grown hg9 B8.out.size (fun m e => by have := (hown8.block m e).1; omega))
      clear hown9 hg9 hown8 hptr8
      go_wp2
      go_ret
      exact ⟨by rw [hs]; rfl, ⟨_, by rw [hs]; exact S9.out⟩, B9.out⟩

end Go.Proofs.Ytpnbibokddhheaa
