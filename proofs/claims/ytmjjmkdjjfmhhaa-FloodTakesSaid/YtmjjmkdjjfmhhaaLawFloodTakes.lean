/-
  The law FloodTakes: its walk.
-/
import Derived.Test.YtmjjmkdjjfmhhaaFlWakes
import Derived.Test.YtmjjmkdjjfmhhaaLsMany
import Derived.Test.YtmjjmkdjjfmhhaaRdTake
import Derived.Test.YtmjjmkdjjfmhhaaRegionP
import Derived.Test.YtmjjmkdjjfmhhaaLsaOpen
namespace Go.Proofs.Ytmjjmkdjjfmhhaa
open Go.RowKit

section
variable {P : Program} {ops : Array Oper} {md : Region.Mode} {F F2 : World → Prop} {n : Nat} {Q : Exit → Act → World → Prop}
theorem wpAnyF_class (hF : ∀ W, F2 W → F W) : ∀ (f : Nat) (s : Array Bool) (a : Act) (w : World), wpAnyF P md ops Q F2 n f s a w → wpAnyF P md ops Q F n f s a w
  | 0, _, _, _, h => h
  | f + 1, _, _, _, h => ⟨h.1, fun i hi => wpOp_mono (fun a' w' h' => ⟨fun hin => hF _ (h'.1 hin), wpAnyF_class hF f _ a' w' h'.2⟩) (h.2 i hi)⟩
end
theorem TK.lenM {w W : World} {p b q : Nat} {room : Int} {M : List Lsa} {v : Value} {L : List Lsa} (h : TK w W p b q room M v L) (hr : room ≤ 40) : M.length ≤ 2 ^ 20 := by have := h.le; omega
theorem TK.len {w W : World} {p b q : Nat} {room : Int} {M : List Lsa} {v : Value} {L : List Lsa} (h : TK w W p b q room M v L) (hr : room ≤ 40) : L.length ≤ 2 ^ 20 := by have := h.le; have := h.eq.len; omega
theorem TK.agesL {w W : World} {p b q : Nat} {room : Int} {M : List Lsa} {v : Value} {L : List Lsa} (h : TK w W p b q room M v L) : agesX L := by
  intro y hy
  have h1 : vX y ∈ M.map vX := h.eq.perm.symm.subset (List.mem_map_of_mem hy)
  obtain ⟨z, hz, he⟩ := List.mem_map.1 h1
  have := h.ages z hz
  rw [show z.head = y.head from congrArg (fun v : VX => v.1) he] at this
  exact this
theorem row_t {w : World} {B : Nat} {A : Option Addr} {l : List Bool} (h : RowsAt 1 tcell w B A l) (k : Nat) (hk : k < l.length) : ∃ b o, A = some ⟨b, o, none⟩ ∧ b < B ∧ w.cell? ⟨b, o + k, none⟩ = some (.bool l[k]) := by
  obtain ⟨b, o, e, hb, hc⟩ := h (by omega)
  exact ⟨b, o, e, hb, by simpa using hc k hk 0 _ (by omega) rfl⟩
set_option maxHeartbeats 8000000 in
set_option maxRecDepth 100000 in
theorem floodTakes_any (room : Int) (A : Option Addr) (cap : Nat) (l : List Lsa) (At : Option Addr) (ct : Nat) (bs : List Bool) (w : World) (hl : LsasAt w w.heap.size A l) (hm : l.length ≤ maxLen) (hbs : RowsAt 1 tcell w w.heap.size At bs) (hbm : bs.length ≤ maxLen) :
    Calls Try.prog 5 #[.int .i64 room, .slice A l.length cap, .slice At bs.length ct] w fun r w' => r = .returned (.bool true) ∧ Below w.heap.size w w' := by
  have HL := Lib.hid hl
  have HT := Lib.hid hbs
  obtain ⟨t, ht⟩ : ∃ t, manyB 60 l = t := ⟨_, rfl⟩
  have HMany := Lib.hid (fun W (hW : Below w.heap.size w W) => many18 A cap l W w.heap.size (hl.rows.below hW) hW.size hm l.length rfl ht)
  have Ht := Lib.hid ht
  have hm' : (l.length : Int) ≤ 9223372036854775807 := by unfold maxLen at hm; omega
  have hbm' : (bs.length : Int) ≤ 9223372036854775807 := by unfold maxLen at hbm; omega
  clear hl hm ht hbs hbm
  go_enter Try.func5, Try.ntmps5
  go_wp2_with fail
  with_reducible refine Calls.mono (wakes18 _) ?_
  rintro r w1 ⟨rfl, hb1⟩
  have Hb1 := Lib.hid hb1
  clear hb1
  go_wp2_with fail
  with_reducible refine Calls.mono (HMany.out _ Hb1.out) ?_
  rintro r w2 ⟨rfl, hb2⟩
  have Hb2 := Lib.hid (below_trans Hb1.out Hb1.out.size hb2)
  clear hb2
  cases t with
  | true =>
    go_wp2
    go_ret
    exact ⟨rfl, Hb2.out⟩
  | false =>
    obtain ⟨hl60, hlens⟩ := manyB_lens Ht.out
    have Hlens := Lib.hid hlens
    clear hlens
    go_wp2_with fail
    with_reducible refine Calls.mono (DbNew room _) ?_
    rintro r w3 ⟨rfl, hd3, hb3⟩
    obtain ⟨p, hp⟩ : ∃ p, w2.heap.size + 1 = p := ⟨_, rfl⟩
    obtain ⟨b, hb⟩ : ∃ b, w2.heap.size = b := ⟨_, rfl⟩
    obtain ⟨rm, hrm⟩ : ∃ rm, min (max room 1) 40 = rm := ⟨_, rfl⟩
    have Hrm := Lib.hid (show rm ≤ 40 by omega)
    have Hrm1 := Lib.hid (show 1 ≤ rm by omega)
    rw [hp, hb, hrm] at hd3
    rw [hp]
    have HD3 := Lib.hid hd3
    have HB3 := Lib.hid hb3
    have HRM := Lib.hid hrm
    have HPB := Lib.hid (show p = b + 1 ∧ w.heap.size ≤ b from ⟨by omega, by rw [← hb]; exact Hb2.out.size⟩)
    clear hd3 hb3 hp hb hrm
    go_wp2_with fail
    with_reducible refine Calls.mono (RdNew room _) ?_
    rintro r w4 ⟨rfl, hr4, hb4⟩
    obtain ⟨q, hq⟩ : ∃ q, w3.heap.size = q := ⟨_, rfl⟩
    rw [hq, HRM.out] at hr4
    rw [hq]
    have T0 := Lib.hid (show TK w w4 p b q rm [] (.slice none 0 0) [] from
      ⟨below_trans (below_trans Hb2.out Hb2.out.size HB3.out) (Nat.le_trans Hb2.out.size HB3.out.size) hb4, HD3.out.keep hb4, hr4, DEq.nil, by have := Hrm1.out; simp; omega, (by intro x hx; cases hx), HPB.out.2, by rw [← hq]; exact Nat.le_trans Hb2.out.size HB3.out.size, by have := HD3.out.ptr.lt; omega, (by intro e; cases e), (by intro x hx; cases hx), (by intro x hx; cases hx)⟩)
    clear hq hr4 hb4
    go_wp2
    go_loopw [22] (fun i wr => ∃ (k : Nat) (M : List Lsa) (v : Value) (L : List Lsa), i = .int .i64 k ∧ k ≤ l.length ∧ TK w wr p b q rm M v L) (fun i _ => l.length - (intOf i).toNat)
    case atStart => exact ⟨0, [], _, [], rfl, Nat.zero_le _, T0.out⟩
    case round =>
      obtain ⟨k, M, v, L, rfl, hk, htk⟩ := hrel
      clear T0
      by_cases hlt : k < l.length
      · obtain ⟨g, o, hA, -, x0, x1, x2, x3, x4, x5, x6, x7, x8⟩ := row_lsa9 (HL.out.rows.below htk.bel) k hlt
        have hok := HL.out.each l[k] (List.getElem_mem hlt)
        have hln := Hlens.out l[k] (List.getElem_mem hlt)
        have hkl : (k : Int) < (l.length : Int) := by omega
        have HA := Lib.hid hA
        rw [hA]
        have Hlt := Lib.hid hlt
        generalize l[k] = x at *
        obtain ⟨⟨y1, y2, y3, y4, y5, y6, y7⟩, ka, kc, ls, ma, mc, ms⟩ := x
        have hls := hok.links
        have hms := hok.members
        simp only at x0 x1 x2 x3 x4 x5 x6 x7 x8 hln hls hms
        obtain ⟨nl, hnl⟩ : ∃ nl, ls.length = nl := ⟨_, rfl⟩
        obtain ⟨nm, hnm⟩ : ∃ nm, ms.length = nm := ⟨_, rfl⟩
        rw [hnl] at x7
        rw [hnm] at x8
        have Hls := Lib.hid hls
        have Hms := Lib.hid hms
        have Hn := Lib.hid (show nl = ls.length ∧ nm = ms.length ∧ ls.length ≤ 1000 ∧ ms.length ≤ 1000 by omega)
        obtain ⟨w8, hw8⟩ : ∃ w8, wr.alloc (.cells #[.int .i64 y1, .int .i64 y2, .int .i64 y3, .int .i64 y4, .int .i64 y5, .int .i64 y6, .int .i64 y7, .slice ka nl kc, .slice ma nm mc] 27) = w8 := ⟨_, rfl⟩
        obtain ⟨gx, hgx⟩ : ∃ gx, wr.heap.size = gx := ⟨_, rfl⟩
        have hk8 := Blk.new wr 27 #[.int .i64 y1, .int .i64 y2, .int .i64 y3, .int .i64 y4, .int .i64 y5, .int .i64 y6, .int .i64 y7, .slice ka nl kc, .slice ma nm mc]
        have hb8 := below_new wr (.cells #[.int .i64 y1, .int .i64 y2, .int .i64 y3, .int .i64 y4, .int .i64 y5, .int .i64 y6, .int .i64 y7, .slice ka nl kc, .slice ma nm mc] 27)
        rw [hw8, hgx] at hk8
        rw [hw8] at hb8
        have K8 := Lib.hid hk8
        have T8 := Lib.hid (htk.keep hb8)
        have Hgx := Lib.hid (show gx ≠ q ∧ v.ownBlock ≠ some gx from ⟨by have := htk.rd.ptr.lt; omega, fun e => by have := (htk.rd.xs.own.block _ e).2; omega⟩)
        have hcs : (∃ (bz : Bool) (gt ot : Nat), At = some ⟨gt, ot, none⟩ ∧ (k : Int) < (bs.length : Int) ∧ w8.cell? ⟨gt, ot + k, none⟩ = some (.bool bz)) ∨ ¬ (k : Int) < (bs.length : Int) := by
          by_cases hkb : k < bs.length
          · obtain ⟨gt, ot, e, -, hc⟩ := row_t (HT.out.below T8.out.bel) k hkb
            exact .inl ⟨_, gt, ot, e, by omega, hc⟩
          · exact .inr (by omega)
        clear hls hms hln hok hnl hnm hA hlt htk hk8 hb8 hk
        rcases hcs with ⟨bz, gt, ot, hAt, hkb, y0⟩ | hkb
        · obtain ⟨n, hnn⟩ : ∃ n, takeN rm M ⟨⟨y1, y2, y3, y4, y5, y6, y7⟩, ka, kc, ls, ma, mc, ms⟩ bz = n := ⟨_, rfl⟩
          have Hnn := Lib.hid hnn
          clear hnn
          have HAt := Lib.hid hAt
          rw [hAt]
          clear hAt
          go_wp2
          refine wp_region_F (F := fun W => Blk W gx 27 #[.int .i64 y1, .int .i64 y2, .int .i64 y3, .int .i64 y4, .int .i64 y5, .int .i64 y6, .int .i64 y7, .slice ka nl kc, .slice ma nm mc]) (n := 18) (m := 19) (s := #[false, false, false, false, false, false, false, false, false, false, false, false, false, false, false, false, false, false, false]) (by kernel_rfl) (by kernel_rfl) (by kernel_rfl) ?_
          intro wd hwd
          have hbd : Below w8.heap.size w8 wd := by rw [hwd.out]; exact (Below.refl _ _).drew
          have T9 := T8.out.keep hbd
          have K9 := K8.out.below hbd K8.out.lt
          clear hwd hbd
          refine F_take (i := 0) (d := some 37) (by kernel_rfl) (by kernel_rfl) (by decide) (s' := #[true, false, false, false, false, false, false, false, false, false, false, false, false, false, false, false, false, false, false]) (by kernel_rfl) rfl rfl (by kernel_rfl) (by kernel_rfl) (by kernel_rfl) (fun _ _ _ h => h) (Or.inl ⟨by kernel_rfl, fun W hW => by obtain ⟨x0, x1, x2, x3, x4, x5, x6, x7, x8, -⟩ := blk9 hW; go_simp; try with_reducible rfl⟩) K9 ?_
          go_frame
          refine F_take (i := 1) (d := some 38) (by kernel_rfl) (by kernel_rfl) (by decide) (s' := #[true, true, false, false, false, false, false, false, false, false, false, false, false, false, false, false, false, false, false]) (by kernel_rfl) rfl rfl (by kernel_rfl) (by kernel_rfl) (by kernel_rfl) (fun _ _ _ h => h) (Or.inl ⟨by kernel_rfl, fun W hW => by obtain ⟨x0, x1, x2, x3, x4, x5, x6, x7, x8, -⟩ := blk9 hW; go_simp; try with_reducible rfl⟩) K9 ?_
          go_frame
          refine F_take (i := 2) (d := some 39) (by kernel_rfl) (by kernel_rfl) (by decide) (s' := #[true, true, true, false, false, false, false, false, false, false, false, false, false, false, false, false, false, false, false]) (by kernel_rfl) rfl rfl (by kernel_rfl) (by kernel_rfl) (by kernel_rfl) (fun _ _ _ h => h) (Or.inl ⟨by kernel_rfl, fun W hW => by obtain ⟨x0, x1, x2, x3, x4, x5, x6, x7, x8, -⟩ := blk9 hW; go_simp; try with_reducible rfl⟩) K9 ?_
          go_frame
          refine F_take (i := 4) (d := some 41) (by kernel_rfl) (by kernel_rfl) (by decide) (s' := #[true, true, true, false, true, false, false, false, false, false, false, false, false, false, false, false, false, false, false]) (by kernel_rfl) rfl rfl (by kernel_rfl) (by kernel_rfl) (by kernel_rfl) (fun _ _ _ h => h) (Or.inl ⟨by kernel_rfl, fun W hW => by obtain ⟨x0, x1, x2, x3, x4, x5, x6, x7, x8, -⟩ := blk9 hW; go_simp; try with_reducible rfl⟩) K9 ?_
          go_frame
          refine F_take (i := 5) (d := some 42) (by kernel_rfl) (by kernel_rfl) (by decide) (s' := #[true, true, true, false, true, true, false, false, false, false, false, false, false, false, false, false, false, false, false]) (by kernel_rfl) rfl rfl (by kernel_rfl) (by kernel_rfl) (by kernel_rfl) (fun _ _ _ h => h) (Or.inl ⟨by kernel_rfl, fun W hW => by obtain ⟨x0, x1, x2, x3, x4, x5, x6, x7, x8, -⟩ := blk9 hW; go_simp; try with_reducible rfl⟩) K9 ?_
          go_frame
          refine F_take (i := 6) (d := some 43) (by kernel_rfl) (by kernel_rfl) (by decide) (s' := #[true, true, true, false, true, true, true, false, false, false, false, false, false, false, false, false, false, false, false]) (by kernel_rfl) rfl rfl (by kernel_rfl) (by kernel_rfl) (by kernel_rfl) (fun _ _ _ h => h) (Or.inl ⟨by kernel_rfl, fun W hW => by obtain ⟨x0, x1, x2, x3, x4, x5, x6, x7, x8, -⟩ := blk9 hW; go_simp; try with_reducible rfl⟩) K9 ?_
          go_frame
          have hcall := Take_any p b rm M y1 y2 y3 y4 y5 y6 y7 ka kc ls ma mc ms wd T9.db ((Hls.out.below T9.bel).more T9.bel.size) ((Hms.out.below T9.bel).more T9.bel.size) Hn.out.2.2.1 Hn.out.2.2.2 nl nm Hn.out.1 Hn.out.2.1 T9.ages bz Hnn.out
          refine F_one (i := 3) (s' := #[true, true, true, true, true, true, true, false, false, false, false, false, false, false, false, false, false, false, false]) (by kernel_rfl) (by kernel_rfl) (wpOp_enterL (i := 3) (d := some 40) (f := 17) (args := #[.pointer (some ⟨p, 0, none⟩), .agg #[.int .i64 y1, .int .i64 y2, .int .i64 y3, .int .i64 y4, .int .i64 y5, .int .i64 y6, .int .i64 y7, .slice ka nl kc, .slice ma nm mc], .bool bz]) rfl rfl (by kernel_rfl) (by go_simp) ((hcall).mono ?_))
          rintro r w10 ⟨rfl, ⟨M', hT, hd10⟩, hg10⟩
          obtain ⟨K10, hK⟩ := T9.blk (x := ⟨⟨y1, y2, y3, y4, y5, y6, y7⟩, ka, kc, ls, ma, mc, ms⟩) K9 Hgx.out.1 Hgx.out.2 hg10
          have rd10 := T9.rd2 hg10
          have hbel10 : Below w.heap.size w w10 := T9.bel.grown hg10 T9.bel.size (fun k e => by injection e with e; subst e; exact T9.lb)
          refine ⟨_, rfl, fun _ => K10, ?_⟩
          go_frame
          have hcall2 := refTake_any q rm _ L y1 y2 y3 y4 y5 y6 y7 ka kc ls ma mc ms w10 rd10 w.heap.size T9.lq (Hls.out.below hbel10) (Hms.out.below hbel10) Hn.out.2.2.1 Hn.out.2.2.2 nl nm Hn.out.1 Hn.out.2.1 (T9.len Hrm.out) T9.eq.sorted (T9.agesL) bz ((take_same T9.eq T9.le ⟨⟨y1, y2, y3, y4, y5, y6, y7⟩, ka, kc, ls, ma, mc, ms⟩ bz).trans Hnn.out)
          refine F_one (i := 7) (s' := #[true, true, true, true, true, true, true, true, false, false, false, false, false, false, false, false, false, false, false]) (by kernel_rfl) (by kernel_rfl) (wpOp_enterL (i := 7) (d := some 44) (f := 25) (args := #[.pointer (some ⟨q, 0, none⟩), .agg #[.int .i64 y1, .int .i64 y2, .int .i64 y3, .int .i64 y4, .int .i64 y5, .int .i64 y6, .int .i64 y7, .slice ka nl kc, .slice ma nm mc], .bool bz]) rfl rfl (by kernel_rfl) (by go_simp) ((hcall2).mono ?_))
          rintro r w11 ⟨rfl, hpost⟩
          have K11 := hK w11 _ hpost
          obtain ⟨v', L', T11⟩ := T9.took Hnn.out hT hd10 hg10 hpost
          obtain ⟨A', c', hv'⟩ := T11.rd.xs.own.shape
          subst hv'
          refine ⟨_, rfl, fun _ => K11, ?_⟩
          go_frame
          clear hcall hcall2 hT hd10 hg10 hpost hK K10 K9 rd10 hbel10 T9
          refine F_take (i := 8) (d := some 45) (by kernel_rfl) (by kernel_rfl) (by decide) (s' := #[true, true, true, true, true, true, true, true, true, false, false, false, false, false, false, false, false, false, false]) (by kernel_rfl) rfl rfl (by kernel_rfl) (by kernel_rfl) (by kernel_rfl) (fun _ _ _ h => h) (Or.inl ⟨by kernel_rfl, fun W hW => by obtain ⟨x0, x1, x2, x3, x4, x5, x6, x7, x8, -⟩ := blk9 hW; go_simp; try with_reducible rfl⟩) K11 ?_
          go_frame
          refine F_take (i := 9) (d := some 46) (by kernel_rfl) (by kernel_rfl) (by decide) (s' := #[true, true, true, true, true, true, true, true, true, true, false, false, false, false, false, false, false, false, false]) (by kernel_rfl) rfl rfl (by kernel_rfl) (by kernel_rfl) (by kernel_rfl) (fun _ _ _ h => h) (Or.inl ⟨by kernel_rfl, fun W hW => by obtain ⟨x0, x1, x2, x3, x4, x5, x6, x7, x8, -⟩ := blk9 hW; go_simp; try with_reducible rfl⟩) K11 ?_
          go_frame
          refine F_take (i := 10) (d := some 47) (by kernel_rfl) (by kernel_rfl) (by decide) (s' := #[true, true, true, true, true, true, true, true, true, true, true, false, false, false, false, false, false, false, false]) (by kernel_rfl) rfl rfl (by kernel_rfl) (by kernel_rfl) (by kernel_rfl) (fun _ _ _ h => h) (Or.inl ⟨by kernel_rfl, fun W hW => by obtain ⟨x0, x1, x2, x3, x4, x5, x6, x7, x8, -⟩ := blk9 hW; go_simp; try with_reducible rfl⟩) K11 ?_
          go_frame
          refine F_take (i := 12) (d := some 49) (by kernel_rfl) (by kernel_rfl) (by decide) (s' := #[true, true, true, true, true, true, true, true, true, true, true, false, true, false, false, false, false, false, false]) (by kernel_rfl) rfl rfl (by kernel_rfl) (by kernel_rfl) (by kernel_rfl) (fun _ _ _ h => h) (Or.inl ⟨by kernel_rfl, fun W hW => by obtain ⟨x0, x1, x2, x3, x4, x5, x6, x7, x8, -⟩ := blk9 hW; go_simp; try with_reducible rfl⟩) K11 ?_
          go_frame
          refine F_take (i := 13) (d := some 50) (by kernel_rfl) (by kernel_rfl) (by decide) (s' := #[true, true, true, true, true, true, true, true, true, true, true, false, true, true, false, false, false, false, false]) (by kernel_rfl) rfl rfl (by kernel_rfl) (by kernel_rfl) (by kernel_rfl) (fun _ _ _ h => h) (Or.inl ⟨by kernel_rfl, fun W hW => by obtain ⟨x0, x1, x2, x3, x4, x5, x6, x7, x8, -⟩ := blk9 hW; go_simp; try with_reducible rfl⟩) K11 ?_
          go_frame
          refine F_take (i := 14) (d := some 51) (by kernel_rfl) (by kernel_rfl) (by decide) (s' := #[true, true, true, true, true, true, true, true, true, true, true, false, true, true, true, false, false, false, false]) (by kernel_rfl) rfl rfl (by kernel_rfl) (by kernel_rfl) (by kernel_rfl) (fun _ _ _ h => h) (Or.inl ⟨by kernel_rfl, fun W hW => by obtain ⟨x0, x1, x2, x3, x4, x5, x6, x7, x8, -⟩ := blk9 hW; go_simp; try with_reducible rfl⟩) K11 ?_
          go_frame
          refine wpAnyF_class (F2 := fun W => Below w11.heap.size w11 W) (fun W hW => K11.below hW K11.lt) _ _ _ _ ?_
          refine F_take (i := 15) (d := some 52) (by kernel_rfl) (by kernel_rfl) (by decide) (s' := #[true, true, true, true, true, true, true, true, true, true, true, false, true, true, true, true, false, false, false]) (by kernel_rfl) rfl rfl (by kernel_rfl) (by kernel_rfl) (by kernel_rfl) (fun _ _ _ h => h) (Or.inl ⟨by kernel_rfl, fun W hW => by obtain ⟨c0, -⟩ := (T11.rd.keep hW).cell; go_simp; try with_reducible rfl⟩) (Below.refl _ _) ?_
          go_frame
          refine F_one (i := 11) (s' := #[true, true, true, true, true, true, true, true, true, true, true, true, true, true, true, true, false, false, false]) (by kernel_rfl) (by kernel_rfl) (wpOp_enterL (i := 11) (d := some 48) (f := 27) (args := #[.pointer (some ⟨p, 0, none⟩)]) rfl rfl (by kernel_rfl) (by go_simp) ((DbAll_any p b rm M' w11 T11.db T11.eq.nodup (T11.lenM Hrm.out)).mono ?_))
          rintro r w12 ⟨⟨v2, N, hA⟩, hb12⟩
          obtain rfl : r = .returned v2 := hA.ret
          obtain ⟨A2, c2, hv2⟩ := hA.xs.own.shape
          subst hv2
          refine ⟨_, rfl, fun _ => hb12, ?_⟩
          go_frame
          have T12 := T11.keep hb12
          have hcall3 := refSame7 A2 A' c2 c' N L' w12 (OwnR.rows (C := 9) (cells := Lsa.cells) (fun _ => rfl) hA.xs.own).2 (OwnR.rows (C := 9) (cells := Lsa.cells) (fun _ => rfl) T12.rd.xs.own).2 hA.xs.rows T12.rd.xs.rows hA.xs.lens (sortedX_vX (hA.perm.trans T12.eq.perm) hA.sorted T12.eq.sorted) (by have h1 := hA.perm.length_eq; have h2 := T12.lenM Hrm.out; rw [List.length_map, List.length_map] at h1; omega) _ _ rfl rfl
          refine F_one (i := 16) (s' := #[true, true, true, true, true, true, true, true, true, true, true, true, true, true, true, true, true, false, false]) (by kernel_rfl) (by kernel_rfl) (wpOp_enterL (i := 16) (d := some 53) (f := 26) (args := #[.slice A2 N.length c2, .slice A' L'.length c']) rfl rfl (by kernel_rfl) (by go_simp) ((hcall3).mono ?_))
          rintro r w13 ⟨rfl, hb13⟩
          have hb13' := below_trans hb12 hb12.size hb13
          refine ⟨_, rfl, fun _ => hb13', ?_⟩
          go_frame
          refine F_take (i := 17) (d := some 54) (by kernel_rfl) (by kernel_rfl) (by decide) (s' := #[true, true, true, true, true, true, true, true, true, true, true, true, true, true, true, true, true, true, false]) (by kernel_rfl) rfl rfl (by kernel_rfl) (by kernel_rfl) (by kernel_rfl) (fun _ _ _ h => h) (Or.inl ⟨by kernel_rfl, fun W hW => by skip; go_simp; try with_reducible rfl⟩) hb13' ?_
          go_frame
          refine F_one (i := 18) (s' := #[true, true, true, true, true, true, true, true, true, true, true, true, true, true, true, true, true, true, true]) (by kernel_rfl) (by kernel_rfl) (wpOp_valueL (i := 18) (d := some 55) (w' := w13) (v := .bool false) rfl rfl (by kernel_rfl) (by go_simp) ⟨fun h => absurd h (by decide), ?_⟩)
          go_frame
          refine F_done (by kernel_rfl) ?_ _
          have T13 := Lib.hid (T12.keep hb13)
          clear hb13 hb13' hb12 hA T12 T11 K11 hcall3
          go_wp2
          go_roundw
          case measure => have := Hlt.out; simp only [intOf]; omega
          case rel => exact ⟨k + 1, M', _, L', by go_num, Hlt.out, T13.out⟩
        · obtain ⟨n, hnn⟩ : ∃ n, takeN rm M ⟨⟨y1, y2, y3, y4, y5, y6, y7⟩, ka, kc, ls, ma, mc, ms⟩ false = n := ⟨_, rfl⟩
          have Hnn := Lib.hid hnn
          clear hnn
          go_wp2
          refine wp_region_F (F := fun W => Blk W gx 27 #[.int .i64 y1, .int .i64 y2, .int .i64 y3, .int .i64 y4, .int .i64 y5, .int .i64 y6, .int .i64 y7, .slice ka nl kc, .slice ma nm mc]) (n := 18) (m := 19) (s := #[false, false, false, false, false, false, false, false, false, false, false, false, false, false, false, false, false, false, false]) (by kernel_rfl) (by kernel_rfl) (by kernel_rfl) ?_
          intro wd hwd
          have hbd : Below w8.heap.size w8 wd := by rw [hwd.out]; exact (Below.refl _ _).drew
          have T9 := T8.out.keep hbd
          have K9 := K8.out.below hbd K8.out.lt
          clear hwd hbd
          refine F_take (i := 0) (d := some 37) (by kernel_rfl) (by kernel_rfl) (by decide) (s' := #[true, false, false, false, false, false, false, false, false, false, false, false, false, false, false, false, false, false, false]) (by kernel_rfl) rfl rfl (by kernel_rfl) (by kernel_rfl) (by kernel_rfl) (fun _ _ _ h => h) (Or.inl ⟨by kernel_rfl, fun W hW => by obtain ⟨x0, x1, x2, x3, x4, x5, x6, x7, x8, -⟩ := blk9 hW; go_simp; try with_reducible rfl⟩) K9 ?_
          go_frame
          refine F_take (i := 1) (d := some 38) (by kernel_rfl) (by kernel_rfl) (by decide) (s' := #[true, true, false, false, false, false, false, false, false, false, false, false, false, false, false, false, false, false, false]) (by kernel_rfl) rfl rfl (by kernel_rfl) (by kernel_rfl) (by kernel_rfl) (fun _ _ _ h => h) (Or.inl ⟨by kernel_rfl, fun W hW => by obtain ⟨x0, x1, x2, x3, x4, x5, x6, x7, x8, -⟩ := blk9 hW; go_simp; try with_reducible rfl⟩) K9 ?_
          go_frame
          refine F_take (i := 2) (d := some 39) (by kernel_rfl) (by kernel_rfl) (by decide) (s' := #[true, true, true, false, false, false, false, false, false, false, false, false, false, false, false, false, false, false, false]) (by kernel_rfl) rfl rfl (by kernel_rfl) (by kernel_rfl) (by kernel_rfl) (fun _ _ _ h => h) (Or.inl ⟨by kernel_rfl, fun W hW => by obtain ⟨x0, x1, x2, x3, x4, x5, x6, x7, x8, -⟩ := blk9 hW; go_simp; try with_reducible rfl⟩) K9 ?_
          go_frame
          refine F_take (i := 4) (d := some 41) (by kernel_rfl) (by kernel_rfl) (by decide) (s' := #[true, true, true, false, true, false, false, false, false, false, false, false, false, false, false, false, false, false, false]) (by kernel_rfl) rfl rfl (by kernel_rfl) (by kernel_rfl) (by kernel_rfl) (fun _ _ _ h => h) (Or.inl ⟨by kernel_rfl, fun W hW => by obtain ⟨x0, x1, x2, x3, x4, x5, x6, x7, x8, -⟩ := blk9 hW; go_simp; try with_reducible rfl⟩) K9 ?_
          go_frame
          refine F_take (i := 5) (d := some 42) (by kernel_rfl) (by kernel_rfl) (by decide) (s' := #[true, true, true, false, true, true, false, false, false, false, false, false, false, false, false, false, false, false, false]) (by kernel_rfl) rfl rfl (by kernel_rfl) (by kernel_rfl) (by kernel_rfl) (fun _ _ _ h => h) (Or.inl ⟨by kernel_rfl, fun W hW => by obtain ⟨x0, x1, x2, x3, x4, x5, x6, x7, x8, -⟩ := blk9 hW; go_simp; try with_reducible rfl⟩) K9 ?_
          go_frame
          refine F_take (i := 6) (d := some 43) (by kernel_rfl) (by kernel_rfl) (by decide) (s' := #[true, true, true, false, true, true, true, false, false, false, false, false, false, false, false, false, false, false, false]) (by kernel_rfl) rfl rfl (by kernel_rfl) (by kernel_rfl) (by kernel_rfl) (fun _ _ _ h => h) (Or.inl ⟨by kernel_rfl, fun W hW => by obtain ⟨x0, x1, x2, x3, x4, x5, x6, x7, x8, -⟩ := blk9 hW; go_simp; try with_reducible rfl⟩) K9 ?_
          go_frame
          have hcall := Take_any p b rm M y1 y2 y3 y4 y5 y6 y7 ka kc ls ma mc ms wd T9.db ((Hls.out.below T9.bel).more T9.bel.size) ((Hms.out.below T9.bel).more T9.bel.size) Hn.out.2.2.1 Hn.out.2.2.2 nl nm Hn.out.1 Hn.out.2.1 T9.ages false Hnn.out
          refine F_one (i := 3) (s' := #[true, true, true, true, true, true, true, false, false, false, false, false, false, false, false, false, false, false, false]) (by kernel_rfl) (by kernel_rfl) (wpOp_enterL (i := 3) (d := some 40) (f := 17) (args := #[.pointer (some ⟨p, 0, none⟩), .agg #[.int .i64 y1, .int .i64 y2, .int .i64 y3, .int .i64 y4, .int .i64 y5, .int .i64 y6, .int .i64 y7, .slice ka nl kc, .slice ma nm mc], .bool false]) rfl rfl (by kernel_rfl) (by go_simp) ((hcall).mono ?_))
          rintro r w10 ⟨rfl, ⟨M', hT, hd10⟩, hg10⟩
          obtain ⟨K10, hK⟩ := T9.blk (x := ⟨⟨y1, y2, y3, y4, y5, y6, y7⟩, ka, kc, ls, ma, mc, ms⟩) K9 Hgx.out.1 Hgx.out.2 hg10
          have rd10 := T9.rd2 hg10
          have hbel10 : Below w.heap.size w w10 := T9.bel.grown hg10 T9.bel.size (fun k e => by injection e with e; subst e; exact T9.lb)
          refine ⟨_, rfl, fun _ => K10, ?_⟩
          go_frame
          have hcall2 := refTake_any q rm _ L y1 y2 y3 y4 y5 y6 y7 ka kc ls ma mc ms w10 rd10 w.heap.size T9.lq (Hls.out.below hbel10) (Hms.out.below hbel10) Hn.out.2.2.1 Hn.out.2.2.2 nl nm Hn.out.1 Hn.out.2.1 (T9.len Hrm.out) T9.eq.sorted (T9.agesL) false ((take_same T9.eq T9.le ⟨⟨y1, y2, y3, y4, y5, y6, y7⟩, ka, kc, ls, ma, mc, ms⟩ false).trans Hnn.out)
          refine F_one (i := 7) (s' := #[true, true, true, true, true, true, true, true, false, false, false, false, false, false, false, false, false, false, false]) (by kernel_rfl) (by kernel_rfl) (wpOp_enterL (i := 7) (d := some 44) (f := 25) (args := #[.pointer (some ⟨q, 0, none⟩), .agg #[.int .i64 y1, .int .i64 y2, .int .i64 y3, .int .i64 y4, .int .i64 y5, .int .i64 y6, .int .i64 y7, .slice ka nl kc, .slice ma nm mc], .bool false]) rfl rfl (by kernel_rfl) (by go_simp) ((hcall2).mono ?_))
          rintro r w11 ⟨rfl, hpost⟩
          have K11 := hK w11 _ hpost
          obtain ⟨v', L', T11⟩ := T9.took Hnn.out hT hd10 hg10 hpost
          obtain ⟨A', c', hv'⟩ := T11.rd.xs.own.shape
          subst hv'
          refine ⟨_, rfl, fun _ => K11, ?_⟩
          go_frame
          clear hcall hcall2 hT hd10 hg10 hpost hK K10 K9 rd10 hbel10 T9
          refine F_take (i := 8) (d := some 45) (by kernel_rfl) (by kernel_rfl) (by decide) (s' := #[true, true, true, true, true, true, true, true, true, false, false, false, false, false, false, false, false, false, false]) (by kernel_rfl) rfl rfl (by kernel_rfl) (by kernel_rfl) (by kernel_rfl) (fun _ _ _ h => h) (Or.inl ⟨by kernel_rfl, fun W hW => by obtain ⟨x0, x1, x2, x3, x4, x5, x6, x7, x8, -⟩ := blk9 hW; go_simp; try with_reducible rfl⟩) K11 ?_
          go_frame
          refine F_take (i := 9) (d := some 46) (by kernel_rfl) (by kernel_rfl) (by decide) (s' := #[true, true, true, true, true, true, true, true, true, true, false, false, false, false, false, false, false, false, false]) (by kernel_rfl) rfl rfl (by kernel_rfl) (by kernel_rfl) (by kernel_rfl) (fun _ _ _ h => h) (Or.inl ⟨by kernel_rfl, fun W hW => by obtain ⟨x0, x1, x2, x3, x4, x5, x6, x7, x8, -⟩ := blk9 hW; go_simp; try with_reducible rfl⟩) K11 ?_
          go_frame
          refine F_take (i := 10) (d := some 47) (by kernel_rfl) (by kernel_rfl) (by decide) (s' := #[true, true, true, true, true, true, true, true, true, true, true, false, false, false, false, false, false, false, false]) (by kernel_rfl) rfl rfl (by kernel_rfl) (by kernel_rfl) (by kernel_rfl) (fun _ _ _ h => h) (Or.inl ⟨by kernel_rfl, fun W hW => by obtain ⟨x0, x1, x2, x3, x4, x5, x6, x7, x8, -⟩ := blk9 hW; go_simp; try with_reducible rfl⟩) K11 ?_
          go_frame
          refine F_take (i := 12) (d := some 49) (by kernel_rfl) (by kernel_rfl) (by decide) (s' := #[true, true, true, true, true, true, true, true, true, true, true, false, true, false, false, false, false, false, false]) (by kernel_rfl) rfl rfl (by kernel_rfl) (by kernel_rfl) (by kernel_rfl) (fun _ _ _ h => h) (Or.inl ⟨by kernel_rfl, fun W hW => by obtain ⟨x0, x1, x2, x3, x4, x5, x6, x7, x8, -⟩ := blk9 hW; go_simp; try with_reducible rfl⟩) K11 ?_
          go_frame
          refine F_take (i := 13) (d := some 50) (by kernel_rfl) (by kernel_rfl) (by decide) (s' := #[true, true, true, true, true, true, true, true, true, true, true, false, true, true, false, false, false, false, false]) (by kernel_rfl) rfl rfl (by kernel_rfl) (by kernel_rfl) (by kernel_rfl) (fun _ _ _ h => h) (Or.inl ⟨by kernel_rfl, fun W hW => by obtain ⟨x0, x1, x2, x3, x4, x5, x6, x7, x8, -⟩ := blk9 hW; go_simp; try with_reducible rfl⟩) K11 ?_
          go_frame
          refine F_take (i := 14) (d := some 51) (by kernel_rfl) (by kernel_rfl) (by decide) (s' := #[true, true, true, true, true, true, true, true, true, true, true, false, true, true, true, false, false, false, false]) (by kernel_rfl) rfl rfl (by kernel_rfl) (by kernel_rfl) (by kernel_rfl) (fun _ _ _ h => h) (Or.inl ⟨by kernel_rfl, fun W hW => by obtain ⟨x0, x1, x2, x3, x4, x5, x6, x7, x8, -⟩ := blk9 hW; go_simp; try with_reducible rfl⟩) K11 ?_
          go_frame
          refine wpAnyF_class (F2 := fun W => Below w11.heap.size w11 W) (fun W hW => K11.below hW K11.lt) _ _ _ _ ?_
          refine F_take (i := 15) (d := some 52) (by kernel_rfl) (by kernel_rfl) (by decide) (s' := #[true, true, true, true, true, true, true, true, true, true, true, false, true, true, true, true, false, false, false]) (by kernel_rfl) rfl rfl (by kernel_rfl) (by kernel_rfl) (by kernel_rfl) (fun _ _ _ h => h) (Or.inl ⟨by kernel_rfl, fun W hW => by obtain ⟨c0, -⟩ := (T11.rd.keep hW).cell; go_simp; try with_reducible rfl⟩) (Below.refl _ _) ?_
          go_frame
          refine F_one (i := 11) (s' := #[true, true, true, true, true, true, true, true, true, true, true, true, true, true, true, true, false, false, false]) (by kernel_rfl) (by kernel_rfl) (wpOp_enterL (i := 11) (d := some 48) (f := 27) (args := #[.pointer (some ⟨p, 0, none⟩)]) rfl rfl (by kernel_rfl) (by go_simp) ((DbAll_any p b rm M' w11 T11.db T11.eq.nodup (T11.lenM Hrm.out)).mono ?_))
          rintro r w12 ⟨⟨v2, N, hA⟩, hb12⟩
          obtain rfl : r = .returned v2 := hA.ret
          obtain ⟨A2, c2, hv2⟩ := hA.xs.own.shape
          subst hv2
          refine ⟨_, rfl, fun _ => hb12, ?_⟩
          go_frame
          have T12 := T11.keep hb12
          have hcall3 := refSame7 A2 A' c2 c' N L' w12 (OwnR.rows (C := 9) (cells := Lsa.cells) (fun _ => rfl) hA.xs.own).2 (OwnR.rows (C := 9) (cells := Lsa.cells) (fun _ => rfl) T12.rd.xs.own).2 hA.xs.rows T12.rd.xs.rows hA.xs.lens (sortedX_vX (hA.perm.trans T12.eq.perm) hA.sorted T12.eq.sorted) (by have h1 := hA.perm.length_eq; have h2 := T12.lenM Hrm.out; rw [List.length_map, List.length_map] at h1; omega) _ _ rfl rfl
          refine F_one (i := 16) (s' := #[true, true, true, true, true, true, true, true, true, true, true, true, true, true, true, true, true, false, false]) (by kernel_rfl) (by kernel_rfl) (wpOp_enterL (i := 16) (d := some 53) (f := 26) (args := #[.slice A2 N.length c2, .slice A' L'.length c']) rfl rfl (by kernel_rfl) (by go_simp) ((hcall3).mono ?_))
          rintro r w13 ⟨rfl, hb13⟩
          have hb13' := below_trans hb12 hb12.size hb13
          refine ⟨_, rfl, fun _ => hb13', ?_⟩
          go_frame
          refine F_take (i := 17) (d := some 54) (by kernel_rfl) (by kernel_rfl) (by decide) (s' := #[true, true, true, true, true, true, true, true, true, true, true, true, true, true, true, true, true, true, false]) (by kernel_rfl) rfl rfl (by kernel_rfl) (by kernel_rfl) (by kernel_rfl) (fun _ _ _ h => h) (Or.inl ⟨by kernel_rfl, fun W hW => by skip; go_simp; try with_reducible rfl⟩) hb13' ?_
          go_frame
          refine F_one (i := 18) (s' := #[true, true, true, true, true, true, true, true, true, true, true, true, true, true, true, true, true, true, true]) (by kernel_rfl) (by kernel_rfl) (wpOp_valueL (i := 18) (d := some 55) (w' := w13) (v := .bool false) rfl rfl (by kernel_rfl) (by go_simp) ⟨fun h => absurd h (by decide), ?_⟩)
          go_frame
          refine F_done (by kernel_rfl) ?_ _
          have T13 := Lib.hid (T12.keep hb13)
          clear hb13 hb13' hb12 hA T12 T11 K11 hcall3
          go_wp2
          go_roundw
          case measure => have := Hlt.out; simp only [intOf]; omega
          case rel => exact ⟨k + 1, M', _, L', by go_num, Hlt.out, T13.out⟩
      · have hke : k = l.length := by omega
        subst hke
        have hkl : ¬ (l.length : Int) < (l.length : Int) := by omega
        have T9 := Lib.hid htk.bel
        clear htk hlt
        go_wp2_with fail
        with_reducible refine Calls.mono (Take_nil _) ?_
        rintro r w9 ⟨rfl, hb9⟩
        have HB9 := Lib.hid (below_trans T9.out T9.out.size hb9)
        clear hb9
        go_wp2
        go_ret
        exact ⟨rfl, HB9.out⟩

end Go.Proofs.Ytmjjmkdjjfmhhaa
