/-
  The law WantsLoad: its walk.
-/
import Derived.Test.YtpnbibokddhheaaBag
import Derived.Test.YtpnbibokddhheaaBah
import Derived.Test.YtpnbibokddhheaaBai
namespace Go.Proofs.Ytpnbibokddhheaa
open Go.RowKit Go.Sort

theorem own_rows7 {W : World} {B b : Nat} {A : Option Addr} {n c : Nat} {L : List Hd} {κ : Type} {enc : κ → Value} {S : List (κ × Value)} (h : OwnR 34 7 Hd.cells W B (.slice A n c) L) (hm : MapAt enc W b S) : ∀ W', W.grownBy W' (some b) → RowsAt 7 Hd.cells W' W.heap.size A L :=
  rows_grown (OwnR.rows (C := 7) (cells := Hd.cells) (fun _ => rfl) h).2 (Nat.le_refl _) (fun g o e hl => by
    subst e
    have := own_nemap h hm
    intro e2
    rcases h.2 with ⟨hv, -⟩ | ⟨g', cap, cur, hv, -⟩
    · cases hv
    · injection hv with hv
      injection hv with hv
      injection hv with hv
      subst hv
      exact this (by rw [e2]; rfl))
theorem drop_three {D : List Hd} {k q n : Nat} (hn : D.length = n) (hq : n - k = q) (h : q ≤ 3) : (D.drop k).drop q = D.drop (k + 3) := by
  rw [List.drop_drop]
  by_cases h3 : q = 3
  · rw [h3]
  · rw [List.drop_eq_nil_of_le (by omega), List.drop_eq_nil_of_le (by omega)]
theorem drop_cons {D : List Hd} {j : Nat} (h : j < D.length) : D.drop j = D[j] :: D.drop (j + 1) := List.drop_eq_getElem_cons h
set_option maxHeartbeats 32000000 in
set_option maxRecDepth 100000 in
theorem wantsLoad_any (A : Option Addr) (cap : Nat) (la : List Lsa) (A2 : Option Addr) (cap2 : Nat) (lb : List Lsa) (w : World) (hl : LsasAt w w.heap.size A la) (hm : la.length ≤ maxLen) (hl2 : LsasAt w w.heap.size A2 lb) (hm2 : lb.length ≤ maxLen) :
    Calls Try.prog 4 #[.slice A la.length cap, .slice A2 lb.length cap2] w fun r w' => r = .returned (.bool true) ∧ Below w.heap.size w w' := by
  have HL := Lib.hid hl
  have HL2 := Lib.hid hl2
  obtain ⟨t, ht⟩ : ∃ t, manyB 60 la = t := ⟨_, rfl⟩
  obtain ⟨t2, ht2⟩ : ∃ t, manyB 60 lb = t := ⟨_, rfl⟩
  have HMany := Lib.hid (fun W (hW : Below w.heap.size w W) => many15 A cap la W w.heap.size (hl.rows.below hW) hW.size hm la.length rfl ht)
  have HMany2 := Lib.hid (fun W (hW : Below w.heap.size w W) => many15 A2 cap2 lb W w.heap.size (hl2.rows.below hW) hW.size hm2 lb.length rfl ht2)
  have Ht := Lib.hid ht
  have Ht2 := Lib.hid ht2
  clear hl hm hl2 hm2 ht ht2
  go_enter Try.func4, Try.ntmps4
  go_wp2_with fail
  with_reducible refine Calls.mono (wakes15 _) ?_
  rintro r w1 ⟨rfl, hb1⟩
  have Hb1 := Lib.hid hb1
  clear hb1
  go_wp2_with fail
  with_reducible refine Calls.mono (HMany.out _ Hb1.out) ?_
  rintro r w2 ⟨rfl, hb2⟩
  have Hb2 := Lib.hid (below_trans Hb1.out Hb1.out.size hb2)
  clear hb2
  cases t with
  | true =>
    go_wp2
    go_ret
    exact ⟨rfl, Hb2.out⟩
  | false =>
  go_wp2_with fail
  with_reducible refine Calls.mono (HMany2.out _ Hb2.out) ?_
  rintro r w3 ⟨rfl, hb3⟩
  have Hb3 := Lib.hid (below_trans Hb2.out Hb2.out.size hb3)
  clear hb3
  cases t2 with
  | true =>
    go_wp2
    go_ret
    exact ⟨rfl, Hb3.out⟩
  | false =>
  obtain ⟨hl60, hlens⟩ := manyB_lens Ht.out
  obtain ⟨hl60b, hlensb⟩ := manyB_lens Ht2.out
  have Hlens := Lib.hid hlens
  have Hlensb := Lib.hid hlensb
  have hm' : (la.length : Int) ≤ 60 := by omega
  have hm2' : (lb.length : Int) ≤ 60 := by omega
  have HLr := Lib.hid HL.out.rows
  have HLr2 := Lib.hid HL2.out.rows
  have HE := Lib.hid (fun x (hx : x ∈ la) => (show RowsAt 4 Lnk.cells w w.heap.size x.ka x.links ∧ RowsAt 1 icell w w.heap.size x.ma x.members from ⟨(HL.out.each x hx).links, (HL.out.each x hx).members⟩))
  have HE2 := Lib.hid (fun x (hx : x ∈ lb) => (show RowsAt 4 Lnk.cells w w.heap.size x.ka x.links ∧ RowsAt 1 icell w w.heap.size x.ma x.members from ⟨(HL2.out.each x hx).links, (HL2.out.each x hx).members⟩))
  clear hlens hlensb hl60 hl60b
  go_wp2_with fail
  with_reducible refine Calls.mono (DbNew 40 _) ?_
  rintro r w4 ⟨rfl, hd4, hb4⟩
  obtain ⟨p1, hp1⟩ : ∃ p, w3.heap.size + 1 = p := ⟨_, rfl⟩
  obtain ⟨b1, hq1⟩ : ∃ b, w3.heap.size = b := ⟨_, rfl⟩
  rw [show min (max (40 : Int) 1) 40 = 40 by decide, hp1, hq1] at hd4
  rw [hp1]
  have Hd4 := Lib.hid hd4
  have Hb4 := Lib.hid (below_trans Hb3.out Hb3.out.size hb4)
  have Hq1 := Lib.hid (show w.heap.size ≤ b1 by rw [← hq1]; exact Hb3.out.size)
  clear hd4 hb4 hp1 hq1
  go_wp2_with fail
  with_reducible refine Calls.mono (DbNew 40 _) ?_
  rintro r w5 ⟨rfl, hd5, hb5⟩
  obtain ⟨p2, hp2⟩ : ∃ p, w4.heap.size + 1 = p := ⟨_, rfl⟩
  obtain ⟨b2, hq2⟩ : ∃ b, w4.heap.size = b := ⟨_, rfl⟩
  rw [show min (max (40 : Int) 1) 40 = 40 by decide, hp2, hq2] at hd5
  rw [hp2]
  have HTw := Lib.hid (show TwoDb w w5 p1 b1 p2 b2 [] [] from ⟨below_trans Hb4.out Hb4.out.size hb5, Hd4.out.keep hb5, hd5, by have := Hd4.out.map.lt; omega, Hq1.out, by have := Hb4.out.size; omega, DbOk.nil, DbOk.nil⟩)
  clear hd5 hb5 hp2 hq2
  go_wp2
  go_loopw [33] (fun i wr => ∃ (k : Nat) (F : List Lsa), i = .int .i64 k ∧ k ≤ la.length ∧ TwoDb w wr p1 b1 p2 b2 F []) (fun i _ => la.length - (intOf i).toNat)
  case atStart => exact ⟨0, [], rfl, Nat.zero_le _, HTw.out⟩
  case round =>
    obtain ⟨k, F, rfl, hk, htw⟩ := hrel
    have HTk := Lib.hid htw
    clear HTw
    by_cases hlt : k < la.length
    · obtain ⟨g, o, hA, -, x0, x1, x2, x3, x4, x5, x6, x7, x8⟩ := row_lsa9b (HLr.out.below htw.bel) k hlt
      have hok := HE.out la[k] (List.getElem_mem hlt)
      have hln := Hlens.out la[k] (List.getElem_mem hlt)
      have hkl : (k : Int) < (la.length : Int) := by omega
      have HA := Lib.hid hA
      rw [hA]
      have Hlt := Lib.hid hlt
      generalize la[k] = x at *
      obtain ⟨⟨y1, y2, y3, y4, y5, y6, y7⟩, ka, kc, ls, ma, mc, ms⟩ := x
      have hls := hok.1
      have hms := hok.2
      simp only at x0 x1 x2 x3 x4 x5 x6 x7 x8 hln hls hms
      obtain ⟨nl, hnl⟩ : ∃ nl, nl = ls.length := ⟨_, rfl⟩
      obtain ⟨nm, hnm⟩ : ∃ nm, nm = ms.length := ⟨_, rfl⟩
      rw [← hnl] at x7
      rw [← hnm] at x8
      obtain ⟨w8, hw8⟩ : ∃ w8, wr.alloc (.cells #[.int .i64 y1, .int .i64 y2, .int .i64 y3, .int .i64 y4, .int .i64 y5, .int .i64 y6, .int .i64 y7, .slice ka nl kc, .slice ma nm mc] 38) = w8 := ⟨_, rfl⟩
      have hb8 := below_new wr (.cells #[.int .i64 y1, .int .i64 y2, .int .i64 y3, .int .i64 y4, .int .i64 y5, .int .i64 y6, .int .i64 y7, .slice ka nl kc, .slice ma nm mc] 38)
      have hk8 := Blk.new wr 38 #[.int .i64 y1, .int .i64 y2, .int .i64 y3, .int .i64 y4, .int .i64 y5, .int .i64 y6, .int .i64 y7, .slice ka nl kc, .slice ma nm mc]
      rw [hw8] at hb8 hk8
      have htw8 := htw.keep hb8
      have HT8 := Lib.hid htw8
      have hl8 := hls.below htw8.bel
      have hm8 := hms.below htw8.bel
      have HP := Lib.hid (dbPut_any p1 b1 F y1 y2 y3 y4 y5 y6 y7 ka kc ls ma mc ms w8 htw8.fr (hl8.more htw8.bel.size) (hm8.more htw8.bel.size) (by omega) (by omega) nl nm hnl hnm)
      obtain ⟨z0, z1, z2, z3, z4, z5, z6, z7, z8, zf⟩ := blk9 hk8
      clear hls hms hln hok hnl hnm hA hlt htw hk hb8 hk8 htw8 hl8 hm8
      go_wp2_with fail
      with_reducible refine Calls.mono HP.out ?_
      rintro r w9 ⟨⟨e9, rfl⟩, ⟨M', hP9, hd9⟩, hg9⟩
      have HT9 := Lib.hid (HT8.out.put1 hd9 (HT8.out.okF.put hP9) hg9)
      clear hP9 hd9 hg9 z0 z1 z2 z3 z4 z5 z6 z7 z8 zf
      go_wp2
      go_roundw
      case measure => have := Hlt.out; simp [intOf]; omega
      case rel => exact ⟨k + 1, M', by go_num, Hlt.out, HT9.out⟩
    · have hkl : ¬ (k : Int) < (la.length : Int) := by omega
      clear hlt htw hk
      have HTw := HTk
      clear HTk
      go_wp2
      go_loopw [43] (fun i wr => ∃ (k : Nat) (T : List Lsa), i = .int .i64 k ∧ k ≤ lb.length ∧ TwoDb w wr p1 b1 p2 b2 F T) (fun i _ => lb.length - (intOf i).toNat)
      case atStart => exact ⟨0, [], rfl, Nat.zero_le _, HTw.out⟩
      case round =>
        obtain ⟨k, T, rfl, hk, htw⟩ := hrel
        have HTk := Lib.hid htw
        clear HTw
        by_cases hlt : k < lb.length
        · obtain ⟨g, o, hA, -, x0, x1, x2, x3, x4, x5, x6, x7, x8⟩ := row_lsa9b (HLr2.out.below htw.bel) k hlt
          have hok := HE2.out lb[k] (List.getElem_mem hlt)
          have hln := Hlensb.out lb[k] (List.getElem_mem hlt)
          have hkl : (k : Int) < (lb.length : Int) := by omega
          have HA := Lib.hid hA
          rw [hA]
          have Hlt := Lib.hid hlt
          generalize lb[k] = x at *
          obtain ⟨⟨y1, y2, y3, y4, y5, y6, y7⟩, ka, kc, ls, ma, mc, ms⟩ := x
          have hls := hok.1
          have hms := hok.2
          simp only at x0 x1 x2 x3 x4 x5 x6 x7 x8 hln hls hms
          obtain ⟨nl, hnl⟩ : ∃ nl, nl = ls.length := ⟨_, rfl⟩
          obtain ⟨nm, hnm⟩ : ∃ nm, nm = ms.length := ⟨_, rfl⟩
          rw [← hnl] at x7
          rw [← hnm] at x8
          obtain ⟨w8, hw8⟩ : ∃ w8, wr.alloc (.cells #[.int .i64 y1, .int .i64 y2, .int .i64 y3, .int .i64 y4, .int .i64 y5, .int .i64 y6, .int .i64 y7, .slice ka nl kc, .slice ma nm mc] 38) = w8 := ⟨_, rfl⟩
          have hb8 := below_new wr (.cells #[.int .i64 y1, .int .i64 y2, .int .i64 y3, .int .i64 y4, .int .i64 y5, .int .i64 y6, .int .i64 y7, .slice ka nl kc, .slice ma nm mc] 38)
          have hk8 := Blk.new wr 38 #[.int .i64 y1, .int .i64 y2, .int .i64 y3, .int .i64 y4, .int .i64 y5, .int .i64 y6, .int .i64 y7, .slice ka nl kc, .slice ma nm mc]
          rw [hw8] at hb8 hk8
          have htw8 := htw.keep hb8
          have HT8 := Lib.hid htw8
          have hl8 := hls.below htw8.bel
          have hm8 := hms.below htw8.bel
          have HP := Lib.hid (dbPut_any p2 b2 T y1 y2 y3 y4 y5 y6 y7 ka kc ls ma mc ms w8 htw8.dt (hl8.more htw8.bel.size) (hm8.more htw8.bel.size) (by omega) (by omega) nl nm hnl hnm)
          obtain ⟨z0, z1, z2, z3, z4, z5, z6, z7, z8, zf⟩ := blk9 hk8
          clear hls hms hln hok hnl hnm hA hlt htw hk hb8 hk8 htw8 hl8 hm8
          go_wp2_with fail
          with_reducible refine Calls.mono HP.out ?_
          rintro r w9 ⟨⟨e9, rfl⟩, ⟨M', hP9, hd9⟩, hg9⟩
          have HT9 := Lib.hid (HT8.out.put2 hd9 (HT8.out.okT.put hP9) hg9)
          clear hP9 hd9 hg9 z0 z1 z2 z3 z4 z5 z6 z7 z8 zf
          go_wp2
          go_roundw
          case measure => have := Hlt.out; simp [intOf]; omega
          case rel => exact ⟨k + 1, M', by go_num, Hlt.out, HT9.out⟩
        · have hkl : ¬ (k : Int) < (lb.length : Int) := by omega
          clear hlt htw hk
          have HAl := Lib.hid (DbAll_any p1 b1 40 F _ HTk.out.fr HTk.out.okF.nodup (by have := HTk.out.okF.len; omega))
          go_wp2_with fail
          with_reducible refine Calls.mono HAl.out ?_
          rintro r w7 ⟨⟨vN, N, ⟨rfl, hxN, hpN, hsN⟩⟩, hb7⟩
          obtain ⟨AN, cN, hvN⟩ := hxN.own.shape
          subst hvN
          have hN60 : N.length ≤ 60 := by have h1 := hpN.length_eq; rw [List.length_map, List.length_map] at h1; have := HTk.out.okF.len; omega
          obtain ⟨nN, hnN⟩ : ∃ n, N.length = n := ⟨_, rfl⟩
          rw [hnN] at hxN hN60
          rw [hnN]
          have HxN := Lib.hid hxN
          have HpN := Lib.hid hpN
          have HsN := Lib.hid hsN
          have HnN := Lib.hid hnN
          have HT7 := Lib.hid (HTk.out.keep hb7)
          have hnNi : (nN : Int) ≤ 60 := by omega
          clear hxN hpN hsN hnN hb7 HTk HAl
          go_wp2
          go_loopw [11, 54] (fun v i wr => ∃ k : Nat, i = .int .i64 k ∧ k ≤ nN ∧ OwnR 34 7 Hd.cells wr w7.heap.size v (toldL (N.take k)) ∧ Below w7.heap.size w7 wr) (fun _ i _ => nN - (intOf i).toNat)
          case atStart => exact ⟨0, rfl, Nat.zero_le _, OwnR.nil _ _, Below.refl _ _⟩
          case round =>
            obtain ⟨k, rfl, hk, hown, hb⟩ := hrel
            obtain ⟨A7, c7, hv7⟩ := hown.shape
            subst hv7
            have hHl : (toldL (N.take k)).length ≤ 60 := Nat.le_trans (told_len _) (by rw [List.length_take]; have := HnN.out; omega)
            obtain ⟨H, hH⟩ : ∃ H, toldL (N.take k) = H := ⟨_, rfl⟩
            rw [hH] at hown hHl ⊢
            obtain ⟨nh, hnh⟩ : ∃ n, H.length = n := ⟨_, rfl⟩
            rw [hnh] at hown hHl ⊢
            have HHl := Lib.hid (show H.length ≤ 60 by omega)
            have Hown := Lib.hid hown
            have HH := Lib.hid hH
            have Hnh := Lib.hid hnh
            have Hb := Lib.hid hb
            by_cases hlt : k < nN
            · have hltN : k < N.length := by have := HnN.out; omega
              obtain ⟨g, o, hA, -, x0, x1, x2, x3, x4, x5, x6, x7, x8⟩ := row_lsa9b ((OwnR.rows (C := 9) (cells := Lsa.cells) (fun _ => rfl) (HxN.out.own.below hb)).2) k hltN
              have hkl : (k : Int) < (nN : Int) := by omega
              have hmore := told_more hltN
              rw [hH] at hmore
              have HA := Lib.hid hA
              rw [hA]
              have Hlt := Lib.hid hlt
              generalize N[k] = x at *
              obtain ⟨⟨y1, y2, y3, y4, y5, y6, y7⟩, ka, kc, ls, ma, mc, ms⟩ := x
              simp only at x0 x1 x2 x3 x4 x5 x6 x7 x8 hmore
              obtain ⟨nl, hnl⟩ : ∃ nl, ls.length = nl := ⟨_, rfl⟩
              obtain ⟨nm, hnm⟩ : ∃ nm, ms.length = nm := ⟨_, rfl⟩
              rw [hnl] at x7
              rw [hnm] at x8
              have Hmore := Lib.hid hmore
              obtain ⟨w8, hw8⟩ : ∃ w8, wr.alloc (.cells #[.int .i64 y1, .int .i64 y2, .int .i64 y3, .int .i64 y4, .int .i64 y5, .int .i64 y6, .int .i64 y7, .slice ka nl kc, .slice ma nm mc] 38) = w8 := ⟨_, rfl⟩
              have hk8 := Blk.new wr 38 #[.int .i64 y1, .int .i64 y2, .int .i64 y3, .int .i64 y4, .int .i64 y5, .int .i64 y6, .int .i64 y7, .slice ka nl kc, .slice ma nm mc]
              have hb8 := below_new wr (.cells #[.int .i64 y1, .int .i64 y2, .int .i64 y3, .int .i64 y4, .int .i64 y5, .int .i64 y6, .int .i64 y7, .slice ka nl kc, .slice ma nm mc] 38)
              obtain ⟨g8, hg8⟩ : ∃ g8, wr.heap.size = g8 := ⟨_, rfl⟩
              rw [hw8, hg8] at hk8
              rw [hw8] at hb8
              have O8 := Lib.hid (hown.below hb8)
              have B8 := Lib.hid (below_trans hb hb.size hb8)
              obtain ⟨z0, z1, z2, z3, z4, z5, z6, z7, z8, zf⟩ := blk9 hk8
              clear hnl hnm hA hlt hltN hk8 hb8 hk hown hb hmore hHl hH hnh
              by_cases h60 : y1 < 60
              · rw [if_pos h60] at Hmore
                go_wp2_with (at_builtin; (refine app_row Hd.cells (fun _ => rfl) (by decide) (bytes := 56) (by decide) infoHd rfl Try.underlying27 onesH (by rfl) _ _ (by rfl) w7.heap.size _ H (by rfl) (O8.out.alloc _) w8.heap.size ⟨y1, y2, y3, y4, y5, y6, y7⟩ (by rfl) (Blk.new _ _ _) (by have := HHl.out; omega) (by have := B8.out.size; simp; omega) ?_); intro v6 w6 hown6 hg6 hor6; have O6 := Lib.hid hown6; have B6 := Lib.hid ((B8.out.alloc B8.out.size _).grown hg6 (by have := B8.out.size; simp; omega) (fun m e => (O8.out.block m e).1)); clear hown6 hg6 hor6)
                go_wp2
                go_roundw
                case measure => have := Hlt.out; simp only [intOf]; omega
                case rel => exact ⟨k + 1, by go_num, Hlt.out, by rw [Hmore.out]; exact O6.out, B6.out⟩
              · rw [if_neg h60, List.append_nil] at Hmore
                go_wp2
                go_roundw
                case measure => have := Hlt.out; simp only [intOf]; omega
                case rel => exact ⟨k + 1, by go_num, Hlt.out, by rw [Hmore.out]; exact O8.out, B8.out⟩
            · have hkl : ¬ (k : Int) < (nN : Int) := by omega
              have hke : k = nN := by omega
              have hHs : toldL N = H := by rw [← hH, hke, ← HnN.out, List.take_length]
              have HHs := Lib.hid hHs
              have HT8 := Lib.hid (HT7.out.keep hb)
              have hsH : sortedH H := by rw [← hHs]; exact told_sorted HsN.out
              have hagH : ∀ r ∈ H, ageOk r := by rw [← hHs]; exact told_ages HpN.out HT7.out.okF
              have HsH := Lib.hid hsH
              have HagH := Lib.hid hagH
              clear hlt hk hown hb hHl hH hnh hke hHs hsH hagH
              go_wp2_with fail
              with_reducible refine Calls.mono (New15 _) ?_
              rintro r w9 ⟨rfl, hwa9, hb9⟩
              obtain ⟨p3, hp3⟩ : ∃ p, wr.heap.size + 1 = p := ⟨_, rfl⟩
              obtain ⟨b3, hq3⟩ : ∃ b, wr.heap.size = b := ⟨_, rfl⟩
              rw [hp3, hq3] at hwa9
              rw [hp3]
              have Hwa9 := Lib.hid hwa9
              have HT9 := Lib.hid (HT8.out.keep hb9)
              have HB3 := Lib.hid (show b1 ≠ b3 ∧ b2 ≠ b3 ∧ w.heap.size ≤ b3 from ⟨by have := HT8.out.fr.map.lt; omega, by have := HT8.out.dt.map.lt; omega, by have := HT8.out.bel.size; omega⟩)
              have Ho9 := Lib.hid ((Hown.out.below hb9).lower HT7.out.bel.size)
              clear hwa9 hb9 hp3 hq3
              obtain ⟨D, hD⟩ : ∃ D, lackAll T H = D := ⟨_, rfl⟩
              have HLk := Lib.hid (fun T2 W (hd : DbAt W p2 b2 40 T2) (hok : DbOk T2) (ho : OwnR 34 7 Hd.cells W w.heap.size (.slice A7 nh c7) H) => Lacks_any p2 b2 40 T2 A7 c7 H W W.heap.size hd hok.ages (OwnR.rows (C := 7) (cells := Hd.cells) (fun _ => rfl) ho).2 (Nat.le_refl _) (by have := HHl.out; omega) (fun x hx => ⟨(HagH.out x hx).lo, (HagH.out x hx).hi⟩) nh Hnh.out.symm)
              have HLd := Lib.hid (show LoadAt T H D by rw [← hD]; exact LoadAt.start HT9.out.okT HsH.out)
              have hDs : sortedH D := by rw [← hD, lackAll_filter HsH.out]; exact HsH.out.sublist List.filter_sublist
              have HDs := Lib.hid hDs
              have HDl := Lib.hid (show D.length ≤ 60 by rw [← hD, lackAll_filter HsH.out]; exact Nat.le_trans (List.length_filter_le _ _) HHl.out)
              have HD := Lib.hid hD
              have HWq := Lib.hid (show WEq (addAllM [] D) D by have := addAll_eq WEq.nil D; rw [addAll_sorted hDs] at this; exact this)
              clear hD hDs
              go_wp2_with fail
              with_reducible refine Calls.mono (HLk.out T w9 HT9.out.dt HT9.out.okT Ho9.out) ?_
              rintro r w10 ⟨⟨v10, rfl, ho10⟩, hb10⟩
              rw [HD.out] at ho10
              obtain ⟨A10, c10, hv10⟩ := ho10.shape
              subst hv10
              obtain ⟨nD, hnD⟩ : ∃ n, D.length = n := ⟨_, rfl⟩
              rw [hnD] at ho10 ⊢
              have HnD := Lib.hid hnD
              have hwa10 := Hwa9.out.keep hb10
              have HAd := Lib.hid (WaAdd_of p3 b3 [] A10 c10 D w10 hwa10 w10.heap.size (own_rows7 ho10 hwa10.map) (by simp) (fun x hx => HagH.out x (HLd.out.sub x hx)) (by have := HDl.out; omega) nD hnD.symm)
              have HT10 := Lib.hid (HT9.out.keep hb10)
              have Ho10 := Lib.hid (Ho9.out.below hb10)
              have Hwa10 := Lib.hid hwa10
              clear ho10 hb10 hwa10 hnD
              go_wp2_with fail
              with_reducible refine Calls.mono HAd.out ?_
              rintro r w11 ⟨rfl, hwa11, hg11⟩
              have hadl : (addAllM [] D).length = nD := by rw [HWq.out.len, HnD.out]
              rw [hadl]
              have HLm := Lib.hid (show LoadM w w11 p1 b1 p2 b2 p3 b3 F T (addAllM [] D) D (.slice A7 nh c7) H from ⟨HT10.out.third Hwa10.out.map HB3.out.1 HB3.out.2.1 HB3.out.2.2 hg11, hwa11, HWq.out, Ho10.out.other Hwa10.out.map hg11, HB3.out.1, HB3.out.2.1, HB3.out.2.2, HLd.out⟩)
              have HFs := Lib.hid HT9.out.okF
              have hnDb : nD ≤ 60 := by have := HDl.out; have := HnD.out; omega
              clear hwa11 hg11 hadl
              go_wp2
              go_loopw [16, 17, 18, 20, 99] (fun v16 v17 v18 v20 v99 wr => ∃ (k : Nat) (T : List Lsa) (M : List Hd), v16 = .int .i64 k ∧ k ≤ nD + 2 ∧ LoadM w wr p1 b1 p2 b2 p3 b3 F T M (D.drop k) (.slice A7 nh c7) H) (fun v16 _ _ _ _ _ => nD + 3 - (intOf v16).toNat)
              case atStart => exact ⟨0, T, _, rfl, by omega, by rw [List.drop_zero]; exact HLm.out⟩
              case round =>
                clear HLm HAd HT10 Ho10 Hwa10 HWq Hwa9 HT9 Ho9 HT8 HLd
                obtain ⟨k, T, M, rfl, hk, hlm⟩ := hrel
                have HLm := Lib.hid hlm
                clear hlm
                by_cases hlt : k < nD
                · have hkl : (k : Int) < (nD : Int) := by omega
                  obtain ⟨q, hq⟩ : ∃ q, nD - k = q := ⟨_, rfl⟩
                  have hqi : (nD : Int) - (k : Int) = (q : Int) := by omega
                  have hqb : q ≤ 60 := by omega
                  have hq0 : 0 < q := by omega
                  have hRl : (D.drop k).length = q := by rw [List.length_drop, HnD.out, hq]
                  obtain ⟨R, hR⟩ : ∃ R, D.drop k = R := ⟨_, rfl⟩
                  rw [hR] at HLm hRl
                  have HRl := Lib.hid hRl
                  have HR := Lib.hid hR
                  have Hq := Lib.hid hq
                  have HAs := Lib.hid (WaAsk_of p3 b3 M R wr HLm.out.wa HLm.out.eq (by rw [HLm.out.eq.len, HRl.out]; omega))
                  have hsubR : ∀ r ∈ R, r ∈ toldL N := fun r hr => by rw [HHs.out]; exact HLm.out.load.sub r hr
                  have HsubR := Lib.hid hsubR
                  have hal : (askL R).length = min 3 q := by unfold askL; simp [HRl.out]
                  obtain ⟨m, hm3⟩ : ∃ m, min 3 q = m := ⟨_, rfl⟩
                  rw [hm3] at hal
                  have Hal := Lib.hid hal
                  have Hm3 := Lib.hid hm3
                  have hmb : m ≤ 3 := by omega
                  clear hR hRl hq hsubR hal hm3
                  go_wp2_with fail
                  with_reducible refine Calls.mono HAs.out ?_
                  rintro r w12 ⟨v12, rfl, ho12, hb12⟩
                  obtain ⟨A12, c12, hv12⟩ := ho12.shape
                  subst hv12
                  rw [Hal.out] at ho12 ⊢
                  have HLm12 := Lib.hid (HLm.out.keep hb12)
                  have HAn := Lib.hid (Answer_any p1 b1 40 F A12 c12 (askL R) w12 w12.heap.size HLm12.out.two.fr (OwnR.rows (C := 3) (cells := K3.cells) (fun _ => rfl) ho12).2 (Nat.le_refl _) (by rw [Hal.out]; omega) m Hal.out.symm (ans_found HpN.out HFs.out HsubR.out))
                  clear ho12 hb12
                  go_wp2_with fail
                  with_reducible refine Calls.mono HAn.out ?_
                  rintro r w13 ⟨v13, rfl, ⟨O, hxO, hO⟩, hb13⟩
                  obtain ⟨AO, cO, hvO⟩ := hxO.own.shape
                  subst hvO
                  have hOl : O.length = m := by rw [ans_len hO, HRl.out]; exact Hm3.out
                  rw [hOl] at hxO ⊢
                  have HxO := Lib.hid hxO
                  have HO := Lib.hid (show ∀ j (hj : j < O.length) (hj2 : j < R.length), AnsFor R[j] O[j] from fun j hj hj2 => ans_each HpN.out HFs.out HsubR.out hO j hj hj2)
                  have HOl := Lib.hid hOl
                  have HLm13 := Lib.hid (HLm12.out.keep hb13)
                  clear hxO hO hOl hb13
                  go_upto_region 29 with fail
                  go_cut [96] from 74 to 115 (fun v wx => v = .bool false ∧ wx = w13)
                  case first =>
                    rcases Nat.lt_trichotomy q 3 with h3 | h3 | h3
                    · obtain rfl : m = q := by have := Hm3.out; omega
                      have h3i : (m : Int) < 3 := by omega
                      have h3j : ¬ (3 : Int) < (m : Int) := by omega
                      have h3m : min (3 : Int) (m : Int) = (m : Int) := by omega
                      go_wp2_with fail
                      go_meet
                      case rel => exact ⟨by first | simp | simp [h3m], rfl⟩
                    · obtain rfl : m = 3 := by have := Hm3.out; omega
                      subst h3
                      go_wp2_with fail
                      go_meet
                      case rel => exact ⟨by simp, rfl⟩
                    · obtain rfl : m = 3 := by have := Hm3.out; omega
                      have h3i : (3 : Int) < (q : Int) := by omega
                      have h3j : ¬ (q : Int) < 3 := by omega
                      have h3m : min (3 : Int) (q : Int) = 3 := by omega
                      go_wp2_with fail
                      go_meet
                      case rel => exact ⟨by first | simp | simp [h3m], rfl⟩
                  case rest =>
                  obtain ⟨rfl, hwc⟩ := hcut
                  have hwc := hwc.symm
                  subst hwc
                  go_wp2
                  go_loopw [20, 99] (fun v20 v99 wr => ∃ (j : Nat) (T : List Lsa) (M : List Hd), v99 = .int .i64 j ∧ j ≤ m ∧ LoadM w wr p1 b1 p2 b2 p3 b3 F T M (R.drop j) (.slice A7 nh c7) H ∧ XsAt wr 0 (.slice AO m cO) O) (fun _ v99 _ => m - (intOf v99).toNat)
                  case atStart => exact ⟨0, T, M, rfl, Nat.zero_le _, by rw [List.drop_zero]; exact HLm13.out, HxO.out⟩
                  case round =>
                    obtain ⟨j, T, M, rfl, hj, hlm, hxO⟩ := hrel
                    have HLj := Lib.hid hlm
                    have HxJ := Lib.hid hxO
                    clear HLm13 HxO HLm HLm12 HAs HAn
                    by_cases hjl : j < m
                    · have hjli : (j : Int) < (m : Int) := by omega
                      have hjO : j < O.length := by rw [HOl.out]; exact hjl
                      have hjR : j < R.length := by have := HRl.out; have := Hm3.out; omega
                      have hans := HO.out j hjO hjR
                      have hdc := drop_cons hjR
                      obtain ⟨gO, cO2, hvO2, x0, x1, x2, x3, x4, x5, x6, x7, x8⟩ := row_at hxO.own j hjO
                      injection hvO2 with e1 e2 e3
                      have hrw := hxO.rows _ (List.getElem_mem hjO)
                      have hle := hxO.lens _ (List.getElem_mem hjO)
                      rw [hdc] at hlm
                      subst e1 e3
                      generalize R[j] = r at *
                      generalize O[j] = x at *
                      obtain ⟨⟨y1, y2, y3, y4, y5, y6, y7⟩, ka, kc, ls, ma, mc, ms⟩ := x
                      obtain ⟨hah, har, has⟩ := hans
                      simp only at x0 x1 x2 x3 x4 x5 x6 x7 x8 hah has hle
                      subst hah
                      have hrw1 := hrw.1
                      have hrw2 := hrw.2
                      simp only at hrw1 hrw2
                      obtain ⟨nl, hnl⟩ : ∃ nl, nl = ls.length := ⟨_, rfl⟩
                      obtain ⟨nm, hnm⟩ : ∃ nm, nm = ms.length := ⟨_, rfl⟩
                      rw [← hnl] at x7
                      rw [← hnm] at x8
                      obtain ⟨w8, hw8⟩ : ∃ w8, wr.alloc (.cells #[.int .i64 y1, .int .i64 y2, .int .i64 y3, .int .i64 y4, .int .i64 y5, .int .i64 y6, .int .i64 y7, .slice ka nl kc, .slice ma nm mc] 38) = w8 := ⟨_, rfl⟩
                      obtain ⟨g8, hg8⟩ : ∃ g8, wr.heap.size = g8 := ⟨_, rfl⟩
                      have hb8 := below_new wr (.cells #[.int .i64 y1, .int .i64 y2, .int .i64 y3, .int .i64 y4, .int .i64 y5, .int .i64 y6, .int .i64 y7, .slice ka nl kc, .slice ma nm mc] 38)
                      have hk8 := Blk.new wr 38 #[.int .i64 y1, .int .i64 y2, .int .i64 y3, .int .i64 y4, .int .i64 y5, .int .i64 y6, .int .i64 y7, .slice ka nl kc, .slice ma nm mc]
                      rw [hw8, hg8] at hk8
                      rw [hw8] at hb8
                      have hlm8 := hlm.keep hb8
                      have hx8 := hxO.keep hb8
                      have HLm8 := Lib.hid hlm8
                      have Hx8 := Lib.hid hx8
                      have Hk8 := Lib.hid hk8
                      have Hne8 := Lib.hid (show g8 ≠ b2 by have := hlm.two.dt.map.lt; omega)
                      have Hag := Lib.hid (right_age har)
                      have Har := Lib.hid har
                      have Has := Lib.hid has
                      have hl8 := rows_keep hrw1 hb8
                      have hm8 := rows_keep hrw2 hb8
                      obtain ⟨z0, z1, z2, z3, z4, z5, z6, z7, z8, zf⟩ := blk9 hk8
                      by_cases hroom : (getX ⟨y2, y3, y4⟩ T).isSome = true ∨ (T.length : Int) ≠ 40
                      · have HP := Lib.hid (DbPut_ok p2 b2 40 T y1 y2 y3 y4 y5 y6 y7 ka kc ls ma mc ms w8 hlm8.two.dt hl8 hm8 (by omega) (by omega) nl nm hnl hnm har rfl hroom)
                        have Hroom := Lib.hid hroom
                        have Hjl := Lib.hid hjl
                        clear hroom hrw hrw1 hrw2 hle hnl hnm hdc hjO hjR hlm hxO hb8 hk8 hlm8 hx8 har has hl8 hm8 e2 hjl hj
                        go_wp2_with fail
                        with_reducible refine Calls.mono HP.out ?_
                        rintro r w9 ⟨rfl, ⟨Aa, ca, Ab, cb, -, -, hd9⟩, hg9⟩
                        have hz : (⟨sealedH ⟨y1, y2, y3, y4, y5, y6, y7⟩ ls ms, Aa, ca, ls, Ab, cb, ms⟩ : Lsa).head = ⟨y1, y2, y3, y4, y5, y6, y7⟩ := Has.out
                        have hokz : DbOk (setX ⟨sealedH ⟨y1, y2, y3, y4, y5, y6, y7⟩ ls ms, Aa, ca, ls, Ab, cb, ms⟩ T) := by
                          refine HLm8.out.two.okT.set_ ?_ (seal_again _ _ _) ?_
                          · rw [← Har.out]; exact right_v (by unfold vX; rw [hz])
                          · exact Hroom.out
                        have HLp := Lib.hid (HLm8.out.put HsH.out hd9 hz hokz hg9)
                        have hk9 := Hk8.out.grown hg9 (fun e => Hne8.out (by injection e))
                        have Hx9 := Lib.hid (Hx8.out.other HLm8.out.two.dt.map hg9)
                        have hgm := weq_first HLp.out.eq
                        have HTk := Lib.hid (WaTake_got p3 b3 M y1 y2 y3 y4 y5 y6 y7 w9 HLp.out.wa ⟨y1, y2, y3, y4, y5, y6, y7⟩ hgm.1 ⟨Hag.out.1, Hag.out.2⟩ Hag.out.1 Hag.out.2 (by rw [newer_self]; decide))
                        clear hd9 hg9 hz hokz hgm z0 z1 z2 z3 z4 z5 z6 z7 z8 zf
                        obtain ⟨z0, z1, z2, z3, z4, z5, z6, z7, z8, zf⟩ := blk9 hk9
                        clear hk9
                        go_wp2_with fail
                        with_reducible refine Calls.mono HTk.out ?_
                        rintro r w10 ⟨rfl, hwa10, hg10⟩
                        have HLn := Lib.hid (HLp.out.take hwa10 hg10)
                        have Hx10 := Lib.hid (Hx9.out.other HLp.out.wa.map hg10)
                        clear hwa10 hg10 z0 z1 z2 z3 z4 z5 z6 z7 z8 zf
                        go_wp2
                        go_roundw
                        case measure => have := Hjl.out; simp [intOf]; omega
                        case rel => exact ⟨j + 1, _, _, by go_num, Hjl.out, HLn.out, Hx10.out⟩
                      · have h1 : (getX ⟨y2, y3, y4⟩ T).isSome = false := by
                          cases hs : (getX ⟨y2, y3, y4⟩ T).isSome with
                          | false => rfl
                          | true => exact absurd (.inl hs) hroom
                        have h2 : (T.length : Int) = 40 := Decidable.byContradiction fun c => hroom (.inr c)
                        have HP := Lib.hid (DbPut_full p2 b2 40 T y1 y2 y3 y4 y5 y6 y7 ka kc ls ma mc ms w8 hlm8.two.dt hl8 hm8 (by omega) (by omega) nl nm hnl hnm har h1 h2)
                        clear hroom hrw hrw1 hrw2 hle hnl hnm hdc hjO hjR hlm hxO hb8 hk8 hlm8 hx8 har has hl8 hm8 e2 hjl hj h1
                        go_wp2_with fail
                        with_reducible refine Calls.mono HP.out ?_
                        rintro r w9 ⟨rfl, hb9⟩
                        have HLm9 := Lib.hid (HLm8.out.keep hb9)
                        have HLe := Lib.hid (DbLen p2 b2 40 T w9 HLm9.out.two.dt)
                        clear hb9 z0 z1 z2 z3 z4 z5 z6 z7 z8 zf
                        go_wp2_with fail
                        with_reducible refine Calls.mono HLe.out ?_
                        rintro r w10 ⟨rfl, rfl⟩
                        go_wp2
                        go_ret
                        exact ⟨rfl, HLm9.out.two.bel⟩
                    · have hjli : ¬ (j : Int) < (m : Int) := by omega
                      obtain rfl : j = m := by omega
                      have HLe := Lib.hid (show LoadM w wr p1 b1 p2 b2 p3 b3 F T M (D.drop (k + 3)) (.slice A7 nh c7) H by
                        have h := HLj.out
                        rw [← HR.out] at h
                        by_cases h3 : q ≤ 3
                        · have := Hm3.out
                          obtain rfl : j = q := by omega
                          rw [drop_three HnD.out Hq.out h3] at h
                          exact h
                        · have := Hm3.out
                          obtain rfl : j = 3 := by omega
                          rw [List.drop_drop] at h
                          exact h)
                      clear hj hjl hlm hxO
                      go_wp2
                      go_roundw
                      case measure => simp [intOf]; omega
                      case rel => exact ⟨k + 3, T, M, by go_num, by omega, HLe.out⟩
                · have hkl : ¬ (k : Int) < (nD : Int) := by omega
                  have hR0 : D.drop k = [] := List.drop_eq_nil_of_le (by have := HnD.out; omega)
                  rw [hR0] at HLm
                  have hM0 : M.length = 0 := by rw [HLm.out.eq.len]; rfl
                  have HLl := Lib.hid (WaLen p3 b3 M wr HLm.out.wa)
                  rw [hM0] at HLl
                  have HAs := Lib.hid (WaAsk_of p3 b3 M [] wr HLm.out.wa HLm.out.eq (by omega))
                  have hdone := HLm.out.load.done HsH.out
                  have HLz := Lib.hid (fun W (hd : DbAt W p2 b2 40 T) (ho : OwnR 34 7 Hd.cells W w.heap.size (.slice A7 nh c7) H) => HLk.out T W hd HLm.out.two.okT ho)
                  rw [hdone] at HLz
                  clear hlt hR0 hM0 hdone
                  go_wp2_with fail
                  with_reducible refine Calls.mono HLl.out ?_
                  rintro r w12 ⟨rfl, rfl⟩
                  go_wp2_with fail
                  with_reducible refine Calls.mono HAs.out ?_
                  rintro r w13 ⟨v13, rfl, ho13, hb13⟩
                  obtain ⟨A13, c13, hv13⟩ := ho13.shape
                  subst hv13
                  have HLm13 := Lib.hid (HLm.out.keep hb13)
                  have hask : (askL ([] : List Hd)).length = 0 := rfl
                  rw [hask]
                  clear ho13 hb13 hask
                  go_wp2_with fail
                  with_reducible refine Calls.mono (HLz.out _ HLm13.out.two.dt HLm13.out.hd) ?_
                  rintro r w14 ⟨⟨v14, rfl, ho14⟩, hb14⟩
                  obtain ⟨A14, c14, hv14⟩ := ho14.shape
                  subst hv14
                  have Hb14 := Lib.hid (below_trans HLm13.out.two.bel HLm13.out.two.bel.size hb14)
                  have hnil : ([] : List Hd).length = 0 := rfl
                  rw [hnil]
                  clear ho14 hb14 hnil
                  go_wp2
                  go_ret
                  exact ⟨rfl, Hb14.out⟩

end Go.Proofs.Ytpnbibokddhheaa
