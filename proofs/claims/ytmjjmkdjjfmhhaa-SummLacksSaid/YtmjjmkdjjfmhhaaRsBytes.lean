/-
  The document's bytes of a description: its way.
-/
import Derived.Test.YtmjjmkdjjfmhhaaRsHead
import Derived.Test.YtmjjmkdjjfmhhaaLsBytes
namespace Go.Proofs.Ytmjjmkdjjfmhhaa
open Go.RowKit

def refBodyL (kind : Int) (ls : List Lnk) (ms : List Int) : List Int := (if kind = 1 then routerL ls else []) ++ ms.flatMap (beL 4)
theorem refBody_is {kind : Int} {ls : List Lnk} {ms : List Int} (h : kind = 1 → ms = []) : refBodyL kind ls ms = bodyL kind ls ms := by
  unfold refBodyL bodyL
  by_cases hk : kind = 1
  · rw [if_pos hk, if_pos hk, h hk]
    simp
  · rw [if_neg hk, if_neg hk]
    simp
theorem refBody_len (kind : Int) (ls : List Lnk) (ms : List Int) (hl : ls.length ≤ 1000) (hm : ms.length ≤ 1000) : (refBodyL kind ls ms).length ≤ 20000 := by
  unfold refBodyL
  rw [List.length_append, flat_len _ _ (beL_len 4)]
  split
  · rw [routerL_len]; omega
  · simp; omega
theorem refBody_ok (kind : Int) (ls : List Lnk) (ms : List Int) : ∀ y ∈ refBodyL kind ls ms, byteOk y := by
  refine app_ok ?_ (flatB_ok _ _)
  split
  · refine app_ok (flatB_ok _ _) (fun x hx => ?_)
    obtain ⟨y, -, hy⟩ := List.mem_flatMap.1 hx
    exact lnkL_ok y x hy
  · simp
theorem byte_lo (n : Int) : n % 256 = byteI n 0 ∧ byteI n 0 % 256 = byteI n 0 := by
  have h : n % 256 = byteI n 0 := by unfold byteI; simp
  exact ⟨h, by rw [← h]; omega⟩
theorem lnkL_is (x : Lnk) (M : List Int) : (((M ++ beL 4 x.id) ++ beL 4 x.data) ++ [byteI x.kind 0, 0]) ++ beL 2 x.cost = M ++ lnkL x := by
  unfold lnkL
  simp only [List.flatMap_cons, List.flatMap_nil, List.append_nil, List.append_assoc, one_byte, List.cons_append, List.nil_append]
  rfl
/-- a block that a row of the call's own is not -/
def LB (W : World) (v : Value) (g : Nat) (cs : Array Value) : Prop := Blk W g 108 cs ∧ v.ownBlock ≠ some g
theorem own_len {w : World} {B n c : Nat} {A : Option Addr} {L : List Int} (h : OwnB w B (.slice A n c) L) (hn : L.length = n) : OwnB w B (.slice A L.length c) L := by rw [hn]; exact h
theorem lb_below {W W' : World} {v : Value} {g : Nat} {cs : Array Value} (h : LB W v g cs) (hb : Below W.heap.size W W') : LB W' v g cs := ⟨h.1.below hb h.1.lt, h.2⟩
theorem lb_keep {W W' : World} {v v' : Value} {g : Nat} {cs : Array Value} (h : LB W v g cs) (hk : ∀ g, g < W.heap.size → v.ownBlock ≠ some g → W'.heap[g]? = W.heap[g]? ∧ v'.ownBlock ≠ some g) : LB W' v' g cs :=
  ⟨(hk g h.1.lt h.2).1.trans h.1, (hk g h.1.lt h.2).2⟩
theorem lb_new {W : World} {B : Nat} {v : Value} {L : List Int} (h : OwnB W B v L) (o : Obj) {cs : Array Value} (hk : Blk (W.alloc o) W.heap.size 108 cs) : LB (W.alloc o) v W.heap.size cs :=
  ⟨hk, fun e => by have := (h.block _ e).2; omega⟩

set_option maxHeartbeats 8000000 in
set_option maxRecDepth 100000 in
theorem refBytes_any (y1 y2 y3 y4 y5 y6 y7 : Int) (ka : Option Addr) (kc : Nat) (ls : List Lnk) (ma : Option Addr) (mc : Nat) (ms : List Int) (w : World) (B : Nat) (hl : RowsAt 4 Lnk.cells w B ka ls) (hm : RowsAt 1 icell w B ma ms) (hB : B ≤ w.heap.size) (hlm : ls.length ≤ 1000) (hmm : ms.length ≤ 1000) (nl nm : Nat) (hnl : nl = ls.length) (hnm : nm = ms.length) (h1m : y2 = 1 → ms = []) (N : Nat) (hN : N = (bytesL ⟨y1, y2, y3, y4, y5, y6, y7⟩ ls ms).length) :
    Calls Try.prog 70 #[.agg #[.int .i64 y1, .int .i64 y2, .int .i64 y3, .int .i64 y4, .int .i64 y5, .int .i64 y6, .int .i64 y7, .slice ka nl kc, .slice ma nm mc]] w fun r w' => ∃ A c, r = .returned (.slice A N c) ∧ OwnB w' w.heap.size (.slice A N c) (bytesL ⟨y1, y2, y3, y4, y5, y6, y7⟩ ls ms) ∧ Below w.heap.size w w' := by
  obtain ⟨w1, hW1⟩ : ∃ w1, w.alloc (.cells #[.int .i64 y1, .int .i64 y2, .int .i64 y3, .int .i64 y4, .int .i64 y5, .int .i64 y6, .int .i64 y7, .slice ka nl kc, .slice ma nm mc] 27) = w1 := ⟨_, rfl⟩
  have hk := Blk.new w 27 #[.int .i64 y1, .int .i64 y2, .int .i64 y3, .int .i64 y4, .int .i64 y5, .int .i64 y6, .int .i64 y7, .slice ka nl kc, .slice ma nm mc]
  have hb := below_new w (.cells #[.int .i64 y1, .int .i64 y2, .int .i64 y3, .int .i64 y4, .int .i64 y5, .int .i64 y6, .int .i64 y7, .slice ka nl kc, .slice ma nm mc] 27)
  rw [hW1] at hk hb
  have FW := Lib.hid (fun W (hW : Below w1.heap.size w1 W) => blk9 (hk.below hW hk.lt))
  have Hb := Lib.hid hb
  have HL := Lib.hid (rows_keep (hl.more hB) hb)
  have HM := Lib.hid (rows_keep (hm.more hB) hb)
  have hsz := hb.size
  have Hnl := Lib.hid hnl
  have Hnm := Lib.hid hnm
  have hnl2 : nl ≤ 1000 := by omega
  have hnm2 : nm ≤ 1000 := by omega
  have HN := Lib.hid hN
  have H1m := Lib.hid h1m
  have Hb1 := Lib.hid (Below.refl w1.heap.size w1)
  have Hown1 := Lib.hid (OwnR.nil (e := 5) (C := 1) (cells := bcell) w1 w1.heap.size)
  clear hk hb hl hm hB hnl hnm hlm hmm hN h1m
  go_enter Try.func70, Try.ntmps70
  have z := FW.out w1 (Below.refl _ _)
  obtain ⟨z0, z1, z2, z3, z4, z5, z6, z7, z8, zf⟩ := z
  go_upto_if 13 with fail
  go_cut [3] (fun v wx => ∃ A M c, v = .slice A M.length c ∧ M = (if y2 = 1 then routerL ls else []) ∧ OwnB wx w1.heap.size v M ∧ Below w1.heap.size w1 wx)
  case first =>
    skip
    by_cases hk1 : y2 = 1
    · subst hk1
      obtain ⟨L1, hL1⟩ : ∃ L1 : List Int, L1 = [] := ⟨_, rfl⟩
      obtain ⟨k1, hk1⟩ : ∃ k1 : Nat, k1 = 0 := ⟨_, rfl⟩
      have Hl1 := Lib.hid (show L1.length = k1 by rw [hL1, hk1]; rfl)
      rw [← hL1] at Hown1
      have HL1 := Lib.hid hL1
      have hkb1 : k1 ≤ 0 := by omega
      clear hL1 hk1
      go_wp2_with fail
      with_reducible refine Calls.mono (refBytes4 (nl : Int) _) ?_
      rintro r v2 ⟨g2, rfl, -, hr2, hb2⟩
      have Hr2 := Lib.hid hr2
      have Ha2 := Lib.hid hb2
      clear hr2 hb2
      obtain ⟨k2, hk2⟩ : ∃ k, k = k1 + 4 := ⟨_, rfl⟩
      have HK2 := Lib.hid hk2
      have hkb2 : k2 ≤ k1 + 4 := by omega
      clear hk2
      go_wp2_with (at_builtin; (refine app_bytes (w0 := w1) (by rfl) _ _ (by rfl) _ L1 (by rfl) (Hown1.out.below Ha2.out) (below_trans Hb1.out Hb1.out.size Ha2.out) (some ⟨g2, 0, none⟩) 4 4 (beL 4 (nl : Int)) (by rw [beL_len]) (by rfl) Hr2.out k2 (by rw [List.length_append, Hl1.out, beL_len, HK2.out]) (by omega) ?_); intro A2 c2 w2 hown2 hb2 hkp2; have Hown2' := Lib.hid hown2; have Hb2 := Lib.hid hb2; clear hown2 hb2 hkp2 z0 z1 z2 z3 z4 z5 z6 z7 z8 zf; obtain ⟨z0, z1, z2, z3, z4, z5, z6, z7, z8, zf⟩ := FW.out w2 Hb2.out; obtain ⟨L2, hL2⟩ : ∃ L2, L1 ++ beL 4 (nl : Int) = L2 := ⟨_, rfl⟩; have Hown2 := Lib.hid (show OwnB w2 w1.heap.size (.slice A2 k2 c2) L2 by rw [← hL2]; exact Hown2'.out); have Hl2 := Lib.hid (show L2.length = k2 by rw [← hL2, List.length_append, Hl1.out, HK2.out]; (first | rfl | rw [beL_len])); have HL2 := Lib.hid hL2; clear hL2 Hown2')
      go_loopw [3, 4] (fun o i wr => ∃ (j : Nat) (A : Option Addr) (M : List Int) (c m : Nat), o = .slice A m c ∧ i = .int .i64 j ∧ j ≤ ls.length ∧ M = L2 ++ (ls.take j).flatMap lnkL ∧ M.length = m ∧ m = 4 + 12 * j ∧ OwnB wr w1.heap.size o M ∧ Below w1.heap.size w1 wr) (fun _ i _ => ls.length - (intOf i).toNat)
      case atStart => exact ⟨0, A2, L2, c2, k2, rfl, rfl, Nat.zero_le _, by simp, Hl2.out, by have := HK2.out; omega, Hown2.out, Hb2.out⟩
      case round =>
        obtain ⟨j, A3, L3, c3, k3, rfl, rfl, hj, hM, hMl, hk3, hown, hbr⟩ := hrel
        obtain ⟨w3, hw3⟩ : ∃ w3, wr = w3 := ⟨_, rfl⟩
        subst hw3
        obtain ⟨w3, rfl⟩ : ∃ w3 : World, w3 = wr := ⟨_, rfl⟩
        have HMr := Lib.hid hM
        have Hown3 := Lib.hid hown
        have Hb3 := Lib.hid hbr
        have Hl3 := Lib.hid hMl
        have Hk3 := Lib.hid hk3
        have hk3b : k3 ≤ 4 + 12 * j := by omega
        clear z0 z1 z2 z3 z4 z5 z6 z7 z8 zf
        obtain ⟨z0, z1, z2, z3, z4, z5, z6, z7, z8, zf⟩ := FW.out _ hbr
        by_cases hlt : j < ls.length
        · obtain ⟨g, o, rfl, -, x0, x1, x2, x3⟩ := row_lnk (HL.out.below hbr) j hlt
          have hjl : (j : Int) < (nl : Int) := by have := Hnl.out; omega
          have hj3 : j ≤ 1000 := by have := Hnl.out; omega
          have HS := Lib.hid (List.take_succ_eq_append_getElem hlt)
          generalize ls[j] = x at *
          obtain ⟨e1, e2, e3, e4⟩ := x
          simp only at x0 x1 x2 x3
          have Hj := Lib.hid hlt
          have Hlb3 := Lib.hid (lb_new hown (.cells #[.int .i64 e1, .int .i64 e2, .int .i64 e3, .int .i64 e4] 108) (show Blk _ _ 108 #[.int .i64 e1, .int .i64 e2, .int .i64 e3, .int .i64 e4] from Blk.new w3 _ _))
          have Hbn := Lib.hid (below_new w3 (.cells #[.int .i64 e1, .int .i64 e2, .int .i64 e3, .int .i64 e4] 108))
          clear hM hbr hown hMl hk3
          go_upto_region 8 with fail
          obtain ⟨gl, hgl⟩ : ∃ gl, w3.heap.size = gl := ⟨_, rfl⟩
          obtain ⟨w4, hw4⟩ : ∃ w4, w3.alloc (.cells #[.int .i64 e1, .int .i64 e2, .int .i64 e3, .int .i64 e4] 108) = w4 := ⟨_, rfl⟩
          have Hown4 := Lib.hid (Hown3.out.below Hbn.out)
          have Hb4 := Lib.hid (below_trans Hb3.out Hb3.out.size Hbn.out)
          rw [hw4] at Hown4 Hb4 Hlb3 ⊢
          rw [hgl] at Hlb3 ⊢
          obtain ⟨L4, rfl⟩ : ∃ L4, L4 = L3 := ⟨_, rfl⟩
          obtain ⟨k4, rfl⟩ : ∃ k4, k4 = k3 := ⟨_, rfl⟩
          have Hl4 := Hl3
          have Hlb4 := Hlb3
          clear hw4 hgl Hlb3 Hbn z0 z1 z2 z3 z4 z5 z6 z7 z8 zf x0 x1 x2 x3
          obtain ⟨x0, x1, x2, x3, xf⟩ := blk4 Hlb4.out.1
          go_wp2_with fail
          with_reducible refine Calls.mono (refBytes4 e2 _) ?_
          rintro r v5 ⟨g5, rfl, -, hr5, hb5⟩
          have Hr5 := Lib.hid hr5
          have Ha5 := Lib.hid hb5
          clear hr5 hb5
          obtain ⟨k5, hk5⟩ : ∃ k, k = k4 + 4 := ⟨_, rfl⟩
          have HK5 := Lib.hid hk5
          have hkb5 : k5 ≤ k4 + 4 := by omega
          clear hk5
          go_wp2_with (at_builtin; (refine app_bytes (w0 := w1) (by rfl) _ _ (by rfl) _ L4 (by rfl) (Hown4.out.below Ha5.out) (below_trans Hb4.out Hb4.out.size Ha5.out) (some ⟨g5, 0, none⟩) 4 4 (beL 4 e2) (by rw [beL_len]) (by rfl) Hr5.out k5 (by rw [List.length_append, Hl4.out, beL_len, HK5.out]) (by omega) ?_); intro A5 c5 w5 hown5 hb5 hkp5; have Hown5' := Lib.hid hown5; have Hb5 := Lib.hid hb5; have Hlb5 := Lib.hid (lb_keep (lb_below Hlb4.out Ha5.out) hkp5); clear hown5 hb5 hkp5 x0 x1 x2 x3 xf; obtain ⟨x0, x1, x2, x3, xf⟩ := blk4 Hlb5.out.1; obtain ⟨L5, hL5⟩ : ∃ L5, L4 ++ beL 4 e2 = L5 := ⟨_, rfl⟩; have Hown5 := Lib.hid (show OwnB w5 w1.heap.size (.slice A5 k5 c5) L5 by rw [← hL5]; exact Hown5'.out); have Hl5 := Lib.hid (show L5.length = k5 by rw [← hL5, List.length_append, Hl4.out, HK5.out]; (first | rfl | rw [beL_len])); have HL5 := Lib.hid hL5; clear hL5 Hown5')
          go_wp2_with fail
          with_reducible refine Calls.mono (refBytes4 e3 _) ?_
          rintro r v6 ⟨g6, rfl, -, hr6, hb6⟩
          have Hr6 := Lib.hid hr6
          have Ha6 := Lib.hid hb6
          clear hr6 hb6
          obtain ⟨k6, hk6⟩ : ∃ k, k = k5 + 4 := ⟨_, rfl⟩
          have HK6 := Lib.hid hk6
          have hkb6 : k6 ≤ k5 + 4 := by omega
          clear hk6
          obtain ⟨k7, hk7⟩ : ∃ k, k = k6 + 2 := ⟨_, rfl⟩
          have HK7 := Lib.hid hk7
          have hkb7 : k7 ≤ k6 + 2 := by omega
          clear hk7
          go_wp2_with (first
            | (at_builtin; (refine app_bytes (w0 := w1) (by rfl) _ _ (by rfl) _ L6 (by rfl) (Hown6.out.below Ha7.out) (below_trans Hb6.out Hb6.out.size Ha7.out) (some ⟨w6.heap.size, 0, none⟩) 2 2 [byteI e1 0, 0] (by rfl) (by rfl) Hr7.out k7 (by rw [List.length_append, Hl6.out, HK7.out]; rfl) (by omega) ?_); intro A7 c7 w7 hown7 hb7 hkp7; have Hown7' := Lib.hid hown7; have Hb7 := Lib.hid hb7; have Hlb7 := Lib.hid (lb_keep (lb_below Hlb6.out Ha7.out) hkp7); clear hown7 hb7 hkp7 x0 x1 x2 x3 xf; obtain ⟨x0, x1, x2, x3, xf⟩ := blk4 Hlb7.out.1; obtain ⟨L7, hL7⟩ : ∃ L7, L6 ++ [byteI e1 0, 0] = L7 := ⟨_, rfl⟩; have Hown7 := Lib.hid (show OwnB w7 w1.heap.size (.slice A7 k7 c7) L7 by rw [← hL7]; exact Hown7'.out); have Hl7 := Lib.hid (show L7.length = k7 by rw [← hL7, List.length_append, Hl6.out, HK7.out]; (first | rfl | rw [beL_len])); have HL7 := Lib.hid hL7; clear hL7 Hown7'; clear kb kb2)
            | (at_builtin; (refine app_bytes (w0 := w1) (by rfl) _ _ (by rfl) _ L5 (by rfl) (Hown5.out.below Ha6.out) (below_trans Hb5.out Hb5.out.size Ha6.out) (some ⟨g6, 0, none⟩) 4 4 (beL 4 e3) (by rw [beL_len]) (by rfl) Hr6.out k6 (by rw [List.length_append, Hl5.out, beL_len, HK6.out]) (by omega) ?_); intro A6 c6 w6 hown6 hb6 hkp6; have Hown6' := Lib.hid hown6; have Hb6 := Lib.hid hb6; have Hlb6 := Lib.hid (lb_keep (lb_below Hlb5.out Ha6.out) hkp6); clear hown6 hb6 hkp6 x0 x1 x2 x3 xf; obtain ⟨x0, x1, x2, x3, xf⟩ := blk4 Hlb6.out.1; obtain ⟨L6, hL6⟩ : ∃ L6, L5 ++ beL 4 e3 = L6 := ⟨_, rfl⟩; have Hown6 := Lib.hid (show OwnB w6 w1.heap.size (.slice A6 k6 c6) L6 by rw [← hL6]; exact Hown6'.out); have Hl6 := Lib.hid (show L6.length = k6 by rw [← hL6, List.length_append, Hl5.out, HK6.out]; (first | rfl | rw [beL_len])); have HL6 := Lib.hid hL6; clear hL6 Hown6'; have Hr7 := Lib.hid (rows_blk (t := 5) (l := [byteI e1 0, 0]) (Blk.new w6 5 #[.int .u8 (byteI e1 0), .int .u8 0])); have Ha7 := Lib.hid (below_new w6 (.cells #[.int .u8 (byteI e1 0), .int .u8 0] 5)); obtain ⟨kb, kb2⟩ := byte_lo e1))
          go_wp2_with fail
          with_reducible refine Calls.mono (refBytes2 e4 _) ?_
          rintro r v8 ⟨g8, rfl, -, hr8, hb8⟩
          have Hr8 := Lib.hid hr8
          have Ha8 := Lib.hid hb8
          clear hr8 hb8
          obtain ⟨k8, hk8⟩ : ∃ k, k = k7 + 2 := ⟨_, rfl⟩
          have HK8 := Lib.hid hk8
          have hkb8 : k8 ≤ k7 + 2 := by omega
          clear hk8
          go_wp2_with (at_builtin; (refine app_bytes (w0 := w1) (by rfl) _ _ (by rfl) _ L7 (by rfl) (Hown7.out.below Ha8.out) (below_trans Hb7.out Hb7.out.size Ha8.out) (some ⟨g8, 0, none⟩) 2 2 (beL 2 e4) (by rw [beL_len]) (by rfl) Hr8.out k8 (by rw [List.length_append, Hl7.out, beL_len, HK8.out]) (by omega) ?_); intro A8 c8 w8 hown8 hb8 hkp8; have Hown8' := Lib.hid hown8; have Hb8 := Lib.hid hb8; have Hlb8 := Lib.hid (lb_keep (lb_below Hlb7.out Ha8.out) hkp8); clear hown8 hb8 hkp8 x0 x1 x2 x3 xf; obtain ⟨x0, x1, x2, x3, xf⟩ := blk4 Hlb8.out.1; obtain ⟨L8, hL8⟩ : ∃ L8, L7 ++ beL 2 e4 = L8 := ⟨_, rfl⟩; have Hown8 := Lib.hid (show OwnB w8 w1.heap.size (.slice A8 k8 c8) L8 by rw [← hL8]; exact Hown8'.out); have Hl8 := Lib.hid (show L8.length = k8 by rw [← hL8, List.length_append, Hl7.out, HK8.out]; (first | rfl | rw [beL_len])); have HL8 := Lib.hid hL8; clear hL8 Hown8')
          have Hres := Lib.hid (show L8 = L2 ++ (ls.take (j + 1)).flatMap lnkL by
            have h9 := lnkL_is ⟨e1, e2, e3, e4⟩ L4
            simp only at h9
            rw [HL5.out, HL6.out, HL7.out, HL8.out] at h9
            rw [h9, HS.out, HMr.out, List.flatMap_append, List.append_assoc]
            simp)
          go_roundw
          case measure => have := Hj.out; simp [intOf]; omega
          case rel => exact ⟨j + 1, A8, L8, c8, k8, rfl, by go_num, Hj.out, Hres.out, Hl8.out, by have := Hk3.out; have := HK5.out; have := HK6.out; have := HK7.out; have := HK8.out; omega, Hown8.out, Hb8.out⟩
        · have hjl : ¬ (j : Int) < (nl : Int) := by have := Hnl.out; omega
          have hMM : L3 = (if (1 : Int) = 1 then routerL ls else []) := by
            have hj' : j = ls.length := by omega
            rw [hM, hj', List.take_length, ← HL2.out, HL1.out, if_pos rfl, Hnl.out]
            simp [routerL]
          have HMM := Lib.hid hMM
          clear hMM hM hbr hown hMl hk3
          go_wp2
          go_meet
          case rel => exact ⟨A3, L3, c3, by rw [Hl3.out], HMM.out, Hown3.out, Hb3.out⟩
    · go_wp2
      go_meet
      case rel => exact ⟨none, [], 0, rfl, by rw [if_neg hk1], Hown1.out, Hb1.out⟩
  case rest =>
    obtain ⟨A1, L1, c1, rfl, hL1, hown, hbx⟩ := hcut
    have hl1 : L1.length ≤ 12004 := by
      rw [hL1]
      split
      · rw [routerL_len]; have := Hnl.out; omega
      · simp
    have HL1 := Lib.hid hL1
    have HownB := Lib.hid hown
    have HbB := Lib.hid hbx
    obtain ⟨w2, rfl⟩ : ∃ w2 : World, w2 = wc := ⟨_, rfl⟩
    clear hL1 hown z0 z1 z2 z3 z4 z5 z6 z7 z8 zf
    obtain ⟨z0, z1, z2, z3, z4, z5, z6, z7, z8, zf⟩ := FW.out _ hbx
    clear hbx
    go_wp2
    go_loopw [3, 6] (fun o i wr => ∃ (j : Nat) (A : Option Addr) (M : List Int) (c m : Nat), o = .slice A m c ∧ i = .int .i64 j ∧ j ≤ ms.length ∧ M = L1 ++ (ms.take j).flatMap (beL 4) ∧ M.length = m ∧ m ≤ 12004 + 4 * j ∧ OwnB wr w1.heap.size o M ∧ Below w1.heap.size w1 wr) (fun _ i _ => ms.length - (intOf i).toNat)
    case atStart => exact ⟨0, A1, L1, c1, L1.length, rfl, rfl, Nat.zero_le _, by simp, rfl, by omega, HownB.out, HbB.out⟩
    case round =>
      obtain ⟨j, A3, L3, c3, k3, rfl, rfl, hj, hM, hMl, hk3, hown, hbr⟩ := hrel
      have HMr := Lib.hid hM
      have Hown3 := Lib.hid hown
      have Hb3 := Lib.hid hbr
      have Hl3 := Lib.hid hMl
      obtain ⟨w3, rfl⟩ : ∃ w3 : World, w3 = wr := ⟨_, rfl⟩
      clear z0 z1 z2 z3 z4 z5 z6 z7 z8 zf hl1
      obtain ⟨z0, z1, z2, z3, z4, z5, z6, z7, z8, zf⟩ := FW.out _ hbr
      have hjm : j ≤ 1000 := by have := Hnm.out; omega
      by_cases hlt : j < ms.length
      · obtain ⟨g, o, rfl, -, x0⟩ := row_int (HM.out.below hbr) j hlt
        have hjl : (j : Int) < (nm : Int) := by have := Hnm.out; omega
        have HS := Lib.hid (List.take_succ_eq_append_getElem hlt)
        generalize ms[j] = x at *
        have Hj := Lib.hid hlt
        clear hM hbr hown hMl
        go_wp2_with fail
        with_reducible refine Calls.mono (refBytes4 x _) ?_
        rintro r v5 ⟨g5, rfl, -, hr5, hb5⟩
        have Hr5 := Lib.hid hr5
        have Ha5 := Lib.hid hb5
        clear hr5 hb5
        obtain ⟨k5, hk5⟩ : ∃ k, k = k3 + 4 := ⟨_, rfl⟩
        have HK5 := Lib.hid hk5
        have hkb5 : k5 ≤ k3 + 4 := by omega
        clear hk5
        go_wp2_with (at_builtin; (refine app_bytes (w0 := w1) (by rfl) _ _ (by rfl) _ L3 (by rfl) (Hown3.out.below Ha5.out) (below_trans Hb3.out Hb3.out.size Ha5.out) (some ⟨g5, 0, none⟩) 4 4 (beL 4 x) (by rw [beL_len]) (by rfl) Hr5.out k5 (by rw [List.length_append, Hl3.out, beL_len, HK5.out]) (by omega) ?_); intro A5 c5 w5 hown5 hb5 hkp5; have Hown5' := Lib.hid hown5; have Hb5 := Lib.hid hb5; clear hown5 hb5 hkp5 x0 z0 z1 z2 z3 z4 z5 z6 z7 z8 zf; obtain ⟨L5, hL5⟩ : ∃ L5, L3 ++ beL 4 x = L5 := ⟨_, rfl⟩; have Hown5 := Lib.hid (show OwnB w5 w1.heap.size (.slice A5 k5 c5) L5 by rw [← hL5]; exact Hown5'.out); have Hl5 := Lib.hid (show L5.length = k5 by rw [← hL5, List.length_append, Hl3.out, HK5.out]; (first | rfl | rw [beL_len])); have HL5 := Lib.hid hL5; clear hL5 Hown5')
        have Hres := Lib.hid (show L5 = L1 ++ (ms.take (j + 1)).flatMap (beL 4) by
          rw [← HL5.out, HS.out, HMr.out, List.flatMap_append, List.append_assoc]
          simp)
        go_roundw
        case measure => have := Hj.out; simp [intOf]; omega
        case rel => exact ⟨j + 1, A5, L5, c5, k5, rfl, by go_num, Hj.out, Hres.out, Hl5.out, by have := HK5.out; omega, Hown5.out, Hb5.out⟩
      · have hjl : ¬ (j : Int) < (nm : Int) := by have := Hnm.out; omega
        have hbd : L3 = bodyL y2 ls ms := by
          have hj' : j = ms.length := by omega
          rw [hM, hj', List.take_length, ← refBody_is H1m.out]
          unfold refBodyL
          rw [HL1.out]
        obtain ⟨b, rfl⟩ : ∃ b, b = L3 := ⟨_, rfl⟩
        have hbl : k3 ≤ 20000 := by rw [← hMl, hbd]; exact bodyL_len _ _ _ (by have := Hnl.out; omega) (by have := Hnm.out; omega)
        have hbo : ∀ x ∈ b, byteOk x := by rw [hbd]; exact bodyL_ok _ _ _
        have Hgoal : Hid (bytesL ⟨y1, y2, y3, y4, y5, y6, y7⟩ ls ms = sealL (rawL ⟨y1, y2, y3, y4, y5, y6, y7⟩ b)) := Lib.hid (by unfold bytesL; rw [hbd])
        have hN2 : N = 20 + k3 := by rw [HN.out, Hgoal.out, sealL_len _ (by rw [rawL_len]; omega), rawL_len, hMl]
        have HR := Lib.hid (OwnR.rows (C := 1) (cells := bcell) (fun _ => rfl) hown).2
        have Hbo := Lib.hid hbo
        have HN2 := Lib.hid hN2
        have hN3 : N ≤ 20020 := by omega
        have hN4 : 20 ≤ N := by omega
        clear hbd hM hbr hown hMl hbo hN2 hk3 hj hjm hlt HMr Hown3
        go_upto_region 12 with fail
        obtain ⟨w12, hw12⟩ : ∃ w12, w3.alloc (.cells #[.int .i64 y1, .int .i64 y2, .int .i64 y3, .int .i64 y4, .int .i64 y5, .int .i64 0, .int .i64 (20 + (k3 : Int))] 23) = w12 := ⟨_, rfl⟩
        have hb12 := below_new w3 (.cells #[.int .i64 y1, .int .i64 y2, .int .i64 y3, .int .i64 y4, .int .i64 y5, .int .i64 0, .int .i64 (20 + (k3 : Int))] 23)
        rw [hw12] at hb12 ⊢
        obtain ⟨hd, hhd⟩ : ∃ hd, headL ⟨y1, y2, y3, y4, y5, 0, 20 + (k3 : Int)⟩ = hd := ⟨_, rfl⟩
        have hPH := refHeadBytes y1 y2 y3 y4 y5 0 (20 + (k3 : Int)) w12
        rw [hhd] at hPH
        have hd0 : hd.length = 20 := by rw [← hhd]; exact headL_len _
        have hraw : rawL ⟨y1, y2, y3, y4, y5, y6, y7⟩ b = hd ++ b := by rw [← hhd, ← Hl3.out]; rfl
        have hrl : (hd ++ b).length = N := by rw [List.length_append, hd0, Hl3.out, HN2.out]
        have hro : ∀ x ∈ hd ++ b, byteOk x := by rw [← hraw]; exact rawL_ok _ _ Hbo.out
        have HPH := Lib.hid hPH
        have Hraw := Lib.hid hraw
        have Hrl := Lib.hid hrl
        have Hro := Lib.hid hro
        have Hb12 := Lib.hid (below_trans Hb3.out Hb3.out.size hb12)
        have HR12 := Lib.hid (rows_keep HR.out hb12)
        clear hw12 hb12 hhd hd0 hPH hraw hrl hro z0 z1 z2 z3 z4 z5 z6 z7 z8 zf
        with_reducible refine Calls.mono HPH.out ?_
        rintro r w13 ⟨A2, c2, rfl, hown, hb13⟩
        have HR13 := Lib.hid (rows_keep HR12.out hb13)
        have Hown13 := Lib.hid hown
        have Hb13 := Lib.hid hb13
        clear hown hb13
        go_wp2_with (first
          | (at_builtin; (refine app_bytes (w0 := w14) (by rfl) _ _ (by rfl) _ [] (by rfl) HN14.out (Below.refl _ _) (some ⟨g, 0, none⟩) c5 2 ((hd ++ b).take 2) Ht2.out (by rfl) HT14.out 2 Ht3.out (by decide) ?_); intro A15 c15 w15 hown15 hb15 _; have Hown15 := Lib.hid hown15; have Hb15 := Lib.hid hb15; clear hown15 hb15)
          | (at_builtin; (refine app_bytes (w0 := w12) (by rfl) _ _ (by rfl) _ hd (by rfl) Hown13.out Hb13.out A3 c3 k3 b Hl3.out.symm (by rfl) HR13.out N Hrl.out (by omega) ?_); intro A5 c5 w14 hown14 hb14 _; obtain ⟨g, c6, hc6, hv6⟩ := own_some hown14 Hrl.out (by omega); injection hv6 with hA hn hc; subst hA hc; clear hn; have HO := Lib.hid hown14; have Hb14 := Lib.hid hb14; have HT14 := Lib.hid (rows_take (OwnR.rows (C := 1) (cells := bcell) (fun _ => rfl) (own_len hown14 Hrl.out)).2 2); have HN14 := Lib.hid (OwnR.nil (e := 5) (C := 1) (cells := bcell) w14 w14.heap.size); have Ht2 := Lib.hid (show 2 = ((hd ++ b).take 2).length by rw [List.length_take, Hrl.out]; omega); have Ht3 := Lib.hid (show ([] ++ (hd ++ b).take 2).length = 2 by rw [List.nil_append, ← Ht2.out]); clear hown14 hb14))
        have hF := refFill_any (some ⟨g, 2, none⟩) (c5 - 2) ((hd ++ b).drop 2) w15 w15.heap.size (by have := rows_drop (OwnR.rows (C := 1) (cells := bcell) (fun _ => rfl) (own_len (HO.out.below Hb15.out) Hrl.out)).2 2 (by rw [Hrl.out]; omega) (by rw [Hrl.out]; omega); exact this) (Nat.le_refl _) (fun x hx => Hro.out x (List.mem_of_mem_drop hx)) (by rw [List.length_drop, Hrl.out]; omega) (by rw [List.length_drop, Hrl.out]; omega) (N - 2) (by rw [List.length_drop, Hrl.out])
        with_reducible refine Calls.mono hF ?_
        rintro r w16 ⟨v16, rfl, hown16, hb16⟩
        have hfl : (fillL ((hd ++ b).drop 2)).length = N - 2 := by rw [fillL_len, List.length_drop, Hrl.out]
        obtain ⟨A16, c16, hv16⟩ := hown16.shape
        rw [hfl] at hv16
        subst hv16
        have HR16 := Lib.hid (OwnR.rows (C := 1) (cells := bcell) (fun _ => rfl) (own_len hown16 hfl)).2
        have Hfl := Lib.hid hfl
        have Hb16 := Lib.hid hb16
        clear hF hfl hown16 hb16
        go_wp2_with (at_builtin; (refine app_bytes (w0 := w14) (by rfl) _ _ (by rfl) _ ([] ++ (hd ++ b).take 2) (by rfl) (Hown15.out.below Hb16.out) (below_trans Hb15.out Hb15.out.size Hb16.out) A16 c16 (N - 2) (fillL ((hd ++ b).drop 2)) Hfl.out.symm (by rfl) HR16.out N (by rw [List.length_append, Ht3.out, Hfl.out]; omega) (by omega) ?_); intro A17 c17 w17 hown17 hb17 _; have Hown17 := Lib.hid hown17; have Hb17 := Lib.hid hb17; clear hown17 hb17)
        go_ret
        have hbz := below_trans Hb12.out Hb12.out.size (below_trans Hb14.out Hb14.out.size Hb17.out)
        refine ⟨A17, c17, rfl, ?_, below_trans Hb.out hsz hbz⟩
        have hfin : [] ++ (hd ++ b).take 2 ++ fillL ((hd ++ b).drop 2) = bytesL ⟨y1, y2, y3, y4, y5, y6, y7⟩ ls ms := by
          rw [Hgoal.out, Hraw.out]
          rfl
        rw [← hfin]
        exact OwnR.lower Hown17.out (Nat.le_trans hsz (below_trans Hb12.out Hb12.out.size Hb14.out).size)


end Go.Proofs.Ytmjjmkdjjfmhhaa
