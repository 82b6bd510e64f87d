/-
  The document's bytes of a head: its way.
-/
import Derived.Test.YtmjjmkdjjfmhhaaRsQuad
import Derived.Test.YtmjjmkdjjfmhhaaLsHead
import Derived.Test.YtmjjmkdjjfmhhaaLsRight
namespace Go.Proofs.Ytmjjmkdjjfmhhaa
open Go.RowKit

/-- append of bytes behind bytes that the call made itself, with all that is kept -/
theorem app_bytes {w0 W : World} {ops : Array Oper} {rest : List Oper} {o : Oper} {a : Act} {Q : Exit → Act → World → Prop} (hgd : o.guard = none) (s x : Operand)
    (ho : o.op = .call { callee := .builtin .append, args := #[s, x], argTypes := #[116, 116] })
    (v : Value) (L : List Int) (hs : a.eval s = v) (hown : OwnB W w0.heap.size v L) (hb : Below w0.heap.size w0 W) (A : Option Addr) (c m : Nat) (M : List Int) (hm : m = M.length) (hx : a.eval x = .slice A m c) (hM : RowsAt 1 bcell W W.heap.size A M) (k : Nat) (hk : (L ++ M).length = k) (hk2 : k ≤ 2 ^ 30)
    (h : ∀ A' c' W', OwnB W' w0.heap.size (.slice A' k c') (L ++ M) → Below w0.heap.size w0 W' → (∀ g, g < W.heap.size → v.ownBlock ≠ some g → W'.heap[g]? = W.heap[g]? ∧ (Value.slice A' k c').ownBlock ≠ some g) → wpList Try.prog ops Q rest (a.put o.dst (.slice A' k c')) W') : wpList Try.prog ops Q (o :: rest) a W := by
  refine app_rows (e := 5) bcell (fun _ => rfl) (by decide) (bytes := 1) (by decide) infoB rfl Try.underlying116 onesB hgd s x ho w0.heap.size v L hs hown A c m M hm hx hM (by rw [List.length_append] at hk; omega) hb.size ?_
  intro v' W' h1 h2 h3
  obtain ⟨A', c', rfl⟩ := h1.shape
  rw [hk] at h1 h3 ⊢
  refine h A' c' W' h1 (hb.grown h2 hb.size (fun j hj => (hown.block j hj).1)) (fun g hg hne => ⟨h2.block g hg (fun e => hne e.symm), fun e => ?_⟩)
  rcases h3 with h3 | h3
  · rw [h3] at e; exact hne e
  · rw [h3] at e; injection e with e; omega
theorem kind_byte (n : Int) : IntKind.u64.wrap n % 256 = byteI n 0 ∧ 0 ≤ IntKind.u64.wrap n ∧ byteI n 0 % 256 = byteI n 0 := by
  have h : IntKind.u64.wrap n % 256 = byteI n 0 := by
    rw [wrap_u64]
    exact (sh8_byte n).1
  exact ⟨h, by rw [wrap_u64]; omega, by rw [← h]; omega⟩
theorem one_byte (n : Int) : beL 1 n = [byteI n 0] := rfl
theorem headL_is (y1 y2 y3 y4 y5 y6 y7 : Int) : (((((([] ++ beL 2 y1) ++ [0, byteI y2 0]) ++ beL 4 y3) ++ beL 4 y4) ++ beL 4 y5) ++ beL 2 y6) ++ beL 2 y7 = headL ⟨y1, y2, y3, y4, y5, y6, y7⟩ := by
  unfold headL head1
  simp only [List.flatMap_cons, List.flatMap_nil, List.append_nil, List.nil_append, List.append_assoc, one_byte, List.cons_append]
  rfl

set_option maxHeartbeats 8000000 in
set_option maxRecDepth 100000 in
theorem refHeadBytes (y1 y2 y3 y4 y5 y6 y7 : Int) (w : World) :
    Calls Try.prog 105 #[.agg #[.int .i64 y1, .int .i64 y2, .int .i64 y3, .int .i64 y4, .int .i64 y5, .int .i64 y6, .int .i64 y7]] w fun r w' => ∃ A c, r = .returned (.slice A 20 c) ∧ OwnB w' w.heap.size (.slice A 20 c) (headL ⟨y1, y2, y3, y4, y5, y6, y7⟩) ∧ Below w.heap.size w w' := by
  obtain ⟨w1, hW1⟩ : ∃ w1, w.alloc (.cells #[.int .i64 y1, .int .i64 y2, .int .i64 y3, .int .i64 y4, .int .i64 y5, .int .i64 y6, .int .i64 y7] 23) = w1 := ⟨_, rfl⟩
  have hk := Blk.new w 23 #[.int .i64 y1, .int .i64 y2, .int .i64 y3, .int .i64 y4, .int .i64 y5, .int .i64 y6, .int .i64 y7]
  have hb := below_new w (.cells #[.int .i64 y1, .int .i64 y2, .int .i64 y3, .int .i64 y4, .int .i64 y5, .int .i64 y6, .int .i64 y7] 23)
  rw [hW1] at hk hb
  have FW := Lib.hid (fun W (hW : Below w1.heap.size w1 W) => (hk.below hW hk.lt).both7)
  have Hb := Lib.hid hb
  have hsz := hb.size
  have Hb1 := Lib.hid (Below.refl w1.heap.size w1)
  have Hown1 := Lib.hid (OwnR.nil (e := 5) (C := 1) (cells := bcell) w1 w1.heap.size)
  have Hkb := Lib.hid (kind_byte y2)
  obtain ⟨x0, x1, x2, x3, x4, x5, x6, -⟩ := FW.out w1 (Below.refl _ _)
  clear hk hb
  go_enter Try.func105, Try.ntmps105
  go_wp2_with fail
  with_reducible refine Calls.mono (refBytes2 y1 _) ?_
  rintro r v2 ⟨g2, rfl, -, hr2, hb2⟩
  have Hr2 := Lib.hid hr2
  have Ha2 := Lib.hid hb2
  clear hr2 hb2
  go_wp2_with (first
    | (at_builtin; (refine app_bytes (w0 := w1) (by rfl) _ _ (by rfl) _ L2 (by rfl) (Hown2.out.below Ha3.out) (below_trans Hb2.out Hb2.out.size Ha3.out) (some ⟨w2.heap.size, 0, none⟩) 2 2 [0, byteI y2 0] (by rfl) (by rfl) Hk3.out 4 (by rw [List.length_append, Hl2.out]; rfl) (by decide) ?_); intro A3 c3 w3 hown3 hb3 _; have Hown3' := Lib.hid hown3; have Hb3 := Lib.hid hb3; clear hown3 hb3 x0 x1 x2 x3 x4 x5 x6; obtain ⟨x0, x1, x2, x3, x4, x5, x6, -⟩ := FW.out w3 Hb3.out; obtain ⟨L3, hL3⟩ : ∃ L3, L2 ++ [0, byteI y2 0] = L3 := ⟨_, rfl⟩; have Hown3 := Lib.hid (show OwnB w3 w1.heap.size (.slice A3 4 c3) L3 by rw [← hL3]; exact Hown3'.out); have Hl3 := Lib.hid (show L3.length = 4 by rw [← hL3, List.length_append, Hl2.out]; rfl); have HL3 := Lib.hid hL3; clear hL3 Hown3'; clear kb kb0 kb2)
    | (at_builtin; (refine app_bytes (w0 := w1) (by rfl) _ _ (by rfl) _ ([] : List Int) (by rfl) (Hown1.out.below Ha2.out) (below_trans Hb1.out Hb1.out.size Ha2.out) (some ⟨g2, 0, none⟩) 2 2 (beL 2 y1) (by rw [beL_len]) (by rfl) Hr2.out 2 (by rw [List.length_append, List.length_nil, beL_len]) (by decide) ?_); intro A2 c2 w2 hown2 hb2 _; have Hown2' := Lib.hid hown2; have Hb2 := Lib.hid hb2; clear hown2 hb2 x0 x1 x2 x3 x4 x5 x6; obtain ⟨x0, x1, x2, x3, x4, x5, x6, -⟩ := FW.out w2 Hb2.out; obtain ⟨L2, hL2⟩ : ∃ L2, ([] : List Int) ++ beL 2 y1 = L2 := ⟨_, rfl⟩; have Hown2 := Lib.hid (show OwnB w2 w1.heap.size (.slice A2 2 c2) L2 by rw [← hL2]; exact Hown2'.out); have Hl2 := Lib.hid (show L2.length = 2 by rw [← hL2, List.length_append, List.length_nil]; rw [beL_len]); have HL2 := Lib.hid hL2; clear hL2 Hown2'; have Hk3 := Lib.hid (rows_blk (t := 5) (l := [0, byteI y2 0]) (Blk.new w2 5 #[.int .u8 0, .int .u8 (byteI y2 0)])); have Ha3 := Lib.hid (below_new w2 (.cells #[.int .u8 0, .int .u8 (byteI y2 0)] 5)); obtain ⟨kb, kb0, kb2⟩ := Hkb.out))
  go_wp2_with fail
  with_reducible refine Calls.mono (refBytes4 y3 _) ?_
  rintro r v4 ⟨g4, rfl, -, hr4, hb4⟩
  have Hr4 := Lib.hid hr4
  have Ha4 := Lib.hid hb4
  clear hr4 hb4
  go_wp2_with (at_builtin; (refine app_bytes (w0 := w1) (by rfl) _ _ (by rfl) _ L3 (by rfl) (Hown3.out.below Ha4.out) (below_trans Hb3.out Hb3.out.size Ha4.out) (some ⟨g4, 0, none⟩) 4 4 (beL 4 y3) (by rw [beL_len]) (by rfl) Hr4.out 8 (by rw [List.length_append, Hl3.out, beL_len]) (by decide) ?_); intro A4 c4 w4 hown4 hb4 _; have Hown4' := Lib.hid hown4; have Hb4 := Lib.hid hb4; clear hown4 hb4 x0 x1 x2 x3 x4 x5 x6; obtain ⟨x0, x1, x2, x3, x4, x5, x6, -⟩ := FW.out w4 Hb4.out; obtain ⟨L4, hL4⟩ : ∃ L4, L3 ++ beL 4 y3 = L4 := ⟨_, rfl⟩; have Hown4 := Lib.hid (show OwnB w4 w1.heap.size (.slice A4 8 c4) L4 by rw [← hL4]; exact Hown4'.out); have Hl4 := Lib.hid (show L4.length = 8 by rw [← hL4, List.length_append, Hl3.out]; rw [beL_len]); have HL4 := Lib.hid hL4; clear hL4 Hown4')
  go_wp2_with fail
  with_reducible refine Calls.mono (refBytes4 y4 _) ?_
  rintro r v5 ⟨g5, rfl, -, hr5, hb5⟩
  have Hr5 := Lib.hid hr5
  have Ha5 := Lib.hid hb5
  clear hr5 hb5
  go_wp2_with (at_builtin; (refine app_bytes (w0 := w1) (by rfl) _ _ (by rfl) _ L4 (by rfl) (Hown4.out.below Ha5.out) (below_trans Hb4.out Hb4.out.size Ha5.out) (some ⟨g5, 0, none⟩) 4 4 (beL 4 y4) (by rw [beL_len]) (by rfl) Hr5.out 12 (by rw [List.length_append, Hl4.out, beL_len]) (by decide) ?_); intro A5 c5 w5 hown5 hb5 _; have Hown5' := Lib.hid hown5; have Hb5 := Lib.hid hb5; clear hown5 hb5 x0 x1 x2 x3 x4 x5 x6; obtain ⟨x0, x1, x2, x3, x4, x5, x6, -⟩ := FW.out w5 Hb5.out; obtain ⟨L5, hL5⟩ : ∃ L5, L4 ++ beL 4 y4 = L5 := ⟨_, rfl⟩; have Hown5 := Lib.hid (show OwnB w5 w1.heap.size (.slice A5 12 c5) L5 by rw [← hL5]; exact Hown5'.out); have Hl5 := Lib.hid (show L5.length = 12 by rw [← hL5, List.length_append, Hl4.out]; rw [beL_len]); have HL5 := Lib.hid hL5; clear hL5 Hown5')
  go_wp2_with fail
  with_reducible refine Calls.mono (refBytes4 y5 _) ?_
  rintro r v6 ⟨g6, rfl, -, hr6, hb6⟩
  have Hr6 := Lib.hid hr6
  have Ha6 := Lib.hid hb6
  clear hr6 hb6
  go_wp2_with (at_builtin; (refine app_bytes (w0 := w1) (by rfl) _ _ (by rfl) _ L5 (by rfl) (Hown5.out.below Ha6.out) (below_trans Hb5.out Hb5.out.size Ha6.out) (some ⟨g6, 0, none⟩) 4 4 (beL 4 y5) (by rw [beL_len]) (by rfl) Hr6.out 16 (by rw [List.length_append, Hl5.out, beL_len]) (by decide) ?_); intro A6 c6 w6 hown6 hb6 _; have Hown6' := Lib.hid hown6; have Hb6 := Lib.hid hb6; clear hown6 hb6 x0 x1 x2 x3 x4 x5 x6; obtain ⟨x0, x1, x2, x3, x4, x5, x6, -⟩ := FW.out w6 Hb6.out; obtain ⟨L6, hL6⟩ : ∃ L6, L5 ++ beL 4 y5 = L6 := ⟨_, rfl⟩; have Hown6 := Lib.hid (show OwnB w6 w1.heap.size (.slice A6 16 c6) L6 by rw [← hL6]; exact Hown6'.out); have Hl6 := Lib.hid (show L6.length = 16 by rw [← hL6, List.length_append, Hl5.out]; rw [beL_len]); have HL6 := Lib.hid hL6; clear hL6 Hown6')
  go_wp2_with fail
  with_reducible refine Calls.mono (refBytes2 y6 _) ?_
  rintro r v7 ⟨g7, rfl, -, hr7, hb7⟩
  have Hr7 := Lib.hid hr7
  have Ha7 := Lib.hid hb7
  clear hr7 hb7
  go_wp2_with (at_builtin; (refine app_bytes (w0 := w1) (by rfl) _ _ (by rfl) _ L6 (by rfl) (Hown6.out.below Ha7.out) (below_trans Hb6.out Hb6.out.size Ha7.out) (some ⟨g7, 0, none⟩) 2 2 (beL 2 y6) (by rw [beL_len]) (by rfl) Hr7.out 18 (by rw [List.length_append, Hl6.out, beL_len]) (by decide) ?_); intro A7 c7 w7 hown7 hb7 _; have Hown7' := Lib.hid hown7; have Hb7 := Lib.hid hb7; clear hown7 hb7 x0 x1 x2 x3 x4 x5 x6; obtain ⟨x0, x1, x2, x3, x4, x5, x6, -⟩ := FW.out w7 Hb7.out; obtain ⟨L7, hL7⟩ : ∃ L7, L6 ++ beL 2 y6 = L7 := ⟨_, rfl⟩; have Hown7 := Lib.hid (show OwnB w7 w1.heap.size (.slice A7 18 c7) L7 by rw [← hL7]; exact Hown7'.out); have Hl7 := Lib.hid (show L7.length = 18 by rw [← hL7, List.length_append, Hl6.out]; rw [beL_len]); have HL7 := Lib.hid hL7; clear hL7 Hown7')
  go_wp2_with fail
  with_reducible refine Calls.mono (refBytes2 y7 _) ?_
  rintro r v8 ⟨g8, rfl, -, hr8, hb8⟩
  have Hr8 := Lib.hid hr8
  have Ha8 := Lib.hid hb8
  clear hr8 hb8
  go_wp2_with (at_builtin; (refine app_bytes (w0 := w1) (by rfl) _ _ (by rfl) _ L7 (by rfl) (Hown7.out.below Ha8.out) (below_trans Hb7.out Hb7.out.size Ha8.out) (some ⟨g8, 0, none⟩) 2 2 (beL 2 y7) (by rw [beL_len]) (by rfl) Hr8.out 20 (by rw [List.length_append, Hl7.out, beL_len]) (by decide) ?_); intro A8 c8 w8 hown8 hb8 _; have Hown8' := Lib.hid hown8; have Hb8 := Lib.hid hb8; clear hown8 hb8 x0 x1 x2 x3 x4 x5 x6; obtain ⟨x0, x1, x2, x3, x4, x5, x6, -⟩ := FW.out w8 Hb8.out; obtain ⟨L8, hL8⟩ : ∃ L8, L7 ++ beL 2 y7 = L8 := ⟨_, rfl⟩; have Hown8 := Lib.hid (show OwnB w8 w1.heap.size (.slice A8 20 c8) L8 by rw [← hL8]; exact Hown8'.out); have Hl8 := Lib.hid (show L8.length = 20 by rw [← hL8, List.length_append, Hl7.out]; rw [beL_len]); have HL8 := Lib.hid hL8; clear hL8 Hown8')
  go_ret
  refine ⟨_, _, rfl, ?_, Hb.out.trans (Hb8.out.mono hsz)⟩
  rw [← headL_is, HL2.out, HL3.out, HL4.out, HL5.out, HL6.out, HL7.out, HL8.out]
  exact OwnR.lower Hown8.out hsz

end Go.Proofs.Ytmjjmkdjjfmhhaa
