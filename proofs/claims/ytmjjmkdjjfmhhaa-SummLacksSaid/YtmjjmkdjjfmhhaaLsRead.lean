/-
  Numbers of two bytes, read: the program's way.
-/
import Derived.StillTailTactics
import Derived.WalkMore
import Derived.Laws.CopyOwn
import Derived.ArgAppend
import Derived.Test.YtmjjmkdjjfmhhaaLsFlet
namespace Go.Proofs.Ytmjjmkdjjfmhhaa
open Go.RowKit

theorem or_two (x y : Int) (hx : byteOk x) (hy : byteOk y) : ((BitVec.ofInt 64 (x * 256) ||| BitVec.ofInt 64 y).toNat : Int) = x * 256 + y := by
  obtain ⟨a, rfl⟩ := Int.eq_ofNat_of_zero_le hx.1
  obtain ⟨b, rfl⟩ := Int.eq_ofNat_of_zero_le hy.1
  have ha : a < 256 := by have := hx.2; omega
  have hb : b < 256 := by have := hy.2; omega
  have e1 : (BitVec.ofInt 64 ((a : Int) * 256)).toNat = a * 256 := by
    rw [show ((a : Int) * 256) = ((a * 256 : Nat) : Int) by simp, BitVec.ofInt_natCast, BitVec.toNat_ofNat]
    exact Nat.mod_eq_of_lt (by omega)
  have e2 : (BitVec.ofInt 64 (b : Int)).toNat = b := by
    rw [BitVec.ofInt_natCast, BitVec.toNat_ofNat]
    exact Nat.mod_eq_of_lt (by omega)
  rw [BitVec.toNat_or, e1, e2]
  have := Nat.shiftLeft_add_eq_or_of_lt (b := b) (i := 8) (by omega) a
  rw [Nat.shiftLeft_eq] at this
  rw [← this]
  simp

theorem own_some0 {w : World} {B n : Nat} {v : Value} {L : List Int} (h : OwnB w B v L) (hn : L.length = n) (h0 : 0 < n) : ∃ g c, n ≤ c ∧ v = .slice (some ⟨g, 0, none⟩) n c := by
  subst hn
  rcases h.shape2 with ⟨-, hl⟩ | ⟨g, c5, rfl, hc5⟩
  · rw [hl] at h0; simp at h0
  · exact ⟨g, c5, hc5, rfl⟩
theorem bits_or (x y : Int) (hx : byteOk x) (hy : byteOk y) : bits BinOp.or IntKind.i64 (x * 256) y = x * 256 + y := by
  have h := or_two x y hx hy
  have h1 := hx.1; have h2 := hx.2; have h3 := hy.1; have h4 := hy.2
  have e : bits BinOp.or IntKind.i64 (x * 256) y = IntKind.i64.wrap ((BitVec.ofInt 64 (x * 256) ||| BitVec.ofInt 64 y).toNat : Int) := rfl
  rw [e, h]
  simp only [IntKind.wrap, IntKind.bits, IntKind.signed]
  simp
  omega
theorem wrap_byte {y : Int} (hy : byteOk y) : wrap64 y = y := by
  have h3 := hy.1; have h4 := hy.2
  unfold wrap64
  omega
theorem copy_two {w : World} {ops : Array Oper} {rest : List Oper} {o : Oper} {a : Act} {Q : Exit → Act → World → Prop} (hgd : o.guard = none) (d s : Operand)
    (ho : o.op = .call { callee := .builtin .copy, args := #[d, s], argTypes := #[116, 116] }) (k g f c : Nat) (hd : a.eval d = .slice (some ⟨k, 0, none⟩) 2 2) (hs : a.eval s = .slice (some ⟨g, f, none⟩) 2 c)
    (hk : w.heap[k]? = some (.cells #[.int .u8 0, .int .u8 0] 5 (0, 0))) (x y : Int) (h0 : w.cell? ⟨g, f, none⟩ = some (.int .u8 x)) (h1 : w.cell? ⟨g, f + 1, none⟩ = some (.int .u8 y)) (B : Nat) (w0 : World) (hb : Below B w0 w) (hBk : B ≤ k)
    (h : ∀ w', Hid (w'.heap[k]? = some (.cells #[.int .u8 x, .int .u8 y] 5 (0, 0))) → Below B w0 w' → wpList Try.prog ops Q rest (a.put o.dst (goInt 2)) w') : wpList Try.prog ops Q (o :: rest) a w := by
  refine wpList_copy_splice hgd d s 116 116 ho 5 Try.underlying116 (by kernel_rfl) (some ⟨k, 0, none⟩) (some ⟨g, f, none⟩) 2 2 2 c hd hs k 0 [Value.int .u8 0, Value.int .u8 0] 5 hk [.int .u8 x, .int .u8 y] rfl (fun _ => ⟨rfl, _, rfl, fun j v hj => ?_⟩) (by simp) (fun v hv => ?_) B w0 hb hBk ?_
  · rw [Addr.add_lit]
    match j, hj with
    | 0, hj => injection hj with hj; subst hj; exact h0
    | 1, hj => injection hj with hj; subst hj; exact h1
    | (j + 2), hj => simp at hj
  · simp at hv
    rcases hv with rfl | rfl <;> rfl
  · intro w' hw' hbw
    exact h w' hw' hbw
theorem below_new0 (W : World) (o : Obj) : Below W.heap.size W (W.alloc o) := (Below.refl _ _).alloc (Nat.le_refl _) o
set_option maxHeartbeats 4000000 in
set_option maxRecDepth 100000 in
theorem copied_two (g o c : Nat) (a b : Int) (w : World) (hg : g < w.heap.size) (h0 : w.cell? ⟨g, o, none⟩ = some (.int .u8 a)) (h1 : w.cell? ⟨g, o + 1, none⟩ = some (.int .u8 b)) :
    Calls Try.prog 165 #[.slice (some ⟨g, o, none⟩) 2 c] w fun r w' => ∃ k, r = .returned (.slice (some ⟨k, 0, none⟩) 2 2) ∧ w'.cell? ⟨k, 0, none⟩ = some (.int .u8 a) ∧ w'.cell? ⟨k, 1, none⟩ = some (.int .u8 b) ∧ w.heap.size ≤ k ∧ Below w.heap.size w w' := by
  have hmk : ∀ w : World, (Instr.makeSlice 116 (.int .i64 2) (.int .i64 2)).run Try.prog w = .ok (.slice (some ⟨w.heap.size, 0, none⟩) 2 2) (w.alloc (.cells #[.int .u8 0, .int .u8 0] 5)) := fun _ => by kernel_rfl
  have hb1 := below_new0 w (.cells #[.int .u8 0, .int .u8 0] 5)
  have hk1 : (w.alloc (.cells #[.int .u8 0, .int .u8 0] 5)).heap[w.heap.size]? = some (.cells [Value.int .u8 0, Value.int .u8 0].toArray 5 (0, 0)) := heap_alloc_new w _
  have Hb1 := Lib.hid hb1
  have Hk1 := Lib.hid hk1
  have g0 : (w.alloc (.cells #[.int .u8 0, .int .u8 0] 5)).cell? ⟨g, o, none⟩ = some (.int .u8 a) := by rw [← h0]; exact hb1.cell (p := ⟨g, o, none⟩) hg
  have g1 : (w.alloc (.cells #[.int .u8 0, .int .u8 0] 5)).cell? ⟨g, o + 1, none⟩ = some (.int .u8 b) := by rw [← h1]; exact hb1.cell (p := ⟨g, o + 1, none⟩) hg
  have G0 := Lib.hid g0
  have G1 := Lib.hid g1
  clear hb1 hk1 g0 g1
  go_enter Try.func165, Try.ntmps165
  go_wp2_with (refine copy_two (o := ⟨some 9, _, _, _, _, _⟩) (by rfl) (.tmp 7) (.tmp 8) (by rfl) w.heap.size g o c (by rfl) (by rfl) Hk1.out a b G0.out G1.out w.heap.size w Hb1.out (Nat.le_refl _) ?_; intro w3 hg3 hb3)
  go_ret
  have hk : w3.heap[w.heap.size]? = some (.cells #[.int .u8 a, .int .u8 b] 5 (0, 0)) := hg3.out
  refine ⟨_, rfl, ?_, ?_, Nat.le_refl _, hb3⟩
  · simp [World.cell?, hk]
  · simp [World.cell?, hk]

set_option maxHeartbeats 4000000 in
set_option maxRecDepth 100000 in
theorem bytes_two (k g f N c at_ : Nat) (a b : Int) (w : World) (hk : Blk w k 182 #[.slice (some ⟨g, f, none⟩) N c, .int .i64 (at_ : Int), .int .i64 0]) (hg : g < w.heap.size) (hgk : g ≠ k) (h0 : w.cell? ⟨g, f + at_, none⟩ = some (.int .u8 a)) (h1 : w.cell? ⟨g, f + at_ + 1, none⟩ = some (.int .u8 b)) (hN : at_ + 2 ≤ N) (hc : N ≤ c) (hm : N ≤ 2 ^ 20) :
    Calls Try.prog 128 #[.pointer (some ⟨k, 0, none⟩), .int .i64 2] w fun r w' => ∃ m, r = .returned (.slice (some ⟨m, 0, none⟩) 2 2) ∧ w'.cell? ⟨m, 0, none⟩ = some (.int .u8 a) ∧ w'.cell? ⟨m, 1, none⟩ = some (.int .u8 b) ∧ Blk w' k 182 #[.slice (some ⟨g, f, none⟩) N c, .int .i64 ((at_ : Int) + 2), .int .i64 0] ∧ w.grownBy w' (some k) := by
  have z0 := hk.cell 0
  have z1 := hk.cell 1
  have z2 := hk.cell 2
  have q0 := hk.frozen 0
  have q1 := hk.frozen 1
  have q2 := hk.frozen 2
  simp at z0 z1 z2
  have hmx : max (2 : Int) 0 = 2 := rfl
  have hn1 : ¬ ((N : Int) - (at_ : Int) < 2) := by omega
  go_enter Try.func128, Try.ntmps128
  go_wp2
  go_step3
  go_upto_region 3 with fail
  go_region
  go_upto_region 6 with fail
  have hk5 : Blk (w.setCell ⟨k, 1, none⟩ (.int .i64 ((at_ : Int) + 2))).drew k 182 #[.slice (some ⟨g, f, none⟩) N c, .int .i64 ((at_ : Int) + 2), .int .i64 0] := by
    have := hk.set_ 1 (.int .i64 ((at_ : Int) + 2))
    simpa [Blk, World.drew] using this
  have hgr : w.grownBy (w.setCell ⟨k, 1, none⟩ (.int .i64 ((at_ : Int) + 2))).drew (some k) := ⟨rfl, rfl, rfl, by simp [World.setCell, World.drew], fun j hj hjk => Below.heap_setCell _ _ _ _ (fun e => hjk (by rw [e]))⟩
  have c0 : (w.setCell ⟨k, 1, none⟩ (.int .i64 ((at_ : Int) + 2))).drew.cell? ⟨g, f + at_, none⟩ = some (.int .u8 a) := by rw [← h0]; exact World.cell?_of_block (w := w) (hgr.block g hg (fun e => hgk (Option.some.inj e)))
  have c1 : (w.setCell ⟨k, 1, none⟩ (.int .i64 ((at_ : Int) + 2))).drew.cell? ⟨g, f + at_ + 1, none⟩ = some (.int .u8 b) := by rw [← h1]; exact World.cell?_of_block (w := w) (hgr.block g hg (fun e => hgk (Option.some.inj e)))
  have hkl : k < w.heap.size := hk.lt
  have hsz5 : (w.setCell ⟨k, 1, none⟩ (.int .i64 ((at_ : Int) + 2))).drew.heap.size = w.heap.size := by simp [World.setCell, World.drew]
  obtain ⟨w5, hw5⟩ : ∃ w5, (w.setCell ⟨k, 1, none⟩ (.int .i64 ((at_ : Int) + 2))).drew = w5 := ⟨_, rfl⟩
  rw [hw5] at hk5 hgr c0 c1 hsz5 ⊢
  have hs1 : (at_ : Int) + 2 - 2 = at_ := by omega
  have hs2 : at_ + 2 - at_ = 2 := by omega
  have hs3 : ((at_ : Int) + 2).toNat = at_ + 2 := by omega
  have HC := Lib.hid (copied_two g (f + at_) (c - at_) a b w5.drew (by show g < w5.heap.size; omega) c0 c1)
  have Hk5 := Lib.hid hk5
  have Hgr := Lib.hid hgr
  have Hsz := Lib.hid hsz5
  clear hw5 hk hgr h0 h1 z0 z1 z2 q0 q1 q2 hn1 c0 c1 hsz5
  have z0 := hk5.cell 0
  have z1 := hk5.cell 1
  have z2 := hk5.cell 2
  simp at z0 z1 z2
  clear hk5
  have hc2 : (at_ : Int) + 2 ≤ (c : Int) := by omega
  have hc3 : ¬ c = at_ := by omega
  have hc4 : (at_ : Int) ≤ (at_ : Int) + 2 := by omega
  have hc5 : 0 ≤ (at_ : Int) + 2 := by omega
  refine wp_draw_tail 14 (by kernel_rfl) (by kernel_rfl) ?_
  intro w6 hw6 hcell hfroz hs6 hs7
  have HC6 := Lib.hid (show Calls Try.prog 165 #[.slice (some ⟨g, f + at_, none⟩) 2 (c - at_)] w6 _ from by rw [hw6.out]; exact HC.out)
  have x0 : w6.cell? ⟨k, 0, none⟩ = some (.slice (some ⟨g, f, none⟩) N c) := (hcell _).trans z0
  have x1 : w6.cell? ⟨k, 1, none⟩ = some (.int .i64 ((at_ : Int) + 2)) := (hcell _).trans z1
  clear hcell hfroz hs6 hs7
  simp only [List.take_succ_cons, List.take_zero, List.drop_succ_cons, List.drop_zero]
  repeat still_step
  refine wpStill_nil ?_
  go_wp2_with (go_at_call 165; (with_reducible refine Calls.mono HC6.out ?_); rintro r w7 ⟨m, rfl, m0, m1, -, hb7⟩; have Hb7 := Lib.hid hb7; have HM0 := Lib.hid m0; have HM1 := Lib.hid m1; clear hb7 m0 m1)
  rw [Exit.noGoto_ret]
  go_ret
  refine ⟨m, rfl, HM0.out, HM1.out, ?_, ?_⟩
  · refine Blk.below ?_ Hb7.out ?_
    · exact Hk5.out
    · exact Hk5.out.lt
  · have h6 : w.grownBy w5.drew (some k) := ⟨Hgr.out.os, Hgr.out.tape, Hgr.out.output, Hgr.out.size, Hgr.out.block⟩
    exact ⟨Hb7.out.os.trans h6.os, Hb7.out.tape.trans h6.tape, Hb7.out.output.trans h6.output, Nat.le_trans h6.size Hb7.out.size, fun j hj hjk => (Hb7.out.block j (Nat.lt_of_lt_of_le hj h6.size)).trans (h6.block j hj hjk)⟩

set_option maxHeartbeats 4000000 in
set_option maxRecDepth 100000 in
theorem num_two (k g f N c at_ : Nat) (a b : Int) (w : World) (hk : Blk w k 182 #[.slice (some ⟨g, f, none⟩) N c, .int .i64 (at_ : Int), .int .i64 0]) (hg : g < w.heap.size) (hgk : g ≠ k) (h0 : w.cell? ⟨g, f + at_, none⟩ = some (.int .u8 a)) (h1 : w.cell? ⟨g, f + at_ + 1, none⟩ = some (.int .u8 b)) (ha : byteOk a) (hbk : byteOk b) (hN : at_ + 2 ≤ N) (hc : N ≤ c) (hm : N ≤ 2 ^ 20) :
    Calls Try.prog 102 #[.pointer (some ⟨k, 0, none⟩), .int .i64 2] w fun r w' => r = .returned (.int .i64 (a * 256 + b)) ∧ Blk w' k 182 #[.slice (some ⟨g, f, none⟩) N c, .int .i64 ((at_ : Int) + 2), .int .i64 0] ∧ w.grownBy w' (some k) := by
  have HB := Lib.hid (bytes_two k g f N c at_ a b w hk hg hgk h0 h1 hN hc hm)
  have Ha := Lib.hid ha
  have Hbk := Lib.hid hbk
  have HW := Lib.hid (wide_v 2 (by decide) (by decide))
  clear hk h0 h1 ha hbk hN hc hm
  go_enter Try.func102, Try.ntmps102
  go_wp2_with (first
    | (go_at_call 129; (with_reducible refine Calls.mono (HW.out _) ?_); rintro r w2 ⟨rfl, rfl⟩)
    | (go_at_call 128; (with_reducible refine Calls.mono HB.out ?_); rintro r w2 ⟨m, rfl, m0, m1, hk2, hg2⟩; have Hk2 := Lib.hid hk2; have Hg2 := Lib.hid hg2; clear hk2 hg2))
  go_loopw [5, 13] (fun o i wr => wr = w2 ∧ ((o = .int .i64 0 ∧ i = .int .i64 0) ∨ (o = .int .i64 a ∧ i = .int .i64 1) ∨ (o = .int .i64 (a * 256 + b) ∧ i = .int .i64 2))) (fun _ i _ => (2 - (intOf i)).toNat)
  case atStart => exact ⟨rfl, .inl ⟨rfl, rfl⟩⟩
  case round =>
    obtain ⟨rfl, ⟨rfl, rfl⟩ | ⟨rfl, rfl⟩ | ⟨rfl, rfl⟩⟩ := hrel
    · go_wp2
      go_roundw
      case measure => simp [intOf]
      case rel =>
        refine ⟨trivial, .inr (.inl ⟨?_, rfl⟩)⟩
        have := bits_or 0 a ⟨by decide, by decide⟩ Ha.out
        rw [wrap_byte Ha.out]
        simpa using this
    · go_wp2
      go_roundw
      case measure => simp [intOf]
      case rel =>
        refine ⟨trivial, .inr (.inr ⟨?_, rfl⟩)⟩
        have h1 := Ha.out.1; have h2 := Ha.out.2
        rw [wrap_byte Hbk.out, show wrap64 (a * 256) = a * 256 by unfold wrap64; omega, bits_or a b Ha.out Hbk.out]
    · go_wp2
      go_ret
      exact ⟨rfl, Hk2.out, Hg2.out⟩

set_option maxHeartbeats 4000000 in
set_option maxRecDepth 100000 in
theorem read_any (A : Option Addr) (c : Nat) (L : List Int) (w : World) (B : Nat) (hL : RowsAt 1 bcell w B A L) (hB : B ≤ w.heap.size) (hm : L.length ≤ 2 ^ 20) (hpos : 0 < L.length) (n : Nat) (hn : n = L.length) :
    Calls Try.prog 100 #[.slice A n c] w fun r w' => ∃ k : Nat, r = .returned (.pointer (some ⟨k, 0, none⟩)) ∧ ∃ g c' : Nat, Blk w' k 182 #[.slice (some ⟨g, 0, none⟩) n c', .int .i64 0, .int .i64 0] ∧ n ≤ c' ∧ OwnB w' w.heap.size (.slice (some ⟨g, 0, none⟩) n c') L ∧ g ≠ k ∧ w.heap.size ≤ k ∧ Below w.heap.size w w' := by
  have HL := Lib.hid (hL.more hB)
  have HE := Lib.hid (OwnR.nil (e := 5) (C := 1) (cells := bcell) w w.heap.size)
  have Hn := Lib.hid hn
  have hn2 : 0 < n := by omega
  have hm2 : n ≤ 2 ^ 20 := by omega
  clear hL hB hn hm hpos
  go_enter Try.func100, Try.ntmps100
  go_wp2_with (at_builtin; (refine app_rows (e := 5) bcell (fun _ => rfl) (by decide) (bytes := 1) (by decide) infoB rfl Try.underlying116 onesB (by rfl) _ _ (by rfl) w.heap.size _ [] (by rfl) HE.out A c n L Hn.out (by rfl) HL.out (by have := Hn.out; simp; omega) (Nat.le_refl _) ?_); intro v5 w5 hown5 hg5 hor5; have Hb5 := Lib.hid ((Below.refl w.heap.size w).grown hg5 (Nat.le_refl _) (fun j hj => (HE.out.block j hj).1)); obtain ⟨g, c5, hc5, hv5⟩ := own_some0 hown5 (by rw [List.nil_append]; exact Hn.out.symm) hn2; subst hv5; have Hown5 := Lib.hid hown5; clear hown5 hg5 hor5)
  go_ret
  have hO : OwnB w5 w.heap.size (.slice (some ⟨g, 0, none⟩) n c5) L := by have := Hown5.out; rwa [List.nil_append] at this
  have hlt := OwnB.lt hO
  exact ⟨w5.heap.size, rfl, g, c5, Blk.new w5 _ _, hc5, OwnR.alloc hO _, Nat.ne_of_lt hlt.2, Hb5.out.size, Hb5.out.alloc Hb5.out.size _⟩

end Go.Proofs.Ytmjjmkdjjfmhhaa
