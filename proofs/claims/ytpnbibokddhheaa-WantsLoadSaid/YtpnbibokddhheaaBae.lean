/-
  Numbers of two bytes, read: the program's way.
-/
import Derived.StillTailTactics
import Derived.WalkMore
import Derived.Laws.CopyOwn
import Derived.ArgAppend
import Derived.Sort.Grow
import Derived.Test.YtpnbibokddhheaaBaa
import Derived.Test.YtpnbibokddhheaaBab
import Derived.Test.YtpnbibokddhheaaBac
import Derived.Test.YtpnbibokddhheaaBad
namespace Go.Proofs.Ytpnbibokddhheaa
open Go.RowKit

theorem or_two (x y : Int) (hx : byteOk x) (hy : byteOk y) : ((BitVec.ofInt 64 (x * 256) ||| BitVec.ofInt 64 y).toNat : Int) = x * 256 + y := by
  obtain ⟨a, rfl⟩ := Int.eq_ofNat_of_zero_le hx.1
  obtain ⟨b, rfl⟩ := Int.eq_ofNat_of_zero_le hy.1
  have ha : a < 256 := by have := hx.2; omega
  have hb : b < 256 := by have := hy.2; omega
  have e1 : (BitVec.ofInt 64 ((a : Int) * 256)).toNat = a * 256 := by
    rw [show ((a : Int) * 256) = ((a * 256 : Nat) : Int) by simp, BitVec.ofInt_natCast, BitVec.toNat_ofNat]
    exact Nat.mod_eq_of_lt (by omega)
  have e2 : (BitVec.ofInt 64 (b : Int)).toNat = b := by
    rw [BitVec.ofInt_natCast, BitVec.toNat_ofNat]
    exact Nat.mod_eq_of_lt (by omega)
  rw [BitVec.toNat_or, e1, e2]
  have := Nat.shiftLeft_add_eq_or_of_lt (b := b) (i := 8) (by omega) a
  rw [Nat.shiftLeft_eq] at this
  rw [← this]
  simp

theorem own_some0 {w : World} {B n : Nat} {v : Value} {L : List Int} (h : OwnB w B v L) (hn : L.length = n) (h0 : 0 < n) : ∃ g c, n ≤ c ∧ v = .slice (some ⟨g, 0, none⟩) n c := by
  subst hn
  rcases h.shape2 with ⟨-, hl⟩ | ⟨g, c5, rfl, hc5⟩
  · rw [hl] at h0; simp at h0
  · exact ⟨g, c5, hc5, rfl⟩
theorem bits_or (x y : Int) (hx : byteOk x) (hy : byteOk y) : bits BinOp.or IntKind.i64 (x * 256) y = x * 256 + y := by
  have h := or_two x y hx hy
  have h1 := hx.1; have h2 := hx.2; have h3 := hy.1; have h4 := hy.2
  have e : bits BinOp.or IntKind.i64 (x * 256) y = IntKind.i64.wrap ((BitVec.ofInt 64 (x * 256) ||| BitVec.ofInt 64 y).toNat : Int) := rfl
  rw [e, h]
  simp only [IntKind.wrap, IntKind.bits, IntKind.signed]
  simp
  omega
theorem wrap_byte {y : Int} (hy : byteOk y) : wrap64 y = y := by
  have h3 := hy.1; have h4 := hy.2
  unfold wrap64
  omega
theorem copy_two {w : World} {ops : Array Oper} {rest : List Oper} {o : Oper} {a : Act} {Q : Exit → Act → World → Prop} (hgd : o.guard = none) (d s : Operand)
    (ho : o.op = .call { callee := .builtin .copy, args := #[d, s], argTypes := #[131, 131] }) (k g f c : Nat) (hd : a.eval d = .slice (some ⟨k, 0, none⟩) 2 2) (hs : a.eval s = .slice (some ⟨g, f, none⟩) 2 c)
    (hk : w.heap[k]? = some (.cells #[.int .u8 0, .int .u8 0] 5 (0, 0))) (x y : Int) (h0 : w.cell? ⟨g, f, none⟩ = some (.int .u8 x)) (h1 : w.cell? ⟨g, f + 1, none⟩ = some (.int .u8 y)) (B : Nat) (w0 : World) (hb : Below B w0 w) (hBk : B ≤ k)
    (h : ∀ w', Hid (w'.heap[k]? = some (.cells #[.int .u8 x, .int .u8 y] 5 (0, 0))) → Below B w0 w' → wpList Try.prog ops Q rest (a.put o.dst (goInt 2)) w') : wpList Try.prog ops Q (o :: rest) a w := by
  refine wpList_copy_splice hgd d s 131 131 ho 5 Try.underlying131 (by kernel_rfl) (some ⟨k, 0, none⟩) (some ⟨g, f, none⟩) 2 2 2 c hd hs k 0 [Value.int .u8 0, Value.int .u8 0] 5 hk [.int .u8 x, .int .u8 y] rfl (fun _ => ⟨rfl, _, rfl, fun j v hj => ?_⟩) (by simp) (fun v hv => ?_) B w0 hb hBk ?_
  · rw [Addr.add_lit]
    match j, hj with
    | 0, hj => injection hj with hj; subst hj; exact h0
    | 1, hj => injection hj with hj; subst hj; exact h1
    | (j + 2), hj => simp at hj
  · simp at hv
    rcases hv with rfl | rfl <;> rfl
  · intro w' hw' hbw
    exact h w' hw' hbw
theorem below_new0 (W : World) (o : Obj) : Below W.heap.size W (W.alloc o) := (Below.refl _ _).alloc (Nat.le_refl _) o
set_option maxHeartbeats 4000000 in
set_option maxRecDepth 100000 in
theorem copied_two (g o c : Nat) (a b : Int) (w : World) (hg : g < w.heap.size) (h0 : w.cell? ⟨g, o, none⟩ = some (.int .u8 a)) (h1 : w.cell? ⟨g, o + 1, none⟩ = some (.int .u8 b)) :
    Calls Try.prog 123 #[.slice (some ⟨g, o, none⟩) 2 c] w fun r w' => ∃ k, r = .returned (.slice (some ⟨k, 0, none⟩) 2 2) ∧ w'.cell? ⟨k, 0, none⟩ = some (.int .u8 a) ∧ w'.cell? ⟨k, 1, none⟩ = some (.int .u8 b) ∧ w.heap.size ≤ k ∧ Below w.heap.size w w' := by
  have hmk : ∀ w : World, (Instr.makeSlice 131 (.int .i64 2) (.int .i64 2)).run Try.prog w = .ok (.slice (some ⟨w.heap.size, 0, none⟩) 2 2) (w.alloc (.cells #[.int .u8 0, .int .u8 0] 5)) := fun _ => by kernel_rfl
  have hb1 := below_new0 w (.cells #[.int .u8 0, .int .u8 0] 5)
  have hk1 : (w.alloc (.cells #[.int .u8 0, .int .u8 0] 5)).heap[w.heap.size]? = some (.cells [Value.int .u8 0, Value.int .u8 0].toArray 5 (0, 0)) := heap_alloc_new w _
  have Hb1 := Lib.hid hb1
  have Hk1 := Lib.hid hk1
  have g0 : (w.alloc (.cells #[.int .u8 0, .int .u8 0] 5)).cell? ⟨g, o, none⟩ = some (.int .u8 a) := by rw [← h0]; exact hb1.cell (p := ⟨g, o, none⟩) hg
  have g1 : (w.alloc (.cells #[.int .u8 0, .int .u8 0] 5)).cell? ⟨g, o + 1, none⟩ = some (.int .u8 b) := by rw [← h1]; exact hb1.cell (p := ⟨g, o + 1, none⟩) hg
  have G0 := Lib.hid g0
  have G1 := Lib.hid g1
  clear hb1 hk1 g0 g1
  go_enter Try.func123, Try.ntmps123
  go_wp2_with (refine copy_two (o := ⟨some 9, _, _, _, _, _⟩) (by rfl) (.tmp 7) (.tmp 8) (by rfl) w.heap.size g o c (by rfl) (by rfl) Hk1.out a b G0.out G1.out w.heap.size w Hb1.out (Nat.le_refl _) ?_; intro w3 hg3 hb3)
  go_ret
  have hk : w3.heap[w.heap.size]? = some (.cells #[.int .u8 a, .int .u8 b] 5 (0, 0)) := hg3.out
  refine ⟨_, rfl, ?_, ?_, Nat.le_refl _, hb3⟩
  · simp [World.cell?, hk]
  · simp [World.cell?, hk]

set_option maxHeartbeats 4000000 in
set_option maxRecDepth 100000 in
theorem bytes_two (k g f N c at_ : Nat) (a b : Int) (w : World) (hk : Blk w k 143 #[.slice (some ⟨g, f, none⟩) N c, .int .i64 (at_ : Int), .int .i64 0]) (hg : g < w.heap.size) (hgk : g ≠ k) (h0 : w.cell? ⟨g, f + at_, none⟩ = some (.int .u8 a)) (h1 : w.cell? ⟨g, f + at_ + 1, none⟩ = some (.int .u8 b)) (hN : at_ + 2 ≤ N) (hc : N ≤ c) (hm : N ≤ 2 ^ 20) :
    Calls Try.prog 99 #[.pointer (some ⟨k, 0, none⟩), .int .i64 2] w fun r w' => ∃ m, r = .returned (.slice (some ⟨m, 0, none⟩) 2 2) ∧ w'.cell? ⟨m, 0, none⟩ = some (.int .u8 a) ∧ w'.cell? ⟨m, 1, none⟩ = some (.int .u8 b) ∧ Blk w' k 143 #[.slice (some ⟨g, f, none⟩) N c, .int .i64 ((at_ : Int) + 2), .int .i64 0] ∧ w.grownBy w' (some k) := by
  have z0 := hk.cell 0
  have z1 := hk.cell 1
  have z2 := hk.cell 2
  have q0 := hk.frozen 0
  have q1 := hk.frozen 1
  have q2 := hk.frozen 2
  simp at z0 z1 z2
  have hmx : max (2 : Int) 0 = 2 := rfl
  have hn1 : ¬ ((N : Int) - (at_ : Int) < 2) := by omega
  go_enter Try.func99, Try.ntmps99
  go_wp2
  go_step3
  go_upto_region 3 with fail
  go_region
  go_upto_region 6 with fail
  have hk5 : Blk (w.setCell ⟨k, 1, none⟩ (.int .i64 ((at_ : Int) + 2))).drew k 143 #[.slice (some ⟨g, f, none⟩) N c, .int .i64 ((at_ : Int) + 2), .int .i64 0] := by
    have := hk.set_ 1 (.int .i64 ((at_ : Int) + 2))
    simpa [Blk, World.drew] using this
  have hgr : w.grownBy (w.setCell ⟨k, 1, none⟩ (.int .i64 ((at_ : Int) + 2))).drew (some k) := ⟨rfl, rfl, rfl, by simp [World.setCell, World.drew], fun j hj hjk => Below.heap_setCell _ _ _ _ (fun e => hjk (by rw [e]))⟩
  have c0 : (w.setCell ⟨k, 1, none⟩ (.int .i64 ((at_ : Int) + 2))).drew.cell? ⟨g, f + at_, none⟩ = some (.int .u8 a) := by rw [← h0]; exact World.cell?_of_block (w := w) (hgr.block g hg (fun e => hgk (Option.some.inj e)))
  have c1 : (w.setCell ⟨k, 1, none⟩ (.int .i64 ((at_ : Int) + 2))).drew.cell? ⟨g, f + at_ + 1, none⟩ = some (.int .u8 b) := by rw [← h1]; exact World.cell?_of_block (w := w) (hgr.block g hg (fun e => hgk (Option.some.inj e)))
  have hkl : k < w.heap.size := hk.lt
  have hsz5 : (w.setCell ⟨k, 1, none⟩ (.int .i64 ((at_ : Int) + 2))).drew.heap.size = w.heap.size := by simp [World.setCell, World.drew]
  obtain ⟨w5, hw5⟩ : ∃ w5, (w.setCell ⟨k, 1, none⟩ (.int .i64 ((at_ : Int) + 2))).drew = w5 := ⟨_, rfl⟩
  rw [hw5] at hk5 hgr c0 c1 hsz5 ⊢
  have hs1 : (at_ : Int) + 2 - 2 = at_ := by omega
  have hs2 : at_ + 2 - at_ = 2 := by omega
  have hs3 : ((at_ : Int) + 2).toNat = at_ + 2 := by omega
  have HC := Lib.hid (copied_two g (f + at_) (c - at_) a b w5.drew (by show g < w5.heap.size; omega) c0 c1)
  have Hk5 := Lib.hid hk5
  have Hgr := Lib.hid hgr
  have Hsz := Lib.hid hsz5
  clear hw5 hk hgr h0 h1 z0 z1 z2 q0 q1 q2 hn1 c0 c1 hsz5
  have z0 := hk5.cell 0
  have z1 := hk5.cell 1
  have z2 := hk5.cell 2
  simp at z0 z1 z2
  clear hk5
  have hc2 : (at_ : Int) + 2 ≤ (c : Int) := by omega
  have hc3 : ¬ c = at_ := by omega
  have hc4 : (at_ : Int) ≤ (at_ : Int) + 2 := by omega
  have hc5 : 0 ≤ (at_ : Int) + 2 := by omega
  refine wp_draw_tail 14 (by kernel_rfl) (by kernel_rfl) ?_
  intro w6 hw6 hcell hfroz hs6 hs7
  have HC6 := Lib.hid (show Calls Try.prog 123 #[.slice (some ⟨g, f + at_, none⟩) 2 (c - at_)] w6 _ from by rw [hw6.out]; exact HC.out)
  have x0 : w6.cell? ⟨k, 0, none⟩ = some (.slice (some ⟨g, f, none⟩) N c) := (hcell _).trans z0
  have x1 : w6.cell? ⟨k, 1, none⟩ = some (.int .i64 ((at_ : Int) + 2)) := (hcell _).trans z1
  clear hcell hfroz hs6 hs7
  simp only [List.take_succ_cons, List.take_zero, List.drop_succ_cons, List.drop_zero]
  repeat still_step
  refine wpStill_nil ?_
  go_wp2_with (go_at_call 123; (with_reducible refine Calls.mono HC6.out ?_); rintro r w7 ⟨m, rfl, m0, m1, -, hb7⟩; have Hb7 := Lib.hid hb7; have HM0 := Lib.hid m0; have HM1 := Lib.hid m1; clear hb7 m0 m1)
  rw [Exit.noGoto_ret]
  go_ret
  refine ⟨m, rfl, HM0.out, HM1.out, ?_, ?_⟩
  · refine Blk.below ?_ Hb7.out ?_
    · exact Hk5.out
    · exact Hk5.out.lt
  · have h6 : w.grownBy w5.drew (some k) := ⟨Hgr.out.os, Hgr.out.tape, Hgr.out.output, Hgr.out.size, Hgr.out.block⟩
    exact ⟨Hb7.out.os.trans h6.os, Hb7.out.tape.trans h6.tape, Hb7.out.output.trans h6.output, Nat.le_trans h6.size Hb7.out.size, fun j hj hjk => (Hb7.out.block j (Nat.lt_of_lt_of_le hj h6.size)).trans (h6.block j hj hjk)⟩

set_option maxHeartbeats 4000000 in
set_option maxRecDepth 100000 in
theorem num_two (k g f N c at_ : Nat) (a b : Int) (w : World) (hk : Blk w k 143 #[.slice (some ⟨g, f, none⟩) N c, .int .i64 (at_ : Int), .int .i64 0]) (hg : g < w.heap.size) (hgk : g ≠ k) (h0 : w.cell? ⟨g, f + at_, none⟩ = some (.int .u8 a)) (h1 : w.cell? ⟨g, f + at_ + 1, none⟩ = some (.int .u8 b)) (ha : byteOk a) (hbk : byteOk b) (hN : at_ + 2 ≤ N) (hc : N ≤ c) (hm : N ≤ 2 ^ 20) :
    Calls Try.prog 83 #[.pointer (some ⟨k, 0, none⟩), .int .i64 2] w fun r w' => r = .returned (.int .i64 (a * 256 + b)) ∧ Blk w' k 143 #[.slice (some ⟨g, f, none⟩) N c, .int .i64 ((at_ : Int) + 2), .int .i64 0] ∧ w.grownBy w' (some k) := by
  have HB := Lib.hid (bytes_two k g f N c at_ a b w hk hg hgk h0 h1 hN hc hm)
  have Ha := Lib.hid ha
  have Hbk := Lib.hid hbk
  have HW := Lib.hid (wide_v 2 (by decide) (by decide))
  clear hk h0 h1 ha hbk hN hc hm
  go_enter Try.func83, Try.ntmps83
  go_wp2_with (first
    | (go_at_call 100; (with_reducible refine Calls.mono (HW.out _) ?_); rintro r w2 ⟨rfl, rfl⟩)
    | (go_at_call 99; (with_reducible refine Calls.mono HB.out ?_); rintro r w2 ⟨m, rfl, m0, m1, hk2, hg2⟩; have Hk2 := Lib.hid hk2; have Hg2 := Lib.hid hg2; clear hk2 hg2))
  go_loopw [5, 13] (fun o i wr => wr = w2 ∧ ((o = .int .i64 0 ∧ i = .int .i64 0) ∨ (o = .int .i64 a ∧ i = .int .i64 1) ∨ (o = .int .i64 (a * 256 + b) ∧ i = .int .i64 2))) (fun _ i _ => (2 - (intOf i)).toNat)
  case atStart => exact ⟨rfl, .inl ⟨rfl, rfl⟩⟩
  case round =>
    obtain ⟨rfl, ⟨rfl, rfl⟩ | ⟨rfl, rfl⟩ | ⟨rfl, rfl⟩⟩ := hrel
    · go_wp2
      go_roundw
      case measure => simp [intOf]
      case rel =>
        refine ⟨trivial, .inr (.inl ⟨?_, rfl⟩)⟩
        have := bits_or 0 a ⟨by decide, by decide⟩ Ha.out
        rw [wrap_byte Ha.out]
        simpa using this
    · go_wp2
      go_roundw
      case measure => simp [intOf]
      case rel =>
        refine ⟨trivial, .inr (.inr ⟨?_, rfl⟩)⟩
        have h1 := Ha.out.1; have h2 := Ha.out.2
        rw [wrap_byte Hbk.out, show wrap64 (a * 256) = a * 256 by unfold wrap64; omega, bits_or a b Ha.out Hbk.out]
    · go_wp2
      go_ret
      exact ⟨rfl, Hk2.out, Hg2.out⟩

set_option maxHeartbeats 4000000 in
set_option maxRecDepth 100000 in
theorem read_any (A : Option Addr) (c : Nat) (L : List Int) (w : World) (B : Nat) (hL : RowsAt 1 bcell w B A L) (hB : B ≤ w.heap.size) (hm : L.length ≤ 2 ^ 20) (hpos : 0 < L.length) (n : Nat) (hn : n = L.length) :
    Calls Try.prog 81 #[.slice A n c] w fun r w' => ∃ k : Nat, r = .returned (.pointer (some ⟨k, 0, none⟩)) ∧ ∃ g c' : Nat, Blk w' k 143 #[.slice (some ⟨g, 0, none⟩) n c', .int .i64 0, .int .i64 0] ∧ n ≤ c' ∧ OwnB w' w.heap.size (.slice (some ⟨g, 0, none⟩) n c') L ∧ g ≠ k ∧ w.heap.size ≤ k ∧ Below w.heap.size w w' := by
  have HL := Lib.hid (hL.more hB)
  have HE := Lib.hid (OwnR.nil (e := 5) (C := 1) (cells := bcell) w w.heap.size)
  have Hn := Lib.hid hn
  have hn2 : 0 < n := by omega
  have hm2 : n ≤ 2 ^ 20 := by omega
  clear hL hB hn hm hpos
  go_enter Try.func81, Try.ntmps81
  go_wp2_with (at_builtin; (refine app_rows (e := 5) bcell (fun _ => rfl) (by decide) (bytes := 1) (by decide) infoB rfl Try.underlying131 onesB (by rfl) _ _ (by rfl) w.heap.size _ [] (by rfl) HE.out A c n L Hn.out (by rfl) HL.out (by have := Hn.out; simp; omega) (Nat.le_refl _) ?_); intro v5 w5 hown5 hg5 hor5; have Hb5 := Lib.hid ((Below.refl w.heap.size w).grown hg5 (Nat.le_refl _) (fun j hj => (HE.out.block j hj).1)); obtain ⟨g, c5, hc5, hv5⟩ := own_some0 hown5 (by rw [List.nil_append]; exact Hn.out.symm) hn2; subst hv5; have Hown5 := Lib.hid hown5; clear hown5 hg5 hor5)
  go_ret
  have hO : OwnB w5 w.heap.size (.slice (some ⟨g, 0, none⟩) n c5) L := by have := Hown5.out; rwa [List.nil_append] at this
  have hlt := OwnB.lt hO
  exact ⟨w5.heap.size, rfl, g, c5, Blk.new w5 _ _, hc5, OwnR.alloc hO _, Nat.ne_of_lt hlt.2, Hb5.out.size, Hb5.out.alloc Hb5.out.size _⟩

end Go.Proofs.Ytpnbibokddhheaa

/-
  A description with its sum and length: the program's way.
-/
namespace Go.Proofs.Ytpnbibokddhheaa
open Go.RowKit

/-- the head that Seal leaves -/
def sealedH (h : Hd) (ls : List Lnk) (ms : List Int) : Hd := { h with sum := (bytesL h ls ms)[16]?.getD 0 * 256 + (bytesL h ls ms)[17]?.getD 0, long := (bytesL h ls ms)[18]?.getD 0 * 256 + (bytesL h ls ms)[19]?.getD 0 }

section
variable {w w' : World} {g : Nat} {t : TypeId} {a b c d e f x y z : Value}
theorem Blk.set9 (h : Blk w g t #[a, b, c, d, e, f, x, y, z]) (a' b' c' d' e' f' x' y' z' : Value) : Blk (((((((((w.setCell ⟨g, 0, none⟩ a').setCell ⟨g, 1, none⟩ b').setCell ⟨g, 2, none⟩ c').setCell ⟨g, 3, none⟩ d').setCell ⟨g, 4, none⟩ e').setCell ⟨g, 5, none⟩ f').setCell ⟨g, 6, none⟩ x').setCell ⟨g, 7, none⟩ y').setCell ⟨g, 8, none⟩ z') g t #[a', b', c', d', e', f', x', y', z'] := by
  have := ((((((((h.set_ 0 a').set_ 1 b').set_ 2 c').set_ 3 d').set_ 4 e').set_ 5 f').set_ 6 x').set_ 7 y').set_ 8 z'
  simpa using this
theorem below_set9 {B : Nat} (h : Below B w w') (hg : B ≤ g) (a' b' c' d' e' f' x' y' z' : Value) : Below B w (((((((((w'.setCell ⟨g, 0, none⟩ a').setCell ⟨g, 1, none⟩ b').setCell ⟨g, 2, none⟩ c').setCell ⟨g, 3, none⟩ d').setCell ⟨g, 4, none⟩ e').setCell ⟨g, 5, none⟩ f').setCell ⟨g, 6, none⟩ x').setCell ⟨g, 7, none⟩ y').setCell ⟨g, 8, none⟩ z') :=
  ((((((((h.setCell hg _).setCell hg _).setCell hg _).setCell hg _).setCell hg _).setCell hg _).setCell hg _).setCell hg _).setCell hg _
theorem own_far {α : Type} {e : TypeId} {C : Nat} {cells : α → List Value} {B : Nat} {v : Value} {L : List α} (h : OwnR e C cells w B v L) (hn : v.ownBlock ≠ some g) (i : Nat) (u : Value) : OwnR e C cells (w.setCell ⟨g, i, none⟩ u) B v L :=
  h.kept (row := some g) ⟨rfl, rfl, rfl, by simp [World.setCell], fun k hk hne => Below.heap_setCell _ _ _ _ (fun e => hne (by rw [e]))⟩ (.inr hn)
theorem own_far9 {α : Type} {e : TypeId} {C : Nat} {cells : α → List Value} {B : Nat} {v : Value} {L : List α} (h : OwnR e C cells w B v L) (hn : v.ownBlock ≠ some g) (a' b' c' d' e' f' x' y' z' : Value) : OwnR e C cells (((((((((w.setCell ⟨g, 0, none⟩ a').setCell ⟨g, 1, none⟩ b').setCell ⟨g, 2, none⟩ c').setCell ⟨g, 3, none⟩ d').setCell ⟨g, 4, none⟩ e').setCell ⟨g, 5, none⟩ f').setCell ⟨g, 6, none⟩ x').setCell ⟨g, 7, none⟩ y').setCell ⟨g, 8, none⟩ z') B v L :=
  own_far (own_far (own_far (own_far (own_far (own_far (own_far (own_far (own_far h hn _ _) hn _ _) hn _ _) hn _ _) hn _ _) hn _ _) hn _ _) hn _ _) hn _ _
end
theorem sealL_ok {r : List Int} (h : ∀ x ∈ r, byteOk x) : ∀ x ∈ sealL r, byteOk x := by
  refine app_ok (fun x hx => h x (List.mem_of_mem_take hx)) (fun x hx => ?_)
  have h2 := zero2_ok (bs := r.drop 2) (fun x hx => h x (List.mem_of_mem_drop hx))
  unfold fillL at hx
  rcases List.mem_or_eq_of_mem_set hx with hx | rfl
  · rcases List.mem_or_eq_of_mem_set hx with hx | rfl
    · exact h2 x hx
    · exact ⟨by unfold bytA fillA; omega, by unfold bytA fillA; omega⟩
  · exact ⟨by unfold bytB fillB; omega, by unfold bytB fillB; omega⟩
theorem bytesL_ok (h : Hd) (ls : List Lnk) (ms : List Int) : ∀ x ∈ bytesL h ls ms, byteOk x := sealL_ok (rawL_ok _ _ (bodyL_ok _ _ _))
theorem bytesL_len (h : Hd) (ls : List Lnk) (ms : List Int) (hl : ls.length ≤ 1000) (hm : ms.length ≤ 1000) : 20 ≤ (bytesL h ls ms).length ∧ (bytesL h ls ms).length ≤ 20020 := by
  have h1 := rawL_len h (bodyL h.kind ls ms)
  have h2 := bodyL_len h.kind ls ms hl hm
  have h3 := sealL_len (rawL h (bodyL h.kind ls ms)) (by omega)
  unfold bytesL
  omega
theorem own_at {w : World} {B n g cap : Nat} {l : List Int} (h : OwnB w B (.slice (some ⟨g, 0, none⟩) n cap) l) {k : Nat} {x : Int} (hx : l[k]? = some x) : w.cell? ⟨g, k, none⟩ = some (.int .u8 x) := by
  obtain ⟨hk, rfl⟩ := List.getElem?_eq_some_iff.1 hx
  exact (OwnB.at_ h k hk).1
structure SG (w2 wc : World) (k : Nat) (cs : Array Value) (va vb : Value) (ls : List Lnk) (ms : List Int) (W : World) : Prop where
  blk : Blk W k 38 cs
  oa : OwnR 127 4 Lnk.cells W w2.heap.size va ls
  ob : OwnR 3 1 icell W w2.heap.size vb ms
  bel : Below w2.heap.size w2 W
  sz : wc.heap.size ≤ W.heap.size
  kl : k < wc.heap.size
  la : ∀ j, va.ownBlock = some j → j < wc.heap.size
  lb : ∀ j, vb.ownBlock = some j → j < wc.heap.size
section
variable {w2 wc W W' : World} {k : Nat} {cs : Array Value} {va vb : Value} {ls : List Lnk} {ms : List Int}
theorem SG.below (h : SG w2 wc k cs va vb ls ms W) (hb : Below W.heap.size W W') : SG w2 wc k cs va vb ls ms W' :=
  ⟨h.blk.below hb h.blk.lt, h.oa.below hb, h.ob.below hb, below_trans h.bel h.bel.size hb, Nat.le_trans h.sz hb.size, h.kl, h.la, h.lb⟩
theorem SG.grown {j : Nat} (h : SG w2 wc k cs va vb ls ms W) (hw : w2.heap.size ≤ wc.heap.size) (hg : W.grownBy W' (some j)) (hj : wc.heap.size ≤ j) : SG w2 wc k cs va vb ls ms W' :=
  ⟨(hg.block k h.blk.lt (fun e => by have := h.kl; have := Option.some.inj e; omega)).trans h.blk, h.oa.kept hg (.inr (fun e => by have := h.la j e; omega)), h.ob.kept hg (.inr (fun e => by have := h.lb j e; omega)),
    h.bel.grown hg h.bel.size (fun i hi => by have := Option.some.inj hi; omega), Nat.le_trans h.sz hg.size, h.kl, h.la, h.lb⟩
end
set_option maxHeartbeats 8000000 in
set_option maxRecDepth 100000 in
theorem seal_any (y1 y2 y3 y4 y5 y6 y7 : Int) (ka : Option Addr) (kc : Nat) (ls : List Lnk) (ma : Option Addr) (mc : Nat) (ms : List Int) (w : World) (B : Nat) (hl : RowsAt 4 Lnk.cells w B ka ls) (hm : RowsAt 1 icell w B ma ms) (hB : B ≤ w.heap.size) (hlm : ls.length ≤ 1000) (hmm : ms.length ≤ 1000) (nl nm : Nat) (hnl : nl = ls.length) (hnm : nm = ms.length)
    {t : Bool} (ht : rightB ⟨⟨y1, y2, y3, y4, y5, y6, y7⟩, ka, kc, ls, ma, mc, ms⟩ = t) {s1 s2 : Int} (hs : (if t then ((sealedH ⟨y1, y2, y3, y4, y5, y6, y7⟩ ls ms).sum, (sealedH ⟨y1, y2, y3, y4, y5, y6, y7⟩ ls ms).long) else (y6, y7)) = (s1, s2)) :
    Calls Try.prog 51 #[.agg #[.int .i64 y1, .int .i64 y2, .int .i64 y3, .int .i64 y4, .int .i64 y5, .int .i64 y6, .int .i64 y7, .slice ka nl kc, .slice ma nm mc]] w fun r w' => ∃ va vb, r = .returned (.agg #[.int .i64 y1, .int .i64 y2, .int .i64 y3, .int .i64 y4, .int .i64 y5, .int .i64 s1, .int .i64 s2, va, vb]) ∧ OwnR 127 4 Lnk.cells w' w.heap.size va ls ∧ OwnR 3 1 icell w' w.heap.size vb ms ∧ Below w.heap.size w w' := by
  obtain ⟨w1, hW1⟩ : ∃ w1, w.alloc (.cells #[.int .i64 y1, .int .i64 y2, .int .i64 y3, .int .i64 y4, .int .i64 y5, .int .i64 y6, .int .i64 y7, .slice ka nl kc, .slice ma nm mc] 38) = w1 := ⟨_, rfl⟩
  have hk := Blk.new w 38 #[.int .i64 y1, .int .i64 y2, .int .i64 y3, .int .i64 y4, .int .i64 y5, .int .i64 y6, .int .i64 y7, .slice ka nl kc, .slice ma nm mc]
  have hb := below_new w (.cells #[.int .i64 y1, .int .i64 y2, .int .i64 y3, .int .i64 y4, .int .i64 y5, .int .i64 y6, .int .i64 y7, .slice ka nl kc, .slice ma nm mc] 38)
  rw [hW1] at hk hb
  have FW := Lib.hid (fun W (hW : Below w1.heap.size w1 W) => blk9 (hk.below hW hk.lt))
  have Hb := Lib.hid hb
  have HL := Lib.hid (rows_keep (hl.more hB) hb)
  have HM := Lib.hid (rows_keep (hm.more hB) hb)
  have hsz := hb.size
  have Hnl := Lib.hid hnl
  have Hnm := Lib.hid hnm
  have Ht := Lib.hid ht
  have Hs := Lib.hid hs
  have hnl2 : nl ≤ 1000 := by omega
  have hnm2 : nm ≤ 1000 := by omega
  clear hk hb hl hm hB hnl hnm hlm hmm ht hs
  go_enter Try.func51, Try.ntmps51
  go_upto_region 1 with fail
  obtain ⟨w2, hW2⟩ : ∃ w2, w1.alloc (.cells #[.int .i64 0, .int .i64 0, .int .i64 0, .int .i64 0, .int .i64 0, .int .i64 0, .int .i64 0, .slice none 0 0, .slice none 0 0] 38) = w2 := ⟨_, rfl⟩
  have hq := Blk.new w1 38 #[.int .i64 0, .int .i64 0, .int .i64 0, .int .i64 0, .int .i64 0, .int .i64 0, .int .i64 0, .slice none 0 0, .slice none 0 0]
  have hb2 := below_new w1 (.cells #[.int .i64 0, .int .i64 0, .int .i64 0, .int .i64 0, .int .i64 0, .int .i64 0, .int .i64 0, .slice none 0 0, .slice none 0 0] 38)
  rw [hW2] at hq hb2 ⊢
  have F2 := Lib.hid (fun W (hW : Below w2.heap.size w2 W) => FW.out W (below_trans hb2 hb2.size hW))
  have FQ := Lib.hid (fun W (hW : Below w2.heap.size w2 W) => hq.below hW hq.lt)
  have HL2 := Lib.hid (rows_keep HL.out hb2)
  have HM2 := Lib.hid (rows_keep HM.out hb2)
  have Hb2 := Lib.hid hb2
  have hq1 : w1.heap.size < w2.heap.size := hq.lt
  clear hW2 hW1 hq hb2 FW HL HM
  go_cut [3] (fun p wx => ∃ k Aa ca Ab cb, p = .pointer (some ⟨k, 0, none⟩) ∧ Blk wx k 38 #[.int .i64 y1, .int .i64 y2, .int .i64 y3, .int .i64 y4, .int .i64 y5, .int .i64 y6, .int .i64 y7, .slice Aa nl ca, .slice Ab nm cb] ∧ OwnR 127 4 Lnk.cells wx w2.heap.size (.slice Aa nl ca) ls ∧ OwnR 3 1 icell wx w2.heap.size (.slice Ab nm cb) ms ∧ (Value.slice Aa nl ca).ownBlock ≠ some k ∧ (Value.slice Ab nm cb).ownBlock ≠ some k ∧ w2.heap.size ≤ k ∧ Below w2.heap.size w2 wx)
  case first =>
    go_wp2_with fail
    refine wp_region_F (F := fun W => Below w2.heap.size w2 W) (n := 10) (m := 11) (s := #[false, false, false, false, false, false, false, false, false, false, false]) (by kernel_rfl) (by kernel_rfl) (by kernel_rfl) ?_
    intro wd hwd
    have hF : Below w2.heap.size w2 wd := by rw [hwd.out]; exact (Below.refl _ _).drew
    clear hwd
    refine F_take (i := 0) (d := some 5) (by kernel_rfl) (by kernel_rfl) (by decide) (s' := #[true, false, false, false, false, false, false, false, false, false, false]) (by kernel_rfl) rfl rfl (by kernel_rfl) (by kernel_rfl) (by kernel_rfl) (fun _ _ _ h => h) (Or.inl ⟨by kernel_rfl, fun W hW => by obtain ⟨x0, x1, x2, x3, x4, x5, x6, x7, x8, -⟩ := F2.out W hW; go_simp; try with_reducible rfl⟩) hF ?_
    go_frame
    refine F_take (i := 2) (d := some 7) (by kernel_rfl) (by kernel_rfl) (by decide) (s' := #[true, false, true, false, false, false, false, false, false, false, false]) (by kernel_rfl) rfl rfl (by kernel_rfl) (by kernel_rfl) (by kernel_rfl) (fun _ _ _ h => h) (Or.inl ⟨by kernel_rfl, fun W hW => by obtain ⟨x0, x1, x2, x3, x4, x5, x6, x7, x8, -⟩ := F2.out W hW; go_simp; try with_reducible rfl⟩) hF ?_
    go_frame
    refine F_take (i := 5) (d := some 10) (by kernel_rfl) (by kernel_rfl) (by decide) (s' := #[true, false, true, false, false, true, false, false, false, false, false]) (by kernel_rfl) rfl rfl (by kernel_rfl) (by kernel_rfl) (by kernel_rfl) (fun _ _ _ h => h) (Or.inl ⟨by kernel_rfl, fun W hW => by obtain ⟨x0, x1, x2, x3, x4, x5, x6, x7, x8, -⟩ := F2.out W hW; go_simp; try with_reducible rfl⟩) hF ?_
    go_frame
    refine F_take (i := 1) (d := some 6) (by kernel_rfl) (by kernel_rfl) (by decide) (s' := #[true, true, true, false, false, true, false, false, false, false, false]) (by kernel_rfl) rfl rfl (by kernel_rfl) (by kernel_rfl) (by kernel_rfl) (fun _ _ _ h => h) (Or.inl ⟨by kernel_rfl, fun W hW => by obtain ⟨x0, x1, x2, x3, x4, x5, x6, x7, x8, -⟩ := F2.out W hW; go_simp; try with_reducible rfl⟩) hF ?_
    go_frame
    refine F_take (i := 3) (d := some 8) (by kernel_rfl) (by kernel_rfl) (by decide) (s' := #[true, true, true, true, false, true, false, false, false, false, false]) (by kernel_rfl) rfl rfl (by kernel_rfl) (by kernel_rfl) (by kernel_rfl) (fun _ _ _ h => h) (Or.inl ⟨by kernel_rfl, fun W hW => by obtain ⟨x0, x1, x2, x3, x4, x5, x6, x7, x8, -⟩ := F2.out W hW; go_simp; try with_reducible rfl⟩) hF ?_
    go_frame
    refine F_take (i := 6) (d := some 11) (by kernel_rfl) (by kernel_rfl) (by decide) (s' := #[true, true, true, true, false, true, true, false, false, false, false]) (by kernel_rfl) rfl rfl (by kernel_rfl) (by kernel_rfl) (by kernel_rfl) (fun _ _ _ h => h) (Or.inl ⟨by kernel_rfl, fun W hW => by obtain ⟨x0, x1, x2, x3, x4, x5, x6, x7, x8, -⟩ := F2.out W hW; go_simp; try with_reducible rfl⟩) hF ?_
    go_frame
    refine F_two (i := 4) (si := #[true, true, true, true, true, true, true, false, false, false, false]) (j := 9) (sj := #[true, true, true, true, false, true, true, false, false, true, false]) (by kernel_rfl) (by kernel_rfl) (by kernel_rfl) ?_ ?_
    · skip
      have hz4 : wd.heap.size = wd.heap.size := rfl
      refine wpOp_enterL (i := 4) (d := some 9) (f := 79) (args := #[.slice ka nl kc]) rfl rfl (by kernel_rfl) (by go_simp) ((cloneLnk ka kc ls wd w2.heap.size (HL2.out.below hF) hF.size (by have := Hnl.out; omega) nl Hnl.out).mono ?_)
      rintro r v4w ⟨va, rfl, oA, hb4⟩
      obtain ⟨Aa, ca, rfl⟩ : ∃ A c, va = .slice A nl c := by obtain ⟨A, c, e⟩ := oA.shape; exact ⟨A, c, by rw [e, Hnl.out]⟩
      have oA0 := oA
      have oA := OwnR.lower oA hF.size
      have hF := below_trans hF hF.size hb4
      refine ⟨_, rfl, fun _ => hF, ?_⟩
      go_frame
      clear hb4 hz4
      refine F_two (i := 7) (si := #[true, true, true, true, true, true, true, true, false, false, false]) (j := 9) (sj := #[true, true, true, true, true, true, true, false, false, true, false]) (by kernel_rfl) (by kernel_rfl) (by kernel_rfl) ?_ ?_
      · skip
        have hz7 : v4w.heap.size = v4w.heap.size := rfl
        refine wpOp_enterL (i := 7) (d := some 12) (f := 80) (args := #[.slice ma nm mc]) rfl rfl (by kernel_rfl) (by go_simp) ((cloneInt ma mc ms v4w w2.heap.size (HM2.out.below hF) hF.size (by have := Hnm.out; omega) nm Hnm.out).mono ?_)
        rintro r v7w ⟨vb, rfl, oB, hb7⟩
        obtain ⟨Ab, cb, rfl⟩ : ∃ A c, vb = .slice A nm c := by obtain ⟨A, c, e⟩ := oB.shape; exact ⟨A, c, by rw [e, Hnm.out]⟩
        have oB0 := oB
        have oA := OwnR.below oA hb7
        have oA0 := oA
        have oB := OwnR.lower oB hF.size
        have hF := below_trans hF hF.size hb7
        refine ⟨_, rfl, fun _ => hF, ?_⟩
        go_frame
        clear hb7 hz7
        refine F_take (i := 8) (d := some 13) (by kernel_rfl) (by kernel_rfl) (by decide) (s' := #[true, true, true, true, true, true, true, true, true, false, false]) (by kernel_rfl) rfl rfl (by kernel_rfl) (by kernel_rfl) (by kernel_rfl) (fun _ _ _ h => h) (Or.inl ⟨by kernel_rfl, fun W hW => by obtain ⟨x0, x1, x2, x3, x4, x5, x6, x7, x8, -⟩ := F2.out W hW; go_simp; try with_reducible rfl⟩) hF ?_
        go_frame
        obtain ⟨g, hg⟩ : ∃ g, v7w.heap.size = g := ⟨_, rfl⟩
        obtain ⟨v9w, hv9w⟩ : ∃ v9w, v7w.alloc (.cells #[.int .i64 0, .int .i64 0, .int .i64 0, .int .i64 0, .int .i64 0, .int .i64 0, .int .i64 0, .slice none 0 0, .slice none 0 0] 38) = v9w := ⟨_, rfl⟩
        have hb9 : Below v7w.heap.size v7w v9w := by rw [← hv9w]; exact below_new _ _
        have K9 : Blk v9w g 38 #[.int .i64 0, .int .i64 0, .int .i64 0, .int .i64 0, .int .i64 0, .int .i64 0, .int .i64 0, .slice none 0 0, .slice none 0 0] := by rw [← hv9w, ← hg]; exact Blk.new _ _ _
        have hgl : w2.heap.size ≤ g := by rw [← hg]; exact hF.size
        have oA := OwnR.below oA hb9
        have nA : (Value.slice Aa nl ca).ownBlock ≠ some g := fun e => by have := (OwnR.block oA0 g e).2; omega
        have oB := OwnR.below oB hb9
        have nB : (Value.slice Ab nm cb).ownBlock ≠ some g := fun e => by have := (OwnR.block oB0 g e).2; omega
        have hF := below_trans hF hF.size hb9
        refine F_one (i := 9) (s' := #[true, true, true, true, true, true, true, true, true, true, false]) (by kernel_rfl) (by kernel_rfl) (wpOp_valueL (i := 9) (d := some 3) (w' := v9w) (v := .pointer (some ⟨g, 0, none⟩)) rfl rfl (by kernel_rfl) (by go_simp) ⟨fun _ => hF, ?_⟩)
        go_frame
        clear hv9w hg hb9
        obtain ⟨u0, u1, u2, u3, u4, u5, u6, u7, u8, uf⟩ := blk9 K9
        refine F_one (i := 10) (s' := #[true, true, true, true, true, true, true, true, true, true, true]) (by kernel_rfl) (by kernel_rfl) (wpOp_skipL (i := 10) (w' := (((((((((v9w.setCell ⟨g, 0, none⟩ (.int .i64 y1)).setCell ⟨g, 1, none⟩ (.int .i64 y2)).setCell ⟨g, 2, none⟩ (.int .i64 y3)).setCell ⟨g, 3, none⟩ (.int .i64 y4)).setCell ⟨g, 4, none⟩ (.int .i64 y5)).setCell ⟨g, 5, none⟩ (.int .i64 y6)).setCell ⟨g, 6, none⟩ (.int .i64 y7)).setCell ⟨g, 7, none⟩ (.slice Aa nl ca)).setCell ⟨g, 8, none⟩ (.slice Ab nm cb))) rfl rfl (by kernel_rfl) (by go_simp) ⟨fun h => absurd h (by decide), ?_⟩)
        go_frame
        refine F_done (by kernel_rfl) ?_ _
        clear u0 u1 u2 u3 u4 u5 u6 u7 u8 uf
        go_wp2_with fail
        go_meet
        case rel => exact ⟨g, Aa, ca, Ab, cb, rfl, Blk.set9 K9 _ _ _ _ _ _ _ _ _, own_far9 oA nA _ _ _ _ _ _ _ _ _, own_far9 oB nB _ _ _ _ _ _ _ _ _, nA, nB, hgl, below_set9 hF hgl _ _ _ _ _ _ _ _ _⟩
      · skip
        obtain ⟨g, hg⟩ : ∃ g, v4w.heap.size = g := ⟨_, rfl⟩
        obtain ⟨v9w, hv9w⟩ : ∃ v9w, v4w.alloc (.cells #[.int .i64 0, .int .i64 0, .int .i64 0, .int .i64 0, .int .i64 0, .int .i64 0, .int .i64 0, .slice none 0 0, .slice none 0 0] 38) = v9w := ⟨_, rfl⟩
        have hb9 : Below v4w.heap.size v4w v9w := by rw [← hv9w]; exact below_new _ _
        have K9 : Blk v9w g 38 #[.int .i64 0, .int .i64 0, .int .i64 0, .int .i64 0, .int .i64 0, .int .i64 0, .int .i64 0, .slice none 0 0, .slice none 0 0] := by rw [← hv9w, ← hg]; exact Blk.new _ _ _
        have hgl : w2.heap.size ≤ g := by rw [← hg]; exact hF.size
        have oA := OwnR.below oA hb9
        have nA : (Value.slice Aa nl ca).ownBlock ≠ some g := fun e => by have := (OwnR.block oA0 g e).2; omega
        have hF := below_trans hF hF.size hb9
        refine wpOp_valueL (i := 9) (d := some 3) (w' := v9w) (v := .pointer (some ⟨g, 0, none⟩)) rfl rfl (by kernel_rfl) (by go_simp) ⟨fun _ => hF, ?_⟩
        go_frame
        clear hv9w hg hb9
        have hgW : g < v9w.heap.size := K9.lt
        have hz7 : v9w.heap.size = v9w.heap.size := rfl
        refine F_one (i := 7) (s' := #[true, true, true, true, true, true, true, true, false, true, false]) (by kernel_rfl) (by kernel_rfl) (wpOp_enterL (i := 7) (d := some 12) (f := 80) (args := #[.slice ma nm mc]) rfl rfl (by kernel_rfl) (by go_simp) ((cloneInt ma mc ms v9w w2.heap.size (HM2.out.below hF) hF.size (by have := Hnm.out; omega) nm Hnm.out).mono ?_))
        rintro r v7w ⟨vb, rfl, oB, hb7⟩
        obtain ⟨Ab, cb, rfl⟩ : ∃ A c, vb = .slice A nm c := by obtain ⟨A, c, e⟩ := oB.shape; exact ⟨A, c, by rw [e, Hnm.out]⟩
        have oB0 := oB
        have K9 := Blk.below K9 hb7 K9.lt
        have nB : (Value.slice Ab nm cb).ownBlock ≠ some g := fun e => by have := (OwnR.block oB g e).1; have := hgW; omega
        have oA := OwnR.below oA hb7
        have oA0 := oA
        have oB := OwnR.lower oB hF.size
        have hF := below_trans hF hF.size hb7
        refine ⟨_, rfl, fun _ => hF, ?_⟩
        go_frame
        clear hb7 hz7
        refine F_take (i := 8) (d := some 13) (by kernel_rfl) (by kernel_rfl) (by decide) (s' := #[true, true, true, true, true, true, true, true, true, true, false]) (by kernel_rfl) rfl rfl (by kernel_rfl) (by kernel_rfl) (by kernel_rfl) (fun _ _ _ h => h) (Or.inl ⟨by kernel_rfl, fun W hW => by obtain ⟨x0, x1, x2, x3, x4, x5, x6, x7, x8, -⟩ := F2.out W hW; go_simp; try with_reducible rfl⟩) hF ?_
        go_frame
        obtain ⟨u0, u1, u2, u3, u4, u5, u6, u7, u8, uf⟩ := blk9 K9
        refine F_one (i := 10) (s' := #[true, true, true, true, true, true, true, true, true, true, true]) (by kernel_rfl) (by kernel_rfl) (wpOp_skipL (i := 10) (w' := (((((((((v7w.setCell ⟨g, 0, none⟩ (.int .i64 y1)).setCell ⟨g, 1, none⟩ (.int .i64 y2)).setCell ⟨g, 2, none⟩ (.int .i64 y3)).setCell ⟨g, 3, none⟩ (.int .i64 y4)).setCell ⟨g, 4, none⟩ (.int .i64 y5)).setCell ⟨g, 5, none⟩ (.int .i64 y6)).setCell ⟨g, 6, none⟩ (.int .i64 y7)).setCell ⟨g, 7, none⟩ (.slice Aa nl ca)).setCell ⟨g, 8, none⟩ (.slice Ab nm cb))) rfl rfl (by kernel_rfl) (by go_simp) ⟨fun h => absurd h (by decide), ?_⟩)
        go_frame
        refine F_done (by kernel_rfl) ?_ _
        clear u0 u1 u2 u3 u4 u5 u6 u7 u8 uf
        go_wp2_with fail
        go_meet
        case rel => exact ⟨g, Aa, ca, Ab, cb, rfl, Blk.set9 K9 _ _ _ _ _ _ _ _ _, own_far9 oA nA _ _ _ _ _ _ _ _ _, own_far9 oB nB _ _ _ _ _ _ _ _ _, nA, nB, hgl, below_set9 hF hgl _ _ _ _ _ _ _ _ _⟩
    · skip
      obtain ⟨g, hg⟩ : ∃ g, wd.heap.size = g := ⟨_, rfl⟩
      obtain ⟨v9w, hv9w⟩ : ∃ v9w, wd.alloc (.cells #[.int .i64 0, .int .i64 0, .int .i64 0, .int .i64 0, .int .i64 0, .int .i64 0, .int .i64 0, .slice none 0 0, .slice none 0 0] 38) = v9w := ⟨_, rfl⟩
      have hb9 : Below wd.heap.size wd v9w := by rw [← hv9w]; exact below_new _ _
      have K9 : Blk v9w g 38 #[.int .i64 0, .int .i64 0, .int .i64 0, .int .i64 0, .int .i64 0, .int .i64 0, .int .i64 0, .slice none 0 0, .slice none 0 0] := by rw [← hv9w, ← hg]; exact Blk.new _ _ _
      have hgl : w2.heap.size ≤ g := by rw [← hg]; exact hF.size
      have hF := below_trans hF hF.size hb9
      refine wpOp_valueL (i := 9) (d := some 3) (w' := v9w) (v := .pointer (some ⟨g, 0, none⟩)) rfl rfl (by kernel_rfl) (by go_simp) ⟨fun _ => hF, ?_⟩
      go_frame
      clear hv9w hg hb9
      have hgW : g < v9w.heap.size := K9.lt
      have hz4 : v9w.heap.size = v9w.heap.size := rfl
      refine F_one (i := 4) (s' := #[true, true, true, true, true, true, true, false, false, true, false]) (by kernel_rfl) (by kernel_rfl) (wpOp_enterL (i := 4) (d := some 9) (f := 79) (args := #[.slice ka nl kc]) rfl rfl (by kernel_rfl) (by go_simp) ((cloneLnk ka kc ls v9w w2.heap.size (HL2.out.below hF) hF.size (by have := Hnl.out; omega) nl Hnl.out).mono ?_))
      rintro r v4w ⟨va, rfl, oA, hb4⟩
      obtain ⟨Aa, ca, rfl⟩ : ∃ A c, va = .slice A nl c := by obtain ⟨A, c, e⟩ := oA.shape; exact ⟨A, c, by rw [e, Hnl.out]⟩
      have oA0 := oA
      have K9 := Blk.below K9 hb4 K9.lt
      have nA : (Value.slice Aa nl ca).ownBlock ≠ some g := fun e => by have := (OwnR.block oA g e).1; have := hgW; omega
      have oA := OwnR.lower oA hF.size
      have hF := below_trans hF hF.size hb4
      refine ⟨_, rfl, fun _ => hF, ?_⟩
      go_frame
      clear hb4 hz4
      have hgW : g < v4w.heap.size := K9.lt
      have hz7 : v4w.heap.size = v4w.heap.size := rfl
      refine F_one (i := 7) (s' := #[true, true, true, true, true, true, true, true, false, true, false]) (by kernel_rfl) (by kernel_rfl) (wpOp_enterL (i := 7) (d := some 12) (f := 80) (args := #[.slice ma nm mc]) rfl rfl (by kernel_rfl) (by go_simp) ((cloneInt ma mc ms v4w w2.heap.size (HM2.out.below hF) hF.size (by have := Hnm.out; omega) nm Hnm.out).mono ?_))
      rintro r v7w ⟨vb, rfl, oB, hb7⟩
      obtain ⟨Ab, cb, rfl⟩ : ∃ A c, vb = .slice A nm c := by obtain ⟨A, c, e⟩ := oB.shape; exact ⟨A, c, by rw [e, Hnm.out]⟩
      have oB0 := oB
      have K9 := Blk.below K9 hb7 K9.lt
      have nB : (Value.slice Ab nm cb).ownBlock ≠ some g := fun e => by have := (OwnR.block oB g e).1; have := hgW; omega
      have oA := OwnR.below oA hb7
      have oA0 := oA
      have oB := OwnR.lower oB hF.size
      have hF := below_trans hF hF.size hb7
      refine ⟨_, rfl, fun _ => hF, ?_⟩
      go_frame
      clear hb7 hz7
      refine F_take (i := 8) (d := some 13) (by kernel_rfl) (by kernel_rfl) (by decide) (s' := #[true, true, true, true, true, true, true, true, true, true, false]) (by kernel_rfl) rfl rfl (by kernel_rfl) (by kernel_rfl) (by kernel_rfl) (fun _ _ _ h => h) (Or.inl ⟨by kernel_rfl, fun W hW => by obtain ⟨x0, x1, x2, x3, x4, x5, x6, x7, x8, -⟩ := F2.out W hW; go_simp; try with_reducible rfl⟩) hF ?_
      go_frame
      obtain ⟨u0, u1, u2, u3, u4, u5, u6, u7, u8, uf⟩ := blk9 K9
      refine F_one (i := 10) (s' := #[true, true, true, true, true, true, true, true, true, true, true]) (by kernel_rfl) (by kernel_rfl) (wpOp_skipL (i := 10) (w' := (((((((((v7w.setCell ⟨g, 0, none⟩ (.int .i64 y1)).setCell ⟨g, 1, none⟩ (.int .i64 y2)).setCell ⟨g, 2, none⟩ (.int .i64 y3)).setCell ⟨g, 3, none⟩ (.int .i64 y4)).setCell ⟨g, 4, none⟩ (.int .i64 y5)).setCell ⟨g, 5, none⟩ (.int .i64 y6)).setCell ⟨g, 6, none⟩ (.int .i64 y7)).setCell ⟨g, 7, none⟩ (.slice Aa nl ca)).setCell ⟨g, 8, none⟩ (.slice Ab nm cb))) rfl rfl (by kernel_rfl) (by go_simp) ⟨fun h => absurd h (by decide), ?_⟩)
      go_frame
      refine F_done (by kernel_rfl) ?_ _
      clear u0 u1 u2 u3 u4 u5 u6 u7 u8 uf
      go_wp2_with fail
      go_meet
      case rel => exact ⟨g, Aa, ca, Ab, cb, rfl, Blk.set9 K9 _ _ _ _ _ _ _ _ _, own_far9 oA nA _ _ _ _ _ _ _ _ _, own_far9 oB nB _ _ _ _ _ _ _ _ _, nA, nB, hgl, below_set9 hF hgl _ _ _ _ _ _ _ _ _⟩
  case rest =>
    obtain ⟨k, Aa, ca, Ab, cb, rfl, hkb, hoa, hob, hna, hnb, hkl, hb3⟩ := hcut
    have hsg : SG w2 wc k #[.int .i64 y1, .int .i64 y2, .int .i64 y3, .int .i64 y4, .int .i64 y5, .int .i64 y6, .int .i64 y7, .slice Aa nl ca, .slice Ab nm cb] (.slice Aa nl ca) (.slice Ab nm cb) ls ms wc := ⟨hkb, hoa, hob, hb3, Nat.le_refl _, hkb.lt, fun j e => (hoa.block j e).2, fun j e => (hob.block j e).2⟩
    have hlm : ls.length ≤ 1000 := by have := Hnl.out; omega
    have hmm : ms.length ≤ 1000 := by have := Hnm.out; omega
    have hbl := bytesL_len ⟨y1, y2, y3, y4, y5, y6, y7⟩ ls ms hlm hmm
    have hbo := bytesL_ok ⟨y1, y2, y3, y4, y5, y6, y7⟩ ls ms
    have HR := Lib.hid (lsaRight_any y1 y2 y3 y4 y5 y6 y7 ka kc ls ma mc ms wc w2.heap.size (HL2.out.below hb3) (HM2.out.below hb3) hb3.size (by unfold maxLen; omega) (by unfold maxLen; omega) nl nm Hnl.out Hnm.out Ht.out)
    have HB := Lib.hid (fun W (hW : Below w2.heap.size w2 W) => bytes_any y1 y2 y3 y4 y5 y6 y7 ka kc ls ma mc ms W w2.heap.size (HL2.out.below hW) (HM2.out.below hW) hW.size hlm hmm nl nm Hnl.out Hnm.out)
    have Hsg := Lib.hid hsg
    have Hna := Lib.hid hna
    have Hnb := Lib.hid hnb
    have Hqa : Hid ((Value.slice Aa nl ca).ownBlock ≠ some w1.heap.size) := Lib.hid (fun e => by have := (hoa.block _ e).1; omega)
    have Hqb : Hid ((Value.slice Ab nm cb).ownBlock ≠ some w1.heap.size) := Lib.hid (fun e => by have := (hob.block _ e).1; omega)
    have hwc := hb3.size
    obtain ⟨z0, z1, z2, z3, z4, z5, z6, z7, z8, zf⟩ := F2.out _ hb3
    clear hkb hoa hob hna hnb hb3 hsg hlm hmm
    cases t with
    | false =>
      obtain ⟨rfl, rfl⟩ : y6 = s1 ∧ y7 = s2 := by have := Hs.out; simpa using this
      clear hbl hbo HB
      go_wp2_with (go_at_call 50; (with_reducible refine Calls.mono HR.out ?_); rintro r w4 ⟨rfl, hb4⟩; have Hsg4 := Lib.hid (Hsg.out.below hb4); clear hb4; obtain ⟨u0, u1, u2, u3, u4, u5, u6, u7, u8, uf⟩ := blk9 Hsg4.out.blk; obtain ⟨q0, q1, q2, q3, q4, q5, q6, q7, q8, qf⟩ := blk9 (FQ.out w4 Hsg4.out.bel))
      refine bodyPost_named (v := .agg #[.int .i64 y1, .int .i64 y2, .int .i64 y3, .int .i64 y4, .int .i64 y5, .int .i64 y6, .int .i64 y7, .slice Aa nl ca, .slice Ab nm cb]) (fun W => Blk W w1.heap.size 38 #[.int .i64 y1, .int .i64 y2, .int .i64 y3, .int .i64 y4, .int .i64 y5, .int .i64 y6, .int .i64 y7, .slice Aa nl ca, .slice Ab nm cb]) (Blk.set9 (FQ.out w4 Hsg4.out.bel) _ _ _ _ _ _ _ _ _) (fun W hB => by
        obtain ⟨e0, e1, e2, e3, e4, e5, e6, e7, e8, -⟩ := blk9 hB
        simp [results, Try.results51, go_sem, e0, e1, e2, e3, e4, e5, e6, e7, e8]) rfl ?_
      exact ⟨_, _, rfl, OwnR.lower (own_far9 Hsg4.out.oa Hqa.out _ _ _ _ _ _ _ _ _) (Nat.le_trans hsz Hb2.out.size), OwnR.lower (own_far9 Hsg4.out.ob Hqb.out _ _ _ _ _ _ _ _ _) (Nat.le_trans hsz Hb2.out.size), below_set9 (below_trans Hb.out hsz (below_trans Hb2.out Hb2.out.size Hsg4.out.bel)) hsz _ _ _ _ _ _ _ _ _⟩
    | true =>
      obtain ⟨BL, hBL⟩ : ∃ BL, bytesL ⟨y1, y2, y3, y4, y5, y6, y7⟩ ls ms = BL := ⟨_, rfl⟩
      have hs0 : (sealedH ⟨y1, y2, y3, y4, y5, y6, y7⟩ ls ms).sum = s1 ∧ (sealedH ⟨y1, y2, y3, y4, y5, y6, y7⟩ ls ms).long = s2 := by have := Hs.out; simpa using this
      rw [hBL] at hbl hbo
      simp only [hBL] at HB
      obtain ⟨x0, x1, x2, x3, g0, g1, g2, g3, b0, b1, b2, b3, e1, e2⟩ : ∃ x0 x1 x2 x3, (BL.drop 16)[0]? = some x0 ∧ (BL.drop 16)[1]? = some x1 ∧ (BL.drop 16)[2]? = some x2 ∧ (BL.drop 16)[3]? = some x3 ∧ byteOk x0 ∧ byteOk x1 ∧ byteOk x2 ∧ byteOk x3 ∧ x0 * 256 + x1 = s1 ∧ x2 * 256 + x3 = s2 := by
        unfold sealedH at hs0
        simp only [hBL] at hs0
        have l0 : 16 < BL.length := by omega
        have l1 : 17 < BL.length := by omega
        have l2 : 18 < BL.length := by omega
        have l3 : 19 < BL.length := by omega
        rw [List.getElem?_eq_getElem l0, List.getElem?_eq_getElem l1, List.getElem?_eq_getElem l2, List.getElem?_eq_getElem l3] at hs0
        refine ⟨BL[16], BL[17], BL[18], BL[19], ?_, ?_, ?_, ?_, hbo _ (List.getElem_mem l0), hbo _ (List.getElem_mem l1), hbo _ (List.getElem_mem l2), hbo _ (List.getElem_mem l3), hs0.1, hs0.2⟩
        all_goals rw [List.getElem?_drop, List.getElem?_eq_getElem]
      obtain ⟨NB, hNB⟩ : ∃ NB, BL.length = NB := ⟨_, rfl⟩
      rw [hNB] at hbl
      have HNB := Lib.hid hNB
      have HBL := Lib.hid hBL
      have HX := Lib.hid (show _ ∧ _ ∧ _ ∧ _ from ⟨g0, g1, g2, g3⟩)
      have HY := Lib.hid (show _ ∧ _ ∧ _ ∧ _ from ⟨b0, b1, b2, b3⟩)
      subst e1 e2
      have hn20 : 20 ≤ NB := hbl.1
      have hn21 : NB ≤ 20020 := hbl.2
      clear hNB hBL hs0 hbl hbo g0 g1 g2 g3 b0 b1 b2 b3 Hs
      go_wp2_with (first
        | (go_at_call 50; (with_reducible refine Calls.mono HR.out ?_); rintro r w4 ⟨rfl, hb4⟩; have Hsg4 := Lib.hid (Hsg.out.below hb4); clear hb4; obtain ⟨u0, u1, u2, u3, u4, u5, u6, u7, u8, uf⟩ := F2.out w4 Hsg4.out.bel)
        | (go_at_call 82; (with_reducible refine Calls.mono (HB.out _ Hsg4.out.bel) ?_); rintro r w5 ⟨v, rfl, hown5, hb5⟩; obtain ⟨g5, c5, hc5, hv5⟩ := own_some hown5 HNB.out (by omega); subst hv5; have Hsg5 := Lib.hid (Hsg4.out.below hb5);
            have HR5 := Lib.hid (read_any (some ⟨g5, 16, none⟩) (c5 - 16) (BL.drop 16) w5 w5.heap.size (by have := rows_drop (OwnR.rows (C := 1) (cells := bcell) (fun _ => rfl) hown5).2 16 (by have := HNB.out; omega) (by have := HNB.out; omega); exact this) (Nat.le_refl _) (by have := HNB.out; rw [List.length_drop]; omega) (by have := HNB.out; rw [List.length_drop]; omega) (NB - 16) (by have := HNB.out; rw [List.length_drop]; omega)); clear hown5 hb5; have hc5n : ¬ c5 = 16 := by omega)
        | (go_at_call 81; (with_reducible refine Calls.mono HR5.out ?_); rintro r w6 ⟨k6, rfl, g6, c6, hk6, hc6, hown6, hgk, hk6l, hb6⟩; have Hsg6 := Lib.hid (Hsg5.out.below hb6);
            have hg6 := (OwnB.lt hown6).2;
            have HN1 := Lib.hid (num_two k6 g6 0 (NB - 16) c6 0 x0 x1 w6 hk6 hg6 hgk (own_at hown6 HX.out.1) (own_at hown6 HX.out.2.1) HY.out.1 HY.out.2.1 (by omega) hc6 (by omega));
            have hk6w : wc.heap.size ≤ k6 := Nat.le_trans Hsg5.out.sz hk6l;
            have HC6 := Lib.hid (show _ ∧ _ from ⟨own_at hown6 HX.out.2.2.1, own_at hown6 HX.out.2.2.2⟩); clear hk6 hown6 hb6 hk6l)
        | (go_at_call 83; (with_reducible refine Calls.mono HN1.out ?_); rintro r w7 ⟨rfl, hk7, hg7⟩; have Hsg7 := Lib.hid (Hsg6.out.grown hwc hg7 hk6w);
            have HN2 := Lib.hid (num_two k6 g6 0 (NB - 16) c6 2 x2 x3 w7 hk7 (Nat.lt_of_lt_of_le hg6 hg7.size) hgk ((World.cell?_of_block (w := w6) (hg7.block g6 hg6 (fun e => hgk (Option.some.inj e)))).trans HC6.out.1) ((World.cell?_of_block (w := w6) (hg7.block g6 hg6 (fun e => hgk (Option.some.inj e)))).trans HC6.out.2) HY.out.2.2.1 HY.out.2.2.2 (by omega) hc6 (by omega)); clear hk7 hg7)
        | (go_at_call 83; (with_reducible refine Calls.mono HN2.out ?_); rintro r w8 ⟨rfl, -, hg8⟩; have Hsg8 := Lib.hid (Hsg7.out.grown hwc hg8 hk6w); clear hg8; obtain ⟨p0, p1, p2, p3, p4, p5, p6, p7, p8, pf⟩ := blk9 Hsg8.out.blk; obtain ⟨q0, q1, q2, q3, q4, q5, q6, q7, q8, qf⟩ := blk9 (FQ.out w8 Hsg8.out.bel); have hkq : ¬ k = w1.heap.size := by omega; have hqk : ¬ w1.heap.size = k := by omega)
        | fail)
      with_reducible refine Calls.mono HN2.out ?_
      rintro r w8 ⟨rfl, -, hg8⟩
      have Hsg8 := Lib.hid (Hsg7.out.grown hwc hg8 hk6w)
      clear hg8
      obtain ⟨p0, p1, p2, p3, p4, p5, p6, p7, p8, pf⟩ := blk9 Hsg8.out.blk
      obtain ⟨q0, q1, q2, q3, q4, q5, q6, q7, q8, qf⟩ := blk9 (FQ.out w8 Hsg8.out.bel)
      have hkq : ¬ k = w1.heap.size := by omega
      have hqk : ¬ w1.heap.size = k := by omega
      go_upto_region 5 with fail
      have hk9 : Blk ((w8.setCell ⟨k, 5, none⟩ (.int .i64 (x0 * 256 + x1))).setCell ⟨k, 6, none⟩ (.int .i64 (x2 * 256 + x3))) k 38 #[.int .i64 y1, .int .i64 y2, .int .i64 y3, .int .i64 y4, .int .i64 y5, .int .i64 (x0 * 256 + x1), .int .i64 (x2 * 256 + x3), .slice Aa nl ca, .slice Ab nm cb] := by
        have := (Hsg8.out.blk.set_ 5 (.int .i64 (x0 * 256 + x1))).set_ 6 (.int .i64 (x2 * 256 + x3))
        simpa using this
      have hb9 : Below w2.heap.size w2 ((w8.setCell ⟨k, 5, none⟩ (.int .i64 (x0 * 256 + x1))).setCell ⟨k, 6, none⟩ (.int .i64 (x2 * 256 + x3))) := (Hsg8.out.bel.setCell (p := ⟨k, 5, none⟩) hkl _).setCell (p := ⟨k, 6, none⟩) hkl _
      have oa9 := own_far (own_far Hsg8.out.oa Hna.out 5 (.int .i64 (x0 * 256 + x1))) Hna.out 6 (.int .i64 (x2 * 256 + x3))
      have ob9 := own_far (own_far Hsg8.out.ob Hnb.out 5 (.int .i64 (x0 * 256 + x1))) Hnb.out 6 (.int .i64 (x2 * 256 + x3))
      obtain ⟨w9, hw9⟩ : ∃ w9, ((w8.setCell ⟨k, 5, none⟩ (.int .i64 (x0 * 256 + x1))).setCell ⟨k, 6, none⟩ (.int .i64 (x2 * 256 + x3))) = w9 := ⟨_, rfl⟩
      rw [hw9] at hk9 hb9 oa9 ob9 ⊢
      have Hb9 := Lib.hid hb9
      have Oa9 := Lib.hid oa9
      have Ob9 := Lib.hid ob9
      clear hw9 oa9 ob9 p0 p1 p2 p3 p4 p5 p6 p7 p8 pf q0 q1 q2 q3 q4 q5 q6 q7 q8 qf
      obtain ⟨p0, p1, p2, p3, p4, p5, p6, p7, p8, pf⟩ := blk9 hk9
      obtain ⟨q0, q1, q2, q3, q4, q5, q6, q7, q8, qf⟩ := blk9 (FQ.out w9 hb9)
      clear hk9 hb9
      go_wp2
      refine bodyPost_named (v := .agg #[.int .i64 y1, .int .i64 y2, .int .i64 y3, .int .i64 y4, .int .i64 y5, .int .i64 (x0 * 256 + x1), .int .i64 (x2 * 256 + x3), .slice Aa nl ca, .slice Ab nm cb]) (fun W => Blk W w1.heap.size 38 #[.int .i64 y1, .int .i64 y2, .int .i64 y3, .int .i64 y4, .int .i64 y5, .int .i64 (x0 * 256 + x1), .int .i64 (x2 * 256 + x3), .slice Aa nl ca, .slice Ab nm cb]) (Blk.set9 (FQ.out w9 Hb9.out) _ _ _ _ _ _ _ _ _) (fun W hB => by
        obtain ⟨e0, e1, e2, e3, e4, e5, e6, e7, e8, -⟩ := blk9 hB
        simp [results, Try.results51, go_sem, e0, e1, e2, e3, e4, e5, e6, e7, e8]) rfl ?_
      exact ⟨_, _, rfl, OwnR.lower (own_far9 Oa9.out Hqa.out _ _ _ _ _ _ _ _ _) (Nat.le_trans hsz Hb2.out.size), OwnR.lower (own_far9 Ob9.out Hqb.out _ _ _ _ _ _ _ _ _) (Nat.le_trans hsz Hb2.out.size), below_set9 (below_trans Hb.out hsz (below_trans Hb2.out Hb2.out.size Hb9.out)) hsz _ _ _ _ _ _ _ _ _⟩

end Go.Proofs.Ytpnbibokddhheaa

/-
  A description of its own: the program's way.
-/
namespace Go.Proofs.Ytpnbibokddhheaa
open Go.RowKit

set_option maxHeartbeats 8000000 in
set_option maxRecDepth 100000 in
theorem own_any (y1 y2 y3 y4 y5 y6 y7 : Int) (ka : Option Addr) (kc : Nat) (ls : List Lnk) (ma : Option Addr) (mc : Nat) (ms : List Int) (w : World) (B : Nat) (hl : RowsAt 4 Lnk.cells w B ka ls) (hm : RowsAt 1 icell w B ma ms) (hB : B ≤ w.heap.size) (hlm : ls.length ≤ 2 ^ 20) (hmm : ms.length ≤ 2 ^ 20) (nl nm : Nat) (hnl : nl = ls.length) (hnm : nm = ms.length) :
    Calls Try.prog 52 #[.agg #[.int .i64 y1, .int .i64 y2, .int .i64 y3, .int .i64 y4, .int .i64 y5, .int .i64 y6, .int .i64 y7, .slice ka nl kc, .slice ma nm mc]] w fun r w' => ∃ Aa ca Ab cb, r = .returned (.agg #[.int .i64 y1, .int .i64 y2, .int .i64 y3, .int .i64 y4, .int .i64 y5, .int .i64 y6, .int .i64 y7, .slice Aa nl ca, .slice Ab nm cb]) ∧ OwnR 127 4 Lnk.cells w' w.heap.size (.slice Aa nl ca) ls ∧ OwnR 3 1 icell w' w.heap.size (.slice Ab nm cb) ms ∧ Below w.heap.size w w' := by
  obtain ⟨w1, hW1⟩ : ∃ w1, w.alloc (.cells #[.int .i64 y1, .int .i64 y2, .int .i64 y3, .int .i64 y4, .int .i64 y5, .int .i64 y6, .int .i64 y7, .slice ka nl kc, .slice ma nm mc] 38) = w1 := ⟨_, rfl⟩
  have hk := Blk.new w 38 #[.int .i64 y1, .int .i64 y2, .int .i64 y3, .int .i64 y4, .int .i64 y5, .int .i64 y6, .int .i64 y7, .slice ka nl kc, .slice ma nm mc]
  have hb := below_new w (.cells #[.int .i64 y1, .int .i64 y2, .int .i64 y3, .int .i64 y4, .int .i64 y5, .int .i64 y6, .int .i64 y7, .slice ka nl kc, .slice ma nm mc] 38)
  rw [hW1] at hk hb
  have FW := Lib.hid (fun W (hW : Below w1.heap.size w1 W) => blk9 (hk.below hW hk.lt))
  have Hb := Lib.hid hb
  have HL := Lib.hid (rows_keep (hl.more hB) hb)
  have HM := Lib.hid (rows_keep (hm.more hB) hb)
  have hsz := hb.size
  have Hnl := Lib.hid hnl
  have Hnm := Lib.hid hnm
  have hnl2 : nl ≤ 2 ^ 20 := by omega
  have hnm2 : nm ≤ 2 ^ 20 := by omega
  clear hk hb hl hm hB hnl hnm hlm hmm
  go_enter Try.func52, Try.ntmps52
  go_upto_region 1 with fail
  obtain ⟨w2, hW2⟩ : ∃ w2, w1.alloc (.cells #[.int .i64 0, .int .i64 0, .int .i64 0, .int .i64 0, .int .i64 0, .int .i64 0, .int .i64 0, .slice none 0 0, .slice none 0 0] 38) = w2 := ⟨_, rfl⟩
  have hq := Blk.new w1 38 #[.int .i64 0, .int .i64 0, .int .i64 0, .int .i64 0, .int .i64 0, .int .i64 0, .int .i64 0, .slice none 0 0, .slice none 0 0]
  have hb2 := below_new w1 (.cells #[.int .i64 0, .int .i64 0, .int .i64 0, .int .i64 0, .int .i64 0, .int .i64 0, .int .i64 0, .slice none 0 0, .slice none 0 0] 38)
  rw [hW2] at hq hb2 ⊢
  have F2 := Lib.hid (fun W (hW : Below w2.heap.size w2 W) => FW.out W (below_trans hb2 hb2.size hW))
  have FQ := Lib.hid (fun W (hW : Below w2.heap.size w2 W) => hq.below hW hq.lt)
  have HL2 := Lib.hid (rows_keep HL.out hb2)
  have HM2 := Lib.hid (rows_keep HM.out hb2)
  have Hb2 := Lib.hid hb2
  have hq1 : w1.heap.size < w2.heap.size := hq.lt
  clear hW2 hW1 hq hb2 FW HL HM
  refine wp_region_F (F := fun W => Below w2.heap.size w2 W) (n := 9) (m := 10) (s := #[false, false, false, false, false, false, false, false, false, false]) (by kernel_rfl) (by kernel_rfl) (by kernel_rfl) ?_
  intro wd hwd
  have hF : Below w2.heap.size w2 wd := by rw [hwd.out]; exact (Below.refl _ _).drew
  clear hwd
  refine F_take (i := 0) (d := some 3) (by kernel_rfl) (by kernel_rfl) (by decide) (s' := #[true, false, false, false, false, false, false, false, false, false]) (by kernel_rfl) rfl rfl (by kernel_rfl) (by kernel_rfl) (by kernel_rfl) (fun _ _ _ h => h) (Or.inl ⟨by kernel_rfl, fun W hW => by obtain ⟨x0, x1, x2, x3, x4, x5, x6, x7, x8, -⟩ := F2.out W hW; go_simp; try with_reducible rfl⟩) hF ?_
  go_frame
  refine F_take (i := 2) (d := some 5) (by kernel_rfl) (by kernel_rfl) (by decide) (s' := #[true, false, true, false, false, false, false, false, false, false]) (by kernel_rfl) rfl rfl (by kernel_rfl) (by kernel_rfl) (by kernel_rfl) (fun _ _ _ h => h) (Or.inl ⟨by kernel_rfl, fun W hW => by obtain ⟨x0, x1, x2, x3, x4, x5, x6, x7, x8, -⟩ := F2.out W hW; go_simp; try with_reducible rfl⟩) hF ?_
  go_frame
  refine F_take (i := 5) (d := some 8) (by kernel_rfl) (by kernel_rfl) (by decide) (s' := #[true, false, true, false, false, true, false, false, false, false]) (by kernel_rfl) rfl rfl (by kernel_rfl) (by kernel_rfl) (by kernel_rfl) (fun _ _ _ h => h) (Or.inl ⟨by kernel_rfl, fun W hW => by obtain ⟨x0, x1, x2, x3, x4, x5, x6, x7, x8, -⟩ := F2.out W hW; go_simp; try with_reducible rfl⟩) hF ?_
  go_frame
  refine F_take (i := 1) (d := some 4) (by kernel_rfl) (by kernel_rfl) (by decide) (s' := #[true, true, true, false, false, true, false, false, false, false]) (by kernel_rfl) rfl rfl (by kernel_rfl) (by kernel_rfl) (by kernel_rfl) (fun _ _ _ h => h) (Or.inl ⟨by kernel_rfl, fun W hW => by obtain ⟨x0, x1, x2, x3, x4, x5, x6, x7, x8, -⟩ := F2.out W hW; go_simp; try with_reducible rfl⟩) hF ?_
  go_frame
  refine F_take (i := 3) (d := some 6) (by kernel_rfl) (by kernel_rfl) (by decide) (s' := #[true, true, true, true, false, true, false, false, false, false]) (by kernel_rfl) rfl rfl (by kernel_rfl) (by kernel_rfl) (by kernel_rfl) (fun _ _ _ h => h) (Or.inl ⟨by kernel_rfl, fun W hW => by obtain ⟨x0, x1, x2, x3, x4, x5, x6, x7, x8, -⟩ := F2.out W hW; go_simp; try with_reducible rfl⟩) hF ?_
  go_frame
  refine F_take (i := 6) (d := some 9) (by kernel_rfl) (by kernel_rfl) (by decide) (s' := #[true, true, true, true, false, true, true, false, false, false]) (by kernel_rfl) rfl rfl (by kernel_rfl) (by kernel_rfl) (by kernel_rfl) (fun _ _ _ h => h) (Or.inl ⟨by kernel_rfl, fun W hW => by obtain ⟨x0, x1, x2, x3, x4, x5, x6, x7, x8, -⟩ := F2.out W hW; go_simp; try with_reducible rfl⟩) hF ?_
  go_frame
  refine F_one (i := 4) (s' := #[true, true, true, true, true, true, true, false, false, false]) (by kernel_rfl) (by kernel_rfl) (wpOp_enterL (i := 4) (d := some 7) (f := 79) (args := #[.slice ka nl kc]) rfl rfl (by kernel_rfl) (by go_simp) ((cloneLnk ka kc ls wd w2.heap.size (HL2.out.below hF) hF.size (by have := Hnl.out; omega) nl Hnl.out).mono ?_))
  rintro r v4w ⟨va, rfl, oA, hb4⟩
  obtain ⟨Aa, ca, rfl⟩ : ∃ A c, va = .slice A nl c := by obtain ⟨A, c, e⟩ := oA.shape; exact ⟨A, c, by rw [e, Hnl.out]⟩
  have oA := OwnR.lower oA hF.size
  have hF := below_trans hF hF.size hb4
  refine ⟨_, rfl, fun _ => hF, ?_⟩
  go_frame
  clear hb4
  refine F_one (i := 7) (s' := #[true, true, true, true, true, true, true, true, false, false]) (by kernel_rfl) (by kernel_rfl) (wpOp_enterL (i := 7) (d := some 10) (f := 80) (args := #[.slice ma nm mc]) rfl rfl (by kernel_rfl) (by go_simp) ((cloneInt ma mc ms v4w w2.heap.size (HM2.out.below hF) hF.size (by have := Hnm.out; omega) nm Hnm.out).mono ?_))
  rintro r v7w ⟨vb, rfl, oB, hb7⟩
  obtain ⟨Ab, cb, rfl⟩ : ∃ A c, vb = .slice A nm c := by obtain ⟨A, c, e⟩ := oB.shape; exact ⟨A, c, by rw [e, Hnm.out]⟩
  have oA := OwnR.below oA hb7
  have oB := OwnR.lower oB hF.size
  have hF := below_trans hF hF.size hb7
  refine ⟨_, rfl, fun _ => hF, ?_⟩
  go_frame
  clear hb7
  refine F_take (i := 8) (d := some 11) (by kernel_rfl) (by kernel_rfl) (by decide) (s' := #[true, true, true, true, true, true, true, true, true, false]) (by kernel_rfl) rfl rfl (by kernel_rfl) (by kernel_rfl) (by kernel_rfl) (fun _ _ _ h => h) (Or.inl ⟨by kernel_rfl, fun W hW => by obtain ⟨x0, x1, x2, x3, x4, x5, x6, x7, x8, -⟩ := F2.out W hW; go_simp; try with_reducible rfl⟩) hF ?_
  go_frame
  obtain ⟨u0, u1, u2, u3, u4, u5, u6, u7, u8, uf⟩ := blk9 (FQ.out v7w hF)
  refine F_one (i := 9) (s' := #[true, true, true, true, true, true, true, true, true, true]) (by kernel_rfl) (by kernel_rfl) (wpOp_skipL (i := 9) (w' := (((((((((v7w.setCell ⟨w1.heap.size, 0, none⟩ (.int .i64 y1)).setCell ⟨w1.heap.size, 1, none⟩ (.int .i64 y2)).setCell ⟨w1.heap.size, 2, none⟩ (.int .i64 y3)).setCell ⟨w1.heap.size, 3, none⟩ (.int .i64 y4)).setCell ⟨w1.heap.size, 4, none⟩ (.int .i64 y5)).setCell ⟨w1.heap.size, 5, none⟩ (.int .i64 y6)).setCell ⟨w1.heap.size, 6, none⟩ (.int .i64 y7)).setCell ⟨w1.heap.size, 7, none⟩ (.slice Aa nl ca)).setCell ⟨w1.heap.size, 8, none⟩ (.slice Ab nm cb))) rfl rfl (by kernel_rfl) (by go_simp) ⟨fun h => absurd h (by decide), ?_⟩)
  go_frame
  refine F_done (by kernel_rfl) ?_ _
  clear u0 u1 u2 u3 u4 u5 u6 u7 u8 uf
  have Hqa : Hid ((Value.slice Aa nl ca).ownBlock ≠ some w1.heap.size) := Lib.hid (fun e => by have := (OwnR.block oA _ e).1; omega)
  have Hqb : Hid ((Value.slice Ab nm cb).ownBlock ≠ some w1.heap.size) := Lib.hid (fun e => by have := (OwnR.block oB _ e).1; omega)
  have HF := Lib.hid hF
  have OA := Lib.hid oA
  have OB := Lib.hid oB
  clear oA oB hF
  go_wp2
  refine bodyPost_named (v := .agg #[.int .i64 y1, .int .i64 y2, .int .i64 y3, .int .i64 y4, .int .i64 y5, .int .i64 y6, .int .i64 y7, .slice Aa nl ca, .slice Ab nm cb]) (fun W => Blk W w1.heap.size 38 #[.int .i64 y1, .int .i64 y2, .int .i64 y3, .int .i64 y4, .int .i64 y5, .int .i64 y6, .int .i64 y7, .slice Aa nl ca, .slice Ab nm cb]) (Blk.set9 (FQ.out v7w HF.out) _ _ _ _ _ _ _ _ _) (fun W hB => by
    obtain ⟨e0, e1, e2, e3, e4, e5, e6, e7, e8, -⟩ := blk9 hB
    simp [results, Try.results52, go_sem, e0, e1, e2, e3, e4, e5, e6, e7, e8]) rfl ?_
  exact ⟨Aa, ca, Ab, cb, rfl, OwnR.lower (own_far9 OA.out Hqa.out _ _ _ _ _ _ _ _ _) (Nat.le_trans hsz Hb2.out.size), OwnR.lower (own_far9 OB.out Hqb.out _ _ _ _ _ _ _ _ _) (Nat.le_trans hsz Hb2.out.size), below_set9 (below_trans Hb.out hsz (below_trans Hb2.out Hb2.out.size HF.out)) hsz _ _ _ _ _ _ _ _ _⟩

end Go.Proofs.Ytpnbibokddhheaa

/-
  cmp.Compare and cmp.Or at ints, in plain words and walked.
-/
namespace Go.Proofs.Ytpnbibokddhheaa
open Go.RowKit Go.Sort

def cmpI (a b : Int) : Int := if a < b then -1 else if b < a then 1 else 0
theorem cmpI_cases (a b : Int) : (a < b ∧ cmpI a b = -1) ∨ (¬a < b ∧ b < a ∧ cmpI a b = 1) ∨ (¬a < b ∧ ¬b < a ∧ cmpI a b = 0) := by
  unfold cmpI
  by_cases h1 : a < b
  · exact .inl ⟨h1, by simp [h1]⟩
  · by_cases h2 : b < a
    · exact .inr (.inl ⟨h1, h2, by simp [h1, h2]⟩)
    · exact .inr (.inr ⟨h1, h2, by simp [h1, h2]⟩)
set_option maxHeartbeats 400000 in
theorem isNaN_any (a : Int) (w : World) : Calls Try.prog 95 #[.int .i64 a] w fun r w' => r = .returned (.bool false) ∧ Below w.heap.size w w' := by
  go_enter Try.func95, Try.ntmps95
  go_wp2
  go_ret
  exact ⟨by simp, Below.refl _ _⟩
set_option maxHeartbeats 1000000 in
theorem cmp_any (a b : Int) (w : World) : Calls Try.prog 74 #[.int .i64 a, .int .i64 b] w fun r w' => r = .returned (.int .i64 (cmpI a b)) ∧ Below w.heap.size w w' := by
  rcases cmpI_cases a b with ⟨h1, e⟩ | ⟨h1, h2, e⟩ | ⟨h1, h2, e⟩
  all_goals
    rw [e]
    clear e
    go_enter Try.func74, Try.ntmps74
    go_wp2_with (first
      | (have _ := Hb1.out; go_at_call 95; (with_reducible refine Calls.mono (isNaN_any _ _) ?_); rintro r w2 ⟨rfl, hb2⟩; have Hb2 := Lib.hid (Hb1.out.trans (hb2.mono Hb1.out.size)); clear hb2)
      | (go_at_call 95; (with_reducible refine Calls.mono (isNaN_any _ _) ?_); rintro r w1 ⟨rfl, hb1⟩; have Hb1 := Lib.hid hb1; clear hb1))
    go_ret
    exact ⟨rfl, Hb2.out⟩
def orL : List Int → Int
  | [] => 0
  | x :: l => if x = 0 then orL l else x
theorem orL_at : ∀ (l : List Int) (k : Nat) (hk : k < l.length), (∀ j, (hj : j < k) → l[j] = 0) → l[k] ≠ 0 → orL l = l[k]
  | x :: l, 0, _, _, h => by
    simp only [List.getElem_cons_zero] at h ⊢
    simp only [orL, if_neg h]
  | x :: l, k + 1, hk, h0, h => by
    have hx : x = 0 := h0 0 (by omega)
    simp only [orL, hx, if_true]
    exact orL_at l k (by simpa using hk) (fun j hj => h0 (j + 1) (by omega)) h
theorem orL_zero : ∀ (l : List Int), (∀ j, (hj : j < l.length) → l[j] = 0) → orL l = 0
  | [], _ => rfl
  | x :: l, h => by
    have hx : x = 0 := h 0 (by simp)
    simp only [orL, hx, if_true]
    exact orL_zero l (fun j hj => h (j + 1) (by simpa using hj))
set_option maxHeartbeats 1000000 in
theorem or_any (l : List Int) (hlen : l.length ≤ 1000) (g cap : Nat) (w : World) (hl : ∀ k, (hk : k < l.length) → w.cell? ⟨g, k, none⟩ = some (.int .i64 l[k])) (hg : g < w.heap.size) (n : Nat) (hn : n = l.length) {x : Int} (hx : orL l = x) :
    Calls Try.prog 73 #[.slice (some ⟨g, 0, none⟩) n cap] w fun r w' => r = .returned (.int .i64 x) ∧ Below w.heap.size w w' := by
  subst hn
  have Hl := Lib.hid hl
  have Hx := Lib.hid hx
  clear hl hx
  go_enter Try.func73, Try.ntmps73
  go_wp2
  go_loopw [8] (fun i wr => ∃ k : Nat, k ≤ l.length ∧ i = .int .i64 k ∧ (∀ j, (hj : j < k) → (hjl : j < l.length) → l[j] = 0) ∧ Below w.heap.size w wr) (fun i _ => l.length - (intOf i).toNat)
  case atStart => exact ⟨0, Nat.zero_le _, rfl, fun j hj => absurd hj (by omega), Below.refl _ _⟩
  case round =>
    obtain ⟨k, hk, rfl, h0, hb⟩ := hrel
    have H0 := Lib.hid h0
    have Hb := Lib.hid hb
    by_cases hlt : k < l.length
    · have e0 : wr.cell? ⟨g, k, none⟩ = some (.int .i64 l[k]) := (hb.cell hg).trans (Hl.out k hlt)
      have hat := fun h => orL_at l k hlt (fun j hj => h0 j hj (by omega)) h
      clear h0 hb
      by_cases hz : l[k] = 0
      · have Hz := Lib.hid hz
        rw [hz] at e0
        clear hz hat
        go_wp2
        go_roundw
        case measure => simp [intOf]; omega
        case rel =>
          refine ⟨k + 1, hlt, by go_num, fun j hj hjl => ?_, Hb.out⟩
          by_cases hjk : j = k
          · subst hjk; exact Hz.out
          · exact H0.out j (by omega) hjl
      · have hat := hat hz
        rw [Hx.out] at hat
        rw [← hat] at e0 hz
        have hz' : (x != 0) = true := by simpa using hz
        clear hat hz
        go_wp2
        go_ret
        exact ⟨rfl, Hb.out⟩
    · have : k = l.length := by omega
      subst this
      have hz : x = 0 := by rw [← Hx.out]; exact orL_zero l (fun j hj => h0 j hj hj)
      subst hz
      clear h0 hb
      go_wp2
      go_ret
      exact ⟨rfl, Hb.out⟩

end Go.Proofs.Ytpnbibokddhheaa

/-
  cmp.Compare and cmp.Or at ints: they leave the world as it is.
-/
namespace Go.Proofs.Ytpnbibokddhheaa
open Go.RowKit Go.Sort

set_option maxHeartbeats 400000 in
theorem isNaN_s (a : Int) (w : World) : Calls Try.prog 95 #[.int .i64 a] w fun r w' => r = .returned (.bool false) ∧ w = w' := by
  go_enter Try.func95, Try.ntmps95
  go_wp2
  go_ret
  exact ⟨by simp, rfl⟩
set_option maxHeartbeats 1000000 in
theorem cmp_s (a b : Int) (w : World) : Calls Try.prog 74 #[.int .i64 a, .int .i64 b] w fun r w' => r = .returned (.int .i64 (cmpI a b)) ∧ w = w' := by
  rcases cmpI_cases a b with ⟨h1, e⟩ | ⟨h1, h2, e⟩ | ⟨h1, h2, e⟩
  all_goals
    rw [e]
    clear e
    go_enter Try.func74, Try.ntmps74
    go_wp2_with (go_at_call 95; (with_reducible refine Calls.mono (isNaN_s _ _) ?_); rintro r w2 ⟨rfl, rfl⟩)
    go_ret
    exact ⟨rfl, rfl⟩
set_option maxHeartbeats 1000000 in
theorem or_s (l : List Int) (hlen : l.length ≤ 1000) (g cap : Nat) (w : World) (hl : ∀ k, (hk : k < l.length) → w.cell? ⟨g, k, none⟩ = some (.int .i64 l[k])) (n : Nat) (hn : n = l.length) {x : Int} (hx : orL l = x) :
    Calls Try.prog 73 #[.slice (some ⟨g, 0, none⟩) n cap] w fun r w' => r = .returned (.int .i64 x) ∧ w = w' := by
  subst hn
  have Hl := Lib.hid hl
  have Hx := Lib.hid hx
  clear hl hx
  go_enter Try.func73, Try.ntmps73
  go_wp2
  go_loop [8] (fun i => ∃ k : Nat, k ≤ l.length ∧ i = .int .i64 k ∧ (∀ j, (hj : j < k) → (hjl : j < l.length) → l[j] = 0)) (fun i => l.length - (intOf i).toNat)
  case atStart => exact ⟨0, Nat.zero_le _, rfl, fun j hj => absurd hj (by omega)⟩
  case round =>
    obtain ⟨k, hk, rfl, h0⟩ := hrel
    have H0 := Lib.hid h0
    by_cases hlt : k < l.length
    · have e0 : w.cell? ⟨g, k, none⟩ = some (.int .i64 l[k]) := Hl.out k hlt
      have hat := fun h => orL_at l k hlt (fun j hj => h0 j hj (by omega)) h
      clear h0
      by_cases hz : l[k] = 0
      · have Hz := Lib.hid hz
        rw [hz] at e0
        clear hz hat
        go_wp2
        go_round
        case measure => simp [intOf]; omega
        case rel =>
          refine ⟨k + 1, hlt, by go_num, fun j hj hjl => ?_⟩
          by_cases hjk : j = k
          · subst hjk; exact Hz.out
          · exact H0.out j (by omega) hjl
      · have hat := hat hz
        rw [Hx.out] at hat
        rw [← hat] at e0 hz
        have hz' : (x != 0) = true := by simpa using hz
        clear hat hz
        go_wp2
        go_ret
        exact ⟨rfl, rfl⟩
    · have : k = l.length := by omega
      subst this
      have hz : x = 0 := by rw [← Hx.out]; exact orL_zero l (fun j hj => h0 j hj hj)
      subst hz
      clear h0
      go_wp2
      go_ret
      exact ⟨rfl, rfl⟩

end Go.Proofs.Ytpnbibokddhheaa

/-
  A region that draws its order: operations that only read, or call what only reads, and behind them a forced tail: one walk, in a world that is the first one but for draws.
-/
namespace Go.Proofs.Ytpnbibokddhheaa
open Go.RowKit Go.Sort

theorem wp_drew_tail {P : Program} {id : Nat} {Q : Exit → Act → World → Prop} {a : Act} {w : World} {l : List Oper} (n : Nat) (hm : P.follows .mixedOrders = true) (hB : Region.lexTailB .any l.toArray n = true)
    (h : wpQuiet P l.toArray (fun w' => ∃ q, w' = w.drewN q) (fun a' => ∀ w', (∃ q, w' = w.drewN q) → wpList P l.toArray Q (l.drop n) a' w') (l.take n) a) : (Code.region id l.toArray true).wp P Q a w :=
  wp_quiet_tail (C := fun w' => ∃ q, w' = w.drewN q) n hm hB ⟨1, rfl⟩ h
/-- a function that is there is entered -/
theorem callOf {P : Program} {f : FuncId} {fn : Func} (h : P.funcs[f]? = some fn) (hb : fn.body.isNone = false) (hn : (fn.name == "runtime.NumGoroutine") = false) (xs : Array Value) (w : World) :
    (callFunc f xs).run P w = .ok (.enter f xs) w := by
  have hn' : fn.name ≠ "runtime.NumGoroutine" := by simpa using hn
  have hb' : fn.body ≠ none := by intro e; rw [e] at hb; cases hb
  simp [callFunc, go_sem, h, hb', hn']
theorem lit3 (w : World) (x0 x1 x2 : Int) (t : TypeId) : ∀ k, (hk : k < [x0, x1, x2].length) → (w.alloc (.cells #[.int .i64 x0, .int .i64 x1, .int .i64 x2] t)).cell? ⟨w.heap.size, k, none⟩ = some (.int .i64 [x0, x1, x2][k]) := by
  intro k hk
  rw [(Blk.new w t _).cell k]
  match k, hk with
  | 0, _ => rfl
  | 1, _ => rfl
  | 2, _ => rfl
theorem or3_s (a b c : Int) (W : World) : Calls Try.prog 73 #[.slice (some ⟨W.heap.size, 0, none⟩) 3 3] (W.alloc (.cells #[.int .i64 a, .int .i64 b, .int .i64 c] 3)) fun r w' => r = .returned (.int .i64 (orL [a, b, c])) ∧ W.alloc (.cells #[.int .i64 a, .int .i64 b, .int .i64 c] 3) = w' :=
  or_s [a, b, c] (by simp) W.heap.size 3 _ (lit3 _ _ _ _ _) 3 (by simp) rfl
theorem cmp_q (a b : Int) (W : World) (n : Nat) : Calls Try.prog 74 #[.int .i64 a, .int .i64 b] (W.drewN n) fun r w' => r = .returned (.int .i64 (cmpI a b)) ∧ ∃ q, w' = W.drewN q :=
  (cmp_s a b _).mono fun _ _ ⟨h1, h2⟩ => ⟨h1, n, h2.symm⟩

def cmp3 (a1 a2 a3 b1 b2 b3 : Int) : Int := orL [cmpI a1 b1, cmpI a2 b2, cmpI a3 b3]
/-- less by three numbers, the first one first -/
def less3 (a1 a2 a3 b1 b2 b3 : Int) : Bool := decide (a1 < b1) || (a1 == b1) && (decide (a2 < b2) || (a2 == b2) && decide (a3 < b3))
theorem cmp3_less (a1 a2 a3 b1 b2 b3 : Int) : decide (cmp3 a1 a2 a3 b1 b2 b3 < 0) = less3 a1 a2 a3 b1 b2 b3 := by
  unfold cmp3 less3
  rcases cmpI_cases a1 b1 with ⟨h, e⟩ | ⟨h, h', e⟩ | ⟨h, h', e⟩ <;> rw [e] <;> rcases cmpI_cases a2 b2 with ⟨g, e2⟩ | ⟨g, g', e2⟩ | ⟨g, g', e2⟩ <;> rw [e2] <;> rcases cmpI_cases a3 b3 with ⟨k, e3⟩ | ⟨k, k', e3⟩ | ⟨k, k', e3⟩ <;> rw [e3] <;> simp [orL] <;> omega

end Go.Proofs.Ytpnbibokddhheaa

/-
  Worlds that are a first one but for draws and new blocks: regions that draw their order walk in that class.
-/
namespace Go.Proofs.Ytpnbibokddhheaa
open Go.RowKit Go.Sort

structure GD where
  q : Nat
  os : Array Obj
instance : Nonempty GD := ⟨⟨0, #[]⟩⟩
theorem gd_gd (w : World) (q q' : Nat) (os os' : Array Obj) : grow ((grow (w.drewN q) os).drewN q') os' = grow (w.drewN (q + q')) (os ++ os') := by
  simp [grow, World.drewN, Nat.add_assoc]
theorem gd_drew (w : World) (q : Nat) (os : Array Obj) : (grow (w.drewN q) os).drew = grow (w.drewN (q + 1)) os := rfl
theorem gd_alloc (w : World) (q : Nat) (os : Array Obj) (o : Obj) : (grow (w.drewN q) os).alloc o = grow (w.drewN q) (os.push o) := by
  rw [alloc_eq_grow, grow_grow]; rfl
theorem gd_zero (w : World) : w = grow (w.drewN 0) #[] := by simp [World.drewN]
theorem cell_gd {w : World} {p : Addr} {v : Value} (h : w.cell? p = some v) : ∀ q os, (grow (w.drewN q) os).cell? p = some v := fun q os => by
  have hb := World.block_lt_of_cell? w _ h
  rw [cell?_grow (w.drewN q) os p (by exact hb)]
  exact h
theorem below_gd (w : World) (q : Nat) (os : Array Obj) : Below w.heap.size w (grow (w.drewN q) os) :=
  ⟨rfl, rfl, rfl, by simp [grow, World.drewN], fun k hk => by rw [heap_grow_old _ _ (by exact hk)]; rfl⟩
/-- A contract whose world is known but for draws and new blocks, from any world of the class. -/
theorem gd_of {f : FuncId} {args : Array Value} {w : World} {q : Nat} {os : Array Obj} {R : Ending → Prop} (h : Calls Try.prog f args (grow (w.drewN q) os) fun r w' => R r ∧ ∃ q' os', w' = grow ((grow (w.drewN q) os).drewN q') os') :
    Calls Try.prog f args (grow (w.drewN q) os) fun r w' => R r ∧ ∃ p : GD, w' = grow (w.drewN p.q) p.os :=
  h.mono fun r w' ⟨h1, q', os', h2⟩ => ⟨h1, ⟨q + q', os ++ os'⟩, by rw [h2, gd_gd]⟩
theorem wp_gd_tail {P : Program} {id : Nat} {Q : Exit → Act → World → Prop} {a : Act} {w : World} {l : List Oper} (n : Nat) (hm : P.follows .mixedOrders = true) (hB : Region.lexTailB .any l.toArray n = true)
    (h : wpQuiet P l.toArray (fun w' => ∃ p : GD, w' = grow (w.drewN p.q) p.os) (fun a' => ∀ w', (∃ p : GD, w' = grow (w.drewN p.q) p.os) → wpList P l.toArray Q (l.drop n) a' w') (l.take n) a) : (Code.region id l.toArray true).wp P Q a w :=
  wp_quiet_tail (C := fun w' => ∃ p : GD, w' = grow (w.drewN p.q) p.os) n hm hB ⟨⟨1, #[]⟩, by rw [grow_empty]; rfl⟩ h

end Go.Proofs.Ytpnbibokddhheaa

/-
  Keys in order, in plain words.
-/
namespace Go.Proofs.Ytpnbibokddhheaa

def cmpK (a b : K3) : Int := cmp3 a.kind a.id a.adv b.kind b.id b.adv
def lessK (a b : K3) : Bool := less3 a.kind a.id a.adv b.kind b.id b.adv
theorem cmpK_less (a b : K3) : decide (cmpK a b < 0) = lessK a b := cmp3_less _ _ _ _ _ _
def sortK (L : List K3) : List K3 := L.mergeSort fun x y => !lessK y x
theorem lessK_iff (a b : K3) : lessK a b = true ↔ a.kind < b.kind ∨ (a.kind = b.kind ∧ (a.id < b.id ∨ (a.id = b.id ∧ a.adv < b.adv))) := by
  simp [lessK, less3]
theorem lessK_irr (a : K3) : lessK a a = false := by
  rw [Bool.eq_false_iff]; intro h; rw [lessK_iff] at h; omega
theorem lessK_tot {a b : K3} (h1 : lessK a b = false) (h2 : lessK b a = false) : a = b := by
  rw [Bool.eq_false_iff, ne_eq, lessK_iff] at h1 h2
  obtain ⟨a1, a2, a3⟩ := a
  obtain ⟨b1, b2, b3⟩ := b
  simp only at h1 h2
  simp only [K3.mk.injEq]
  omega
theorem lessK_trans {a b c : K3} (h1 : lessK a b = true) (h2 : lessK b c = true) : lessK a c = true := by
  rw [lessK_iff] at *; omega
theorem lessK_ntrans {a b c : K3} (h1 : lessK a b = false) (h2 : lessK b c = false) : lessK a c = false := by
  rw [Bool.eq_false_iff, ne_eq, lessK_iff] at *; omega
theorem sortK_perm (L : List K3) : (sortK L).Perm L := List.mergeSort_perm _ _
theorem sortK_len (L : List K3) : (sortK L).length = L.length := (sortK_perm L).length_eq
theorem sortK_sorted (L : List K3) : (sortK L).Pairwise fun x y => lessK y x = false := by
  have := List.pairwise_mergeSort (le := fun x y => !lessK y x) (fun a b c h1 h2 => by
    simp only [Bool.not_eq_true'] at *
    exact lessK_ntrans h2 h1) (fun a b => by
    cases h : lessK b a
    · simp
    · cases h' : lessK a b
      · simp
      · exact absurd (lessK_trans h h') (by rw [lessK_irr]; simp)) L
  exact this.imp fun {a b} h => by simpa using h
/-- two lists of the same keys, both in order, are one -/
theorem sorted_one : ∀ {L M : List K3}, L.Perm M → (L.Pairwise fun x y => lessK y x = false) → (M.Pairwise fun x y => lessK y x = false) → L = M
  | [], M, hp, _, _ => by simpa using hp.symm.eq_nil
  | x :: L, [], hp, _, _ => by simpa using hp.eq_nil
  | x :: L, y :: M, hp, h1, h2 => by
    rw [List.pairwise_cons] at h1 h2
    have hxy : x = y := by
      have hx : x ∈ y :: M := hp.subset (by simp)
      have hy : y ∈ x :: L := hp.symm.subset (by simp)
      rcases List.mem_cons.1 hx with e | hx
      · exact e
      · rcases List.mem_cons.1 hy with e | hy
        · exact e.symm
        · exact lessK_tot (h2.1 x hx) (h1.1 y hy)
    subst hxy
    rw [sorted_one (List.Perm.cons_inv hp) h1.2 h2.2]
theorem sortK_of_perm {L M : List K3} (h : L.Perm M) : sortK L = sortK M := sorted_one (((sortK_perm L).trans h).trans (sortK_perm M).symm) (sortK_sorted L) (sortK_sorted M)
theorem sortK_of_sorted {L : List K3} (h : L.Pairwise fun x y => lessK y x = false) : sortK L = L := sorted_one (sortK_perm L) (sortK_sorted L) h

end Go.Proofs.Ytpnbibokddhheaa

/-
  Layer 15: what is wanted, in plain words: heads by their keys.
-/
namespace Go.Proofs.Ytpnbibokddhheaa

def keyH (h : Hd) : K3 := ⟨h.kind, h.id, h.adv⟩
def aggH (h : Hd) : Value := .agg h.cells.toArray
def waL (M : List Hd) : List (K3 × Value) := M.map fun h => (keyH h, aggH h)
def getH (k : K3) : List Hd → Option Hd
  | [] => none
  | x :: M => if keyH x = k then some x else getH k M
def setH (h : Hd) : List Hd → List Hd
  | [] => [h]
  | x :: M => if keyH x = keyH h then h :: M else x :: setH h M
def dropH (k : K3) (M : List Hd) : List Hd := M.filter fun x => decide (keyH x ≠ k)
theorem getL_wa (k : K3) : ∀ M : List Hd, getL k (waL M) = (getH k M).map aggH
  | [] => rfl
  | x :: M => by
    have ih := getL_wa k M
    unfold waL at ih ⊢
    by_cases hx : keyH x = k
    · simp [getL, getH, hx]
    · simp [getL, getH, hx, ih]
theorem setL_wa (h : Hd) : ∀ M : List Hd, setL (keyH h) (aggH h) (waL M) = waL (setH h M)
  | [] => rfl
  | x :: M => by
    have ih := setL_wa h M
    unfold waL at ih ⊢
    by_cases hx : keyH x = keyH h
    · simp [setL, setH, hx]
    · simp [setL, setH, hx, ih]
theorem dropL_wa (k : K3) (M : List Hd) : dropL k (waL M) = waL (dropH k M) := by
  unfold dropL waL dropH
  rw [List.filter_map]
  rfl
theorem fst_wa (M : List Hd) : (waL M).map (·.1) = M.map keyH := by simp [waL, Function.comp_def]

/-- the document's list is in order -/
def sortedH (L : List Hd) : Prop := L.Pairwise fun x y => lessK (keyH x) (keyH y) = true
theorem sortedH.keys {L : List Hd} (h : sortedH L) : (L.map keyH).Nodup := by
  unfold sortedH at h
  rw [List.Nodup, List.pairwise_map]
  exact h.imp fun {a b} hab e => by rw [e, lessK_irr] at hab; cases hab
theorem getH_mem {k : K3} : ∀ {M : List Hd} {x : Hd}, getH k M = some x → x ∈ M ∧ keyH x = k
  | y :: M, x, h => by
    unfold getH at h
    by_cases hy : keyH y = k
    · rw [if_pos hy] at h
      injection h with h
      subst h
      exact ⟨by simp, hy⟩
    · rw [if_neg hy] at h
      have := getH_mem h
      exact ⟨by simp [this.1], this.2⟩
theorem getH_none {k : K3} : ∀ {M : List Hd}, getH k M = none ↔ ∀ x ∈ M, keyH x ≠ k
  | [] => by simp [getH]
  | y :: M => by
    unfold getH
    by_cases hy : keyH y = k
    · simp [hy]
    · simp [hy, getH_none (M := M)]
theorem getH_of {M : List Hd} (hn : (M.map keyH).Nodup) {x : Hd} (hx : x ∈ M) : getH (keyH x) M = some x := by
  induction M with
  | nil => simp at hx
  | cons y M ih =>
    simp only [List.map_cons, List.nodup_cons] at hn
    unfold getH
    by_cases hy : keyH y = keyH x
    · rw [if_pos hy]
      rcases List.mem_cons.1 hx with e | hx
      · rw [e]
      · exact absurd (by rw [hy]; exact List.mem_map_of_mem hx) hn.1
    · rw [if_neg hy]
      rcases List.mem_cons.1 hx with e | hx
      · exact absurd (by rw [e]) hy
      · exact ih hn.2 hx
theorem getH_perm {M L : List Hd} (hp : M.Perm L) (hn : (M.map keyH).Nodup) (k : K3) : getH k M = getH k L := by
  have hn' : (L.map keyH).Nodup := (hp.map keyH).nodup_iff.1 hn
  cases h : getH k L with
  | none => rw [getH_none] at h ⊢; exact fun x hx => h x (hp.subset hx)
  | some x =>
    obtain ⟨h1, h2⟩ := getH_mem h
    subst h2
    exact getH_of hn (hp.symm.subset h1)
theorem setH_perm (h : Hd) : ∀ {M : List Hd}, (M.map keyH).Nodup → (setH h M).Perm (h :: dropH (keyH h) M)
  | [], _ => by simp [setH, dropH]
  | x :: M, hn => by
    simp only [List.map_cons, List.nodup_cons] at hn
    unfold setH
    by_cases hx : keyH x = keyH h
    · rw [if_pos hx]
      have : dropH (keyH h) (x :: M) = M := by
        unfold dropH
        rw [List.filter_cons_of_neg (by simp [hx])]
        exact List.filter_eq_self.2 fun y hy => by simpa using fun e => hn.1 (by rw [hx, ← e]; exact List.mem_map_of_mem hy)
      rw [this]
    · rw [if_neg hx]
      have : dropH (keyH h) (x :: M) = x :: dropH (keyH h) M := by unfold dropH; rw [List.filter_cons_of_pos (by simp [hx])]
      rw [this]
      exact ((setH_perm h hn.2).cons x).trans (List.Perm.swap _ _ _)
theorem setH_keys {h : Hd} : ∀ {L : List Hd}, (∃ x ∈ L, keyH x = keyH h) → (setH h L).map keyH = L.map keyH
  | [], hx => by obtain ⟨x, hx, _⟩ := hx; simp at hx
  | y :: L, hx => by
    unfold setH
    by_cases hy : keyH y = keyH h
    · rw [if_pos hy]; simp [hy]
    · rw [if_neg hy]
      obtain ⟨x, hx1, hx2⟩ := hx
      rcases List.mem_cons.1 hx1 with e | hx1
      · exact absurd (by rw [← e]; exact hx2) hy
      · simp [setH_keys (L := L) ⟨x, hx1, hx2⟩]
theorem sorted_keys {L L' : List Hd} (h : sortedH L) (e : L'.map keyH = L.map keyH) : sortedH L' := by
  unfold sortedH at *
  have h1 : (L.map keyH).Pairwise fun x y => lessK x y = true := by rw [List.pairwise_map]; exact h
  rw [← e, List.pairwise_map] at h1
  exact h1
def insH (h : Hd) : List Hd → List Hd
  | [] => [h]
  | x :: L => if lessK (keyH h) (keyH x) = true then h :: x :: L else x :: insH h L
theorem insH_perm (h : Hd) : ∀ L : List Hd, (insH h L).Perm (h :: L)
  | [] => List.Perm.refl _
  | x :: L => by
    unfold insH
    split
    · exact List.Perm.refl _
    · exact ((insH_perm h L).cons x).trans (List.Perm.swap _ _ _)
theorem insH_sorted {h : Hd} : ∀ {L : List Hd}, sortedH L → (∀ x ∈ L, keyH x ≠ keyH h) → sortedH (insH h L)
  | [], _, _ => by simp [insH, sortedH]
  | x :: L, hs, hne => by
    unfold sortedH at hs
    rw [List.pairwise_cons] at hs
    unfold insH
    by_cases hl : lessK (keyH h) (keyH x) = true
    · rw [if_pos hl]
      unfold sortedH
      rw [List.pairwise_cons, List.pairwise_cons]
      refine ⟨fun y hy => ?_, hs⟩
      rcases List.mem_cons.1 hy with e | hy
      · rw [e]; exact hl
      · exact lessK_trans hl (hs.1 y hy)
    · rw [if_neg hl]
      unfold sortedH
      rw [List.pairwise_cons]
      refine ⟨fun y hy => ?_, insH_sorted hs.2 fun z hz => hne z (by simp [hz])⟩
      have hy' := (insH_perm h L).subset hy
      rcases List.mem_cons.1 hy' with e | hy'
      · rw [e]
        cases hx : lessK (keyH x) (keyH h) with
        | true => rfl
        | false => exact absurd (lessK_tot hx (by simpa using hl)) (hne x (by simp))
      · exact hs.1 y hy'
theorem sortedH_one : ∀ {L M : List Hd}, L.Perm M → sortedH L → sortedH M → L = M
  | [], M, hp, _, _ => by simpa using hp.symm.eq_nil
  | x :: L, [], hp, _, _ => by simpa using hp.eq_nil
  | x :: L, y :: M, hp, h1, h2 => by
    unfold sortedH at h1 h2
    rw [List.pairwise_cons] at h1 h2
    have hxy : x = y := by
      rcases List.mem_cons.1 (hp.subset (List.mem_cons_self (a := x) (l := L))) with e | hx
      · exact e
      · rcases List.mem_cons.1 (hp.symm.subset (List.mem_cons_self (a := y) (l := M))) with e | hy
        · exact e.symm
        · have h3 := lessK_trans (h2.1 x hx) (h1.1 y hy)
          rw [lessK_irr] at h3
          cases h3
    subst hxy
    rw [sortedH_one (List.Perm.cons_inv hp) h1.2 h2.2]

/-- the map's heads and the document's list -/
structure WEq (M L : List Hd) : Prop where
  perm : M.Perm L
  sorted : sortedH L
section
variable {M L : List Hd}
theorem WEq.nil : WEq [] [] := ⟨List.Perm.refl _, by simp [sortedH]⟩
theorem WEq.keys (h : WEq M L) : (M.map keyH).Nodup := (h.perm.map keyH).nodup_iff.2 h.sorted.keys
theorem WEq.get (h : WEq M L) (k : K3) : getH k M = getH k L := getH_perm h.perm h.keys k
theorem WEq.len (h : WEq M L) : M.length = L.length := h.perm.length_eq
theorem WEq.drop (h : WEq M L) (k : K3) : WEq (dropH k M) (dropH k L) := ⟨h.perm.filter _, h.sorted.sublist List.filter_sublist⟩
theorem WEq.set (h : WEq M L) {x : Hd} {y : Hd} (hx : getH (keyH y) L = some x) : WEq (setH y M) (setH y L) := by
  obtain ⟨h1, h2⟩ := getH_mem hx
  exact ⟨((setH_perm y h.keys).trans ((h.perm.filter _).cons y)).trans (setH_perm y h.sorted.keys).symm, sorted_keys h.sorted (setH_keys ⟨x, h1, h2⟩)⟩
theorem WEq.ins (h : WEq M L) {y : Hd} (hy : getH (keyH y) L = none) : WEq (setH y M) (insH y L) := by
  rw [getH_none] at hy
  refine ⟨(setH_perm y h.keys).trans (List.Perm.trans ?_ (insH_perm y L).symm), insH_sorted h.sorted hy⟩
  have : dropH (keyH y) L = L := List.filter_eq_self.2 fun z hz => by simpa using hy z hz
  have h3 := h.perm.filter (fun x => decide (keyH x ≠ keyH y))
  unfold dropH at this ⊢
  rw [this] at h3
  exact h3.cons y
end

/-- one head is added: on either side -/
def addM (nw : Hd → Hd → Int) (M : List Hd) (h : Hd) : List Hd := match getH (keyH h) M with
  | some x => if 0 < nw h x then setH h M else M
  | none => setH h M
def addD (nw : Hd → Hd → Int) (L : List Hd) (h : Hd) : List Hd := match getH (keyH h) L with
  | some x => if 0 < nw h x then setH h L else L
  | none => insH h L
theorem WEq.add {M L : List Hd} (h : WEq M L) (nw : Hd → Hd → Int) (y : Hd) : WEq (addM nw M y) (addD nw L y) := by
  unfold addM addD
  rw [h.get]
  cases hx : getH (keyH y) L with
  | none => exact h.ins hx
  | some x =>
    simp only
    by_cases h1 : 0 < nw y x
    · rw [if_pos h1, if_pos h1]; exact h.set hx
    · rw [if_neg h1, if_neg h1]; exact h

end Go.Proofs.Ytpnbibokddhheaa
