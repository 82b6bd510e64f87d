/-
  Numbers of two bytes, read: the program's way.
-/
import Derived.StillTailTactics
import Derived.WalkMore
import Derived.Laws.CopyOwn
import Derived.ArgAppend
import Derived.RegionTactic
import Derived.Test.YtpnbibokddhheaaGreatBaa
import Derived.Test.YtpnbibokddhheaaGreatBab
import Derived.Test.YtpnbibokddhheaaGreatBac
import Derived.Test.YtpnbibokddhheaaGreatBae
namespace Go.Proofs.YtpnbibokddhheaaGreat
open Go.RowKit

theorem or_two (x y : Int) (hx : byteOk x) (hy : byteOk y) : ((BitVec.ofInt 64 (x * 256) ||| BitVec.ofInt 64 y).toNat : Int) = x * 256 + y := by
  obtain ⟨a, rfl⟩ := Int.eq_ofNat_of_zero_le hx.1
  obtain ⟨b, rfl⟩ := Int.eq_ofNat_of_zero_le hy.1
  have ha : a < 256 := by have := hx.2; omega
  have hb : b < 256 := by have := hy.2; omega
  have e1 : (BitVec.ofInt 64 ((a : Int) * 256)).toNat = a * 256 := by
    rw [show ((a : Int) * 256) = ((a * 256 : Nat) : Int) by simp, BitVec.ofInt_natCast, BitVec.toNat_ofNat]
    exact Nat.mod_eq_of_lt (by omega)
  have e2 : (BitVec.ofInt 64 (b : Int)).toNat = b := by
    rw [BitVec.ofInt_natCast, BitVec.toNat_ofNat]
    exact Nat.mod_eq_of_lt (by omega)
  rw [BitVec.toNat_or, e1, e2]
  have := Nat.shiftLeft_add_eq_or_of_lt (b := b) (i := 8) (by omega) a
  rw [Nat.shiftLeft_eq] at this
  rw [← this]
  simp

theorem own_some0 {w : World} {B n : Nat} {v : Value} {L : List Int} (h : OwnB w B v L) (hn : L.length = n) (h0 : 0 < n) : ∃ g c, n ≤ c ∧ v = .slice (some ⟨g, 0, none⟩) n c := by
  subst hn
  rcases h.shape2 with ⟨-, hl⟩ | ⟨g, c5, rfl, hc5⟩
  · rw [hl] at h0; simp at h0
  · exact ⟨g, c5, hc5, rfl⟩
theorem bits_or (x y : Int) (hx : byteOk x) (hy : byteOk y) : bits BinOp.or IntKind.i64 (x * 256) y = x * 256 + y := by
  have h := or_two x y hx hy
  have h1 := hx.1; have h2 := hx.2; have h3 := hy.1; have h4 := hy.2
  have e : bits BinOp.or IntKind.i64 (x * 256) y = IntKind.i64.wrap ((BitVec.ofInt 64 (x * 256) ||| BitVec.ofInt 64 y).toNat : Int) := rfl
  rw [e, h]
  simp only [IntKind.wrap, IntKind.bits, IntKind.signed]
  simp
  omega
theorem wrap_byte {y : Int} (hy : byteOk y) : wrap64 y = y := by
  have h3 := hy.1; have h4 := hy.2
  unfold wrap64
  omega
theorem copy_two {w : World} {ops : Array Oper} {rest : List Oper} {o : Oper} {a : Act} {Q : Exit → Act → World → Prop} (hgd : o.guard = none) (d s : Operand)
    (ho : o.op = .call { callee := .builtin .copy, args := #[d, s], argTypes := #[24, 24] }) (k g f c : Nat) (hd : a.eval d = .slice (some ⟨k, 0, none⟩) 2 2) (hs : a.eval s = .slice (some ⟨g, f, none⟩) 2 c)
    (hk : w.heap[k]? = some (.cells #[.int .u8 0, .int .u8 0] 5 (0, 0))) (x y : Int) (h0 : w.cell? ⟨g, f, none⟩ = some (.int .u8 x)) (h1 : w.cell? ⟨g, f + 1, none⟩ = some (.int .u8 y)) (B : Nat) (w0 : World) (hb : Below B w0 w) (hBk : B ≤ k)
    (h : ∀ w', Hid (w'.heap[k]? = some (.cells #[.int .u8 x, .int .u8 y] 5 (0, 0))) → Below B w0 w' → wpList Tryz.prog ops Q rest (a.put o.dst (goInt 2)) w') : wpList Tryz.prog ops Q (o :: rest) a w := by
  refine wpList_copy_splice hgd d s 24 24 ho 5 Tryz.underlying24 (by kernel_rfl) (some ⟨k, 0, none⟩) (some ⟨g, f, none⟩) 2 2 2 c hd hs k 0 [Value.int .u8 0, Value.int .u8 0] 5 hk [.int .u8 x, .int .u8 y] rfl (fun _ => ⟨rfl, _, rfl, fun j v hj => ?_⟩) (by simp) (fun v hv => ?_) B w0 hb hBk ?_
  · rw [Addr.add_lit]
    match j, hj with
    | 0, hj => injection hj with hj; subst hj; exact h0
    | 1, hj => injection hj with hj; subst hj; exact h1
    | (j + 2), hj => simp at hj
  · simp at hv
    rcases hv with rfl | rfl <;> rfl
  · intro w' hw' hbw
    exact h w' hw' hbw
theorem below_new0 (W : World) (o : Obj) : Below W.heap.size W (W.alloc o) := (Below.refl _ _).alloc (Nat.le_refl _) o
set_option maxHeartbeats 4000000 in
set_option maxRecDepth 100000 in
theorem copied_two (g o c : Nat) (a b : Int) (w : World) (hg : g < w.heap.size) (h0 : w.cell? ⟨g, o, none⟩ = some (.int .u8 a)) (h1 : w.cell? ⟨g, o + 1, none⟩ = some (.int .u8 b)) :
    Calls Tryz.prog 188 #[.slice (some ⟨g, o, none⟩) 2 c] w fun r w' => ∃ k, r = .returned (.slice (some ⟨k, 0, none⟩) 2 2) ∧ w'.cell? ⟨k, 0, none⟩ = some (.int .u8 a) ∧ w'.cell? ⟨k, 1, none⟩ = some (.int .u8 b) ∧ w.heap.size ≤ k ∧ Below w.heap.size w w' := by
  have hmk : ∀ w : World, (Instr.makeSlice 24 (.int .i64 2) (.int .i64 2)).run Tryz.prog w = .ok (.slice (some ⟨w.heap.size, 0, none⟩) 2 2) (w.alloc (.cells #[.int .u8 0, .int .u8 0] 5)) := fun _ => by kernel_rfl
  have hb1 := below_new0 w (.cells #[.int .u8 0, .int .u8 0] 5)
  have hk1 : (w.alloc (.cells #[.int .u8 0, .int .u8 0] 5)).heap[w.heap.size]? = some (.cells [Value.int .u8 0, Value.int .u8 0].toArray 5 (0, 0)) := heap_alloc_new w _
  have Hb1 := Lib.hid hb1
  have Hk1 := Lib.hid hk1
  have g0 : (w.alloc (.cells #[.int .u8 0, .int .u8 0] 5)).cell? ⟨g, o, none⟩ = some (.int .u8 a) := by rw [← h0]; exact hb1.cell (p := ⟨g, o, none⟩) hg
  have g1 : (w.alloc (.cells #[.int .u8 0, .int .u8 0] 5)).cell? ⟨g, o + 1, none⟩ = some (.int .u8 b) := by rw [← h1]; exact hb1.cell (p := ⟨g, o + 1, none⟩) hg
  have G0 := Lib.hid g0
  have G1 := Lib.hid g1
  clear hb1 hk1 g0 g1
  go_enter Tryz.func188, Tryz.ntmps188
  go_wp2_with (refine copy_two (o := ⟨some 9, _, _, _, _, _⟩) (by rfl) (.tmp 7) (.tmp 8) (by rfl) w.heap.size g o c (by rfl) (by rfl) Hk1.out a b G0.out G1.out w.heap.size w Hb1.out (Nat.le_refl _) ?_; intro w3 hg3 hb3)
  go_ret
  have hk : w3.heap[w.heap.size]? = some (.cells #[.int .u8 a, .int .u8 b] 5 (0, 0)) := hg3.out
  refine ⟨_, rfl, ?_, ?_, Nat.le_refl _, hb3⟩
  · simp [World.cell?, hk]
  · simp [World.cell?, hk]

set_option maxHeartbeats 4000000 in
set_option maxRecDepth 100000 in
theorem bytes_two (k g f N c at_ : Nat) (a b : Int) (w : World) (hk : Blk w k 224 #[.slice (some ⟨g, f, none⟩) N c, .int .i64 (at_ : Int), .int .i64 0]) (hg : g < w.heap.size) (hgk : g ≠ k) (h0 : w.cell? ⟨g, f + at_, none⟩ = some (.int .u8 a)) (h1 : w.cell? ⟨g, f + at_ + 1, none⟩ = some (.int .u8 b)) (hN : at_ + 2 ≤ N) (hc : N ≤ c) (hm : N ≤ 2 ^ 20) :
    Calls Tryz.prog 133 #[.pointer (some ⟨k, 0, none⟩), .int .i64 2] w fun r w' => ∃ m, r = .returned (.slice (some ⟨m, 0, none⟩) 2 2) ∧ w'.cell? ⟨m, 0, none⟩ = some (.int .u8 a) ∧ w'.cell? ⟨m, 1, none⟩ = some (.int .u8 b) ∧ Blk w' k 224 #[.slice (some ⟨g, f, none⟩) N c, .int .i64 ((at_ : Int) + 2), .int .i64 0] ∧ w.grownBy w' (some k) := by
  have z0 := hk.cell 0
  have z1 := hk.cell 1
  have z2 := hk.cell 2
  have q0 := hk.frozen 0
  have q1 := hk.frozen 1
  have q2 := hk.frozen 2
  simp at z0 z1 z2
  have hmx : max (2 : Int) 0 = 2 := rfl
  have hn1 : ¬ ((N : Int) - (at_ : Int) < 2) := by omega
  go_enter Tryz.func133, Tryz.ntmps133
  go_wp2
  go_step3
  go_upto_region 3 with fail
  go_region
  go_upto_region 6 with fail
  have hk5 : Blk (w.setCell ⟨k, 1, none⟩ (.int .i64 ((at_ : Int) + 2))).drew k 224 #[.slice (some ⟨g, f, none⟩) N c, .int .i64 ((at_ : Int) + 2), .int .i64 0] := by
    have := hk.set_ 1 (.int .i64 ((at_ : Int) + 2))
    simpa [Blk, World.drew] using this
  have hgr : w.grownBy (w.setCell ⟨k, 1, none⟩ (.int .i64 ((at_ : Int) + 2))).drew (some k) := ⟨rfl, rfl, rfl, by simp [World.setCell, World.drew], fun j hj hjk => Below.heap_setCell _ _ _ _ (fun e => hjk (by rw [e]))⟩
  have c0 : (w.setCell ⟨k, 1, none⟩ (.int .i64 ((at_ : Int) + 2))).drew.cell? ⟨g, f + at_, none⟩ = some (.int .u8 a) := by rw [← h0]; exact World.cell?_of_block (w := w) (hgr.block g hg (fun e => hgk (Option.some.inj e)))
  have c1 : (w.setCell ⟨k, 1, none⟩ (.int .i64 ((at_ : Int) + 2))).drew.cell? ⟨g, f + at_ + 1, none⟩ = some (.int .u8 b) := by rw [← h1]; exact World.cell?_of_block (w := w) (hgr.block g hg (fun e => hgk (Option.some.inj e)))
  have hkl : k < w.heap.size := hk.lt
  have hsz5 : (w.setCell ⟨k, 1, none⟩ (.int .i64 ((at_ : Int) + 2))).drew.heap.size = w.heap.size := by simp [World.setCell, World.drew]
  obtain ⟨w5, hw5⟩ : ∃ w5, (w.setCell ⟨k, 1, none⟩ (.int .i64 ((at_ : Int) + 2))).drew = w5 := ⟨_, rfl⟩
  rw [hw5] at hk5 hgr c0 c1 hsz5 ⊢
  have hs1 : (at_ : Int) + 2 - 2 = at_ := by omega
  have hs2 : at_ + 2 - at_ = 2 := by omega
  have hs3 : ((at_ : Int) + 2).toNat = at_ + 2 := by omega
  have HC := Lib.hid (copied_two g (f + at_) (c - at_) a b w5.drew (by show g < w5.heap.size; omega) c0 c1)
  have Hk5 := Lib.hid hk5
  have Hgr := Lib.hid hgr
  have Hsz := Lib.hid hsz5
  clear hw5 hk hgr h0 h1 z0 z1 z2 q0 q1 q2 hn1 c0 c1 hsz5
  have z0 := hk5.cell 0
  have z1 := hk5.cell 1
  have z2 := hk5.cell 2
  simp at z0 z1 z2
  clear hk5
  have hc2 : (at_ : Int) + 2 ≤ (c : Int) := by omega
  have hc3 : ¬ c = at_ := by omega
  have hc4 : (at_ : Int) ≤ (at_ : Int) + 2 := by omega
  have hc5 : 0 ≤ (at_ : Int) + 2 := by omega
  refine wp_draw_tail 14 (by kernel_rfl) (by kernel_rfl) ?_
  intro w6 hw6 hcell hfroz hs6 hs7
  have HC6 := Lib.hid (show Calls Tryz.prog 188 #[.slice (some ⟨g, f + at_, none⟩) 2 (c - at_)] w6 _ from by rw [hw6.out]; exact HC.out)
  have x0 : w6.cell? ⟨k, 0, none⟩ = some (.slice (some ⟨g, f, none⟩) N c) := (hcell _).trans z0
  have x1 : w6.cell? ⟨k, 1, none⟩ = some (.int .i64 ((at_ : Int) + 2)) := (hcell _).trans z1
  clear hcell hfroz hs6 hs7
  simp only [List.take_succ_cons, List.take_zero, List.drop_succ_cons, List.drop_zero]
  repeat still_step
  refine wpStill_nil ?_
  go_wp2_with (go_at_call 188; (with_reducible refine Calls.mono HC6.out ?_); rintro r w7 ⟨m, rfl, m0, m1, -, hb7⟩; have Hb7 := Lib.hid hb7; have HM0 := Lib.hid m0; have HM1 := Lib.hid m1; clear hb7 m0 m1)
  rw [Exit.noGoto_ret]
  go_ret
  refine ⟨m, rfl, HM0.out, HM1.out, ?_, ?_⟩
  · refine Blk.below ?_ Hb7.out ?_
    · exact Hk5.out
    · exact Hk5.out.lt
  · have h6 : w.grownBy w5.drew (some k) := ⟨Hgr.out.os, Hgr.out.tape, Hgr.out.output, Hgr.out.size, Hgr.out.block⟩
    exact ⟨Hb7.out.os.trans h6.os, Hb7.out.tape.trans h6.tape, Hb7.out.output.trans h6.output, Nat.le_trans h6.size Hb7.out.size, fun j hj hjk => (Hb7.out.block j (Nat.lt_of_lt_of_le hj h6.size)).trans (h6.block j hj hjk)⟩

set_option maxHeartbeats 4000000 in
set_option maxRecDepth 100000 in
theorem num_two (k g f N c at_ : Nat) (a b : Int) (w : World) (hk : Blk w k 224 #[.slice (some ⟨g, f, none⟩) N c, .int .i64 (at_ : Int), .int .i64 0]) (hg : g < w.heap.size) (hgk : g ≠ k) (h0 : w.cell? ⟨g, f + at_, none⟩ = some (.int .u8 a)) (h1 : w.cell? ⟨g, f + at_ + 1, none⟩ = some (.int .u8 b)) (ha : byteOk a) (hbk : byteOk b) (hN : at_ + 2 ≤ N) (hc : N ≤ c) (hm : N ≤ 2 ^ 20) :
    Calls Tryz.prog 92 #[.pointer (some ⟨k, 0, none⟩), .int .i64 2] w fun r w' => r = .returned (.int .i64 (a * 256 + b)) ∧ Blk w' k 224 #[.slice (some ⟨g, f, none⟩) N c, .int .i64 ((at_ : Int) + 2), .int .i64 0] ∧ w.grownBy w' (some k) := by
  have HB := Lib.hid (bytes_two k g f N c at_ a b w hk hg hgk h0 h1 hN hc hm)
  have Ha := Lib.hid ha
  have Hbk := Lib.hid hbk
  have HW := Lib.hid (wide_v 2 (by decide) (by decide))
  clear hk h0 h1 ha hbk hN hc hm
  go_enter Tryz.func92, Tryz.ntmps92
  go_wp2_with (first
    | (go_at_call 134; (with_reducible refine Calls.mono (HW.out _) ?_); rintro r w2 ⟨rfl, rfl⟩)
    | (go_at_call 133; (with_reducible refine Calls.mono HB.out ?_); rintro r w2 ⟨m, rfl, m0, m1, hk2, hg2⟩; have Hk2 := Lib.hid hk2; have Hg2 := Lib.hid hg2; clear hk2 hg2))
  go_loopw [5, 13] (fun o i wr => wr = w2 ∧ ((o = .int .i64 0 ∧ i = .int .i64 0) ∨ (o = .int .i64 a ∧ i = .int .i64 1) ∨ (o = .int .i64 (a * 256 + b) ∧ i = .int .i64 2))) (fun _ i _ => (2 - (intOf i)).toNat)
  case atStart => exact ⟨rfl, .inl ⟨rfl, rfl⟩⟩
  case round =>
    obtain ⟨rfl, ⟨rfl, rfl⟩ | ⟨rfl, rfl⟩ | ⟨rfl, rfl⟩⟩ := hrel
    · go_wp2
      go_roundw
      case measure => simp [intOf]
      case rel =>
        refine ⟨trivial, .inr (.inl ⟨?_, rfl⟩)⟩
        have := bits_or 0 a ⟨by decide, by decide⟩ Ha.out
        rw [wrap_byte Ha.out]
        simpa using this
    · go_wp2
      go_roundw
      case measure => simp [intOf]
      case rel =>
        refine ⟨trivial, .inr (.inr ⟨?_, rfl⟩)⟩
        have h1 := Ha.out.1; have h2 := Ha.out.2
        rw [wrap_byte Hbk.out, show wrap64 (a * 256) = a * 256 by unfold wrap64; omega, bits_or a b Ha.out Hbk.out]
    · go_wp2
      go_ret
      exact ⟨rfl, Hk2.out, Hg2.out⟩

set_option maxHeartbeats 4000000 in
set_option maxRecDepth 100000 in
theorem read_any (A : Option Addr) (c : Nat) (L : List Int) (w : World) (B : Nat) (hL : RowsAt 1 bcell w B A L) (hB : B ≤ w.heap.size) (hm : L.length ≤ 2 ^ 20) (hpos : 0 < L.length) (n : Nat) (hn : n = L.length) :
    Calls Tryz.prog 90 #[.slice A n c] w fun r w' => ∃ k : Nat, r = .returned (.pointer (some ⟨k, 0, none⟩)) ∧ ∃ g c' : Nat, Blk w' k 224 #[.slice (some ⟨g, 0, none⟩) n c', .int .i64 0, .int .i64 0] ∧ n ≤ c' ∧ OwnB w' w.heap.size (.slice (some ⟨g, 0, none⟩) n c') L ∧ g ≠ k ∧ w.heap.size ≤ k ∧ Below w.heap.size w w' := by
  have HL := Lib.hid (hL.more hB)
  have HE := Lib.hid (OwnR.nil (e := 5) (C := 1) (cells := bcell) w w.heap.size)
  have Hn := Lib.hid hn
  have hn2 : 0 < n := by omega
  have hm2 : n ≤ 2 ^ 20 := by omega
  clear hL hB hn hm hpos
  go_enter Tryz.func90, Tryz.ntmps90
  go_wp2_with (at_builtin; (refine app_rows (e := 5) bcell (fun _ => rfl) (by decide) (bytes := 1) (by decide) infoB rfl Tryz.underlying24 onesB (by rfl) _ _ (by rfl) w.heap.size _ [] (by rfl) HE.out A c n L Hn.out (by rfl) HL.out (by have := Hn.out; simp; omega) (Nat.le_refl _) ?_); intro v5 w5 hown5 hg5 hor5; have Hb5 := Lib.hid ((Below.refl w.heap.size w).grown hg5 (Nat.le_refl _) (fun j hj => (HE.out.block j hj).1)); obtain ⟨g, c5, hc5, hv5⟩ := own_some0 hown5 (by rw [List.nil_append]; exact Hn.out.symm) hn2; subst hv5; have Hown5 := Lib.hid hown5; clear hown5 hg5 hor5)
  go_ret
  have hO : OwnB w5 w.heap.size (.slice (some ⟨g, 0, none⟩) n c5) L := by have := Hown5.out; rwa [List.nil_append] at this
  have hlt := OwnB.lt hO
  exact ⟨w5.heap.size, rfl, g, c5, Blk.new w5 _ _, hc5, OwnR.alloc hO _, Nat.ne_of_lt hlt.2, Hb5.out.size, Hb5.out.alloc Hb5.out.size _⟩

end Go.Proofs.YtpnbibokddhheaaGreat

/-
  A description with its sum and length: the program's way.
-/
namespace Go.Proofs.YtpnbibokddhheaaGreat
open Go.RowKit

/-- the head that Seal leaves -/
def sealedH (h : Hd) (ls : List Lnk) (ms : List Int) : Hd := { h with sum := (bytesL h ls ms)[16]?.getD 0 * 256 + (bytesL h ls ms)[17]?.getD 0, long := (bytesL h ls ms)[18]?.getD 0 * 256 + (bytesL h ls ms)[19]?.getD 0 }

section
variable {w w' : World} {g : Nat} {t : TypeId} {a b c d e f x y z : Value}
theorem Blk.set9 (h : Blk w g t #[a, b, c, d, e, f, x, y, z]) (a' b' c' d' e' f' x' y' z' : Value) : Blk (((((((((w.setCell ⟨g, 0, none⟩ a').setCell ⟨g, 1, none⟩ b').setCell ⟨g, 2, none⟩ c').setCell ⟨g, 3, none⟩ d').setCell ⟨g, 4, none⟩ e').setCell ⟨g, 5, none⟩ f').setCell ⟨g, 6, none⟩ x').setCell ⟨g, 7, none⟩ y').setCell ⟨g, 8, none⟩ z') g t #[a', b', c', d', e', f', x', y', z'] := by
  have := ((((((((h.set_ 0 a').set_ 1 b').set_ 2 c').set_ 3 d').set_ 4 e').set_ 5 f').set_ 6 x').set_ 7 y').set_ 8 z'
  simpa using this
theorem below_set9 {B : Nat} (h : Below B w w') (hg : B ≤ g) (a' b' c' d' e' f' x' y' z' : Value) : Below B w (((((((((w'.setCell ⟨g, 0, none⟩ a').setCell ⟨g, 1, none⟩ b').setCell ⟨g, 2, none⟩ c').setCell ⟨g, 3, none⟩ d').setCell ⟨g, 4, none⟩ e').setCell ⟨g, 5, none⟩ f').setCell ⟨g, 6, none⟩ x').setCell ⟨g, 7, none⟩ y').setCell ⟨g, 8, none⟩ z') :=
  ((((((((h.setCell hg _).setCell hg _).setCell hg _).setCell hg _).setCell hg _).setCell hg _).setCell hg _).setCell hg _).setCell hg _
theorem own_far {α : Type} {e : TypeId} {C : Nat} {cells : α → List Value} {B : Nat} {v : Value} {L : List α} (h : OwnR e C cells w B v L) (hn : v.ownBlock ≠ some g) (i : Nat) (u : Value) : OwnR e C cells (w.setCell ⟨g, i, none⟩ u) B v L :=
  h.kept (row := some g) ⟨rfl, rfl, rfl, by simp [World.setCell], fun k hk hne => Below.heap_setCell _ _ _ _ (fun e => hne (by rw [e]))⟩ (.inr hn)
theorem own_far9 {α : Type} {e : TypeId} {C : Nat} {cells : α → List Value} {B : Nat} {v : Value} {L : List α} (h : OwnR e C cells w B v L) (hn : v.ownBlock ≠ some g) (a' b' c' d' e' f' x' y' z' : Value) : OwnR e C cells (((((((((w.setCell ⟨g, 0, none⟩ a').setCell ⟨g, 1, none⟩ b').setCell ⟨g, 2, none⟩ c').setCell ⟨g, 3, none⟩ d').setCell ⟨g, 4, none⟩ e').setCell ⟨g, 5, none⟩ f').setCell ⟨g, 6, none⟩ x').setCell ⟨g, 7, none⟩ y').setCell ⟨g, 8, none⟩ z') B v L :=
  own_far (own_far (own_far (own_far (own_far (own_far (own_far (own_far (own_far h hn _ _) hn _ _) hn _ _) hn _ _) hn _ _) hn _ _) hn _ _) hn _ _) hn _ _
end
theorem sealL_ok {r : List Int} (h : ∀ x ∈ r, byteOk x) : ∀ x ∈ sealL r, byteOk x := by
  refine app_ok (fun x hx => h x (List.mem_of_mem_take hx)) (fun x hx => ?_)
  have h2 := zero2_ok (bs := r.drop 2) (fun x hx => h x (List.mem_of_mem_drop hx))
  unfold fillL at hx
  rcases List.mem_or_eq_of_mem_set hx with hx | rfl
  · rcases List.mem_or_eq_of_mem_set hx with hx | rfl
    · exact h2 x hx
    · exact ⟨by unfold bytA fillA; omega, by unfold bytA fillA; omega⟩
  · exact ⟨by unfold bytB fillB; omega, by unfold bytB fillB; omega⟩
theorem bytesL_ok (h : Hd) (ls : List Lnk) (ms : List Int) : ∀ x ∈ bytesL h ls ms, byteOk x := sealL_ok (rawL_ok _ _ (bodyL_ok _ _ _))
theorem bytesL_len (h : Hd) (ls : List Lnk) (ms : List Int) (hl : ls.length ≤ 1000) (hm : ms.length ≤ 1000) : 20 ≤ (bytesL h ls ms).length ∧ (bytesL h ls ms).length ≤ 20020 := by
  have h1 := rawL_len h (bodyL h.kind ls ms)
  have h2 := bodyL_len h.kind ls ms hl hm
  have h3 := sealL_len (rawL h (bodyL h.kind ls ms)) (by omega)
  unfold bytesL
  omega
theorem own_at {w : World} {B n g cap : Nat} {l : List Int} (h : OwnB w B (.slice (some ⟨g, 0, none⟩) n cap) l) {k : Nat} {x : Int} (hx : l[k]? = some x) : w.cell? ⟨g, k, none⟩ = some (.int .u8 x) := by
  obtain ⟨hk, rfl⟩ := List.getElem?_eq_some_iff.1 hx
  exact (OwnB.at_ h k hk).1
structure SG (w2 wc : World) (k : Nat) (cs : Array Value) (va vb : Value) (ls : List Lnk) (ms : List Int) (W : World) : Prop where
  blk : Blk W k 31 cs
  oa : OwnR 152 4 Lnk.cells W w2.heap.size va ls
  ob : OwnR 3 1 icell W w2.heap.size vb ms
  bel : Below w2.heap.size w2 W
  sz : wc.heap.size ≤ W.heap.size
  kl : k < wc.heap.size
  la : ∀ j, va.ownBlock = some j → j < wc.heap.size
  lb : ∀ j, vb.ownBlock = some j → j < wc.heap.size
section
variable {w2 wc W W' : World} {k : Nat} {cs : Array Value} {va vb : Value} {ls : List Lnk} {ms : List Int}
theorem SG.below (h : SG w2 wc k cs va vb ls ms W) (hb : Below W.heap.size W W') : SG w2 wc k cs va vb ls ms W' :=
  ⟨h.blk.below hb h.blk.lt, h.oa.below hb, h.ob.below hb, below_trans h.bel h.bel.size hb, Nat.le_trans h.sz hb.size, h.kl, h.la, h.lb⟩
theorem SG.grown {j : Nat} (h : SG w2 wc k cs va vb ls ms W) (hw : w2.heap.size ≤ wc.heap.size) (hg : W.grownBy W' (some j)) (hj : wc.heap.size ≤ j) : SG w2 wc k cs va vb ls ms W' :=
  ⟨(hg.block k h.blk.lt (fun e => by have := h.kl; have := Option.some.inj e; omega)).trans h.blk, h.oa.kept hg (.inr (fun e => by have := h.la j e; omega)), h.ob.kept hg (.inr (fun e => by have := h.lb j e; omega)),
    h.bel.grown hg h.bel.size (fun i hi => by have := Option.some.inj hi; omega), Nat.le_trans h.sz hg.size, h.kl, h.la, h.lb⟩
end
set_option maxHeartbeats 8000000 in
set_option maxRecDepth 100000 in
theorem seal_any (y1 y2 y3 y4 y5 y6 y7 : Int) (ka : Option Addr) (kc : Nat) (ls : List Lnk) (ma : Option Addr) (mc : Nat) (ms : List Int) (w : World) (B : Nat) (hl : RowsAt 4 Lnk.cells w B ka ls) (hm : RowsAt 1 icell w B ma ms) (hB : B ≤ w.heap.size) (hlm : ls.length ≤ 1000) (hmm : ms.length ≤ 1000) (nl nm : Nat) (hnl : nl = ls.length) (hnm : nm = ms.length)
    {t : Bool} (ht : rightB ⟨⟨y1, y2, y3, y4, y5, y6, y7⟩, ka, kc, ls, ma, mc, ms⟩ = t) {s1 s2 : Int} (hs : (if t then ((sealedH ⟨y1, y2, y3, y4, y5, y6, y7⟩ ls ms).sum, (sealedH ⟨y1, y2, y3, y4, y5, y6, y7⟩ ls ms).long) else (y6, y7)) = (s1, s2)) :
    Calls Tryz.prog 51 #[.agg #[.int .i64 y1, .int .i64 y2, .int .i64 y3, .int .i64 y4, .int .i64 y5, .int .i64 y6, .int .i64 y7, .slice ka nl kc, .slice ma nm mc]] w fun r w' => ∃ va vb, r = .returned (.agg #[.int .i64 y1, .int .i64 y2, .int .i64 y3, .int .i64 y4, .int .i64 y5, .int .i64 s1, .int .i64 s2, va, vb]) ∧ OwnR 152 4 Lnk.cells w' w.heap.size va ls ∧ OwnR 3 1 icell w' w.heap.size vb ms ∧ Below w.heap.size w w' := by
  obtain ⟨w1, hW1⟩ : ∃ w1, w.alloc (.cells #[.int .i64 y1, .int .i64 y2, .int .i64 y3, .int .i64 y4, .int .i64 y5, .int .i64 y6, .int .i64 y7, .slice ka nl kc, .slice ma nm mc] 31) = w1 := ⟨_, rfl⟩
  have hk := Blk.new w 31 #[.int .i64 y1, .int .i64 y2, .int .i64 y3, .int .i64 y4, .int .i64 y5, .int .i64 y6, .int .i64 y7, .slice ka nl kc, .slice ma nm mc]
  have hb := below_new w (.cells #[.int .i64 y1, .int .i64 y2, .int .i64 y3, .int .i64 y4, .int .i64 y5, .int .i64 y6, .int .i64 y7, .slice ka nl kc, .slice ma nm mc] 31)
  rw [hW1] at hk hb
  have FW := Lib.hid (fun W (hW : Below w1.heap.size w1 W) => blk9 (hk.below hW hk.lt))
  have Hb := Lib.hid hb
  have HL := Lib.hid (rows_keep (hl.more hB) hb)
  have HM := Lib.hid (rows_keep (hm.more hB) hb)
  have hsz := hb.size
  have Hnl := Lib.hid hnl
  have Hnm := Lib.hid hnm
  have Ht := Lib.hid ht
  have Hs := Lib.hid hs
  have hnl2 : nl ≤ 1000 := by omega
  have hnm2 : nm ≤ 1000 := by omega
  clear hk hb hl hm hB hnl hnm hlm hmm ht hs
  go_enter Tryz.func51, Tryz.ntmps51
  go_upto_region 1 with fail
  obtain ⟨w2, hW2⟩ : ∃ w2, w1.alloc (.cells #[.int .i64 0, .int .i64 0, .int .i64 0, .int .i64 0, .int .i64 0, .int .i64 0, .int .i64 0, .slice none 0 0, .slice none 0 0] 31) = w2 := ⟨_, rfl⟩
  have hq := Blk.new w1 31 #[.int .i64 0, .int .i64 0, .int .i64 0, .int .i64 0, .int .i64 0, .int .i64 0, .int .i64 0, .slice none 0 0, .slice none 0 0]
  have hb2 := below_new w1 (.cells #[.int .i64 0, .int .i64 0, .int .i64 0, .int .i64 0, .int .i64 0, .int .i64 0, .int .i64 0, .slice none 0 0, .slice none 0 0] 31)
  rw [hW2] at hq hb2 ⊢
  have F2 := Lib.hid (fun W (hW : Below w2.heap.size w2 W) => FW.out W (below_trans hb2 hb2.size hW))
  have FQ := Lib.hid (fun W (hW : Below w2.heap.size w2 W) => hq.below hW hq.lt)
  have HL2 := Lib.hid (rows_keep HL.out hb2)
  have HM2 := Lib.hid (rows_keep HM.out hb2)
  have Hb2 := Lib.hid hb2
  have hq1 : w1.heap.size < w2.heap.size := hq.lt
  clear hW2 hW1 hq hb2 FW HL HM
  go_cut [3] (fun p wx => ∃ k Aa ca Ab cb, p = .pointer (some ⟨k, 0, none⟩) ∧ Blk wx k 31 #[.int .i64 y1, .int .i64 y2, .int .i64 y3, .int .i64 y4, .int .i64 y5, .int .i64 y6, .int .i64 y7, .slice Aa nl ca, .slice Ab nm cb] ∧ OwnR 152 4 Lnk.cells wx w2.heap.size (.slice Aa nl ca) ls ∧ OwnR 3 1 icell wx w2.heap.size (.slice Ab nm cb) ms ∧ (Value.slice Aa nl ca).ownBlock ≠ some k ∧ (Value.slice Ab nm cb).ownBlock ≠ some k ∧ w2.heap.size ≤ k ∧ Below w2.heap.size w2 wx)
  case first =>
    go_wp2_with fail
    refine wp_region_F (F := fun W => Below w2.heap.size w2 W) (n := 10) (m := 11) (s := #[false, false, false, false, false, false, false, false, false, false, false]) (by kernel_rfl) (by kernel_rfl) (by kernel_rfl) ?_
    intro wd hwd
    have hF : Below w2.heap.size w2 wd := by rw [hwd.out]; exact (Below.refl _ _).drew
    clear hwd
    refine F_take (i := 0) (d := some 5) (by kernel_rfl) (by kernel_rfl) (by decide) (s' := #[true, false, false, false, false, false, false, false, false, false, false]) (by kernel_rfl) rfl rfl (by kernel_rfl) (by kernel_rfl) (by kernel_rfl) (fun _ _ _ h => h) (Or.inl ⟨by kernel_rfl, fun W hW => by obtain ⟨x0, x1, x2, x3, x4, x5, x6, x7, x8, -⟩ := F2.out W hW; go_simp; try with_reducible rfl⟩) hF ?_
    go_frame
    refine F_take (i := 2) (d := some 7) (by kernel_rfl) (by kernel_rfl) (by decide) (s' := #[true, false, true, false, false, false, false, false, false, false, false]) (by kernel_rfl) rfl rfl (by kernel_rfl) (by kernel_rfl) (by kernel_rfl) (fun _ _ _ h => h) (Or.inl ⟨by kernel_rfl, fun W hW => by obtain ⟨x0, x1, x2, x3, x4, x5, x6, x7, x8, -⟩ := F2.out W hW; go_simp; try with_reducible rfl⟩) hF ?_
    go_frame
    refine F_take (i := 5) (d := some 10) (by kernel_rfl) (by kernel_rfl) (by decide) (s' := #[true, false, true, false, false, true, false, false, false, false, false]) (by kernel_rfl) rfl rfl (by kernel_rfl) (by kernel_rfl) (by kernel_rfl) (fun _ _ _ h => h) (Or.inl ⟨by kernel_rfl, fun W hW => by obtain ⟨x0, x1, x2, x3, x4, x5, x6, x7, x8, -⟩ := F2.out W hW; go_simp; try with_reducible rfl⟩) hF ?_
    go_frame
    refine F_take (i := 1) (d := some 6) (by kernel_rfl) (by kernel_rfl) (by decide) (s' := #[true, true, true, false, false, true, false, false, false, false, false]) (by kernel_rfl) rfl rfl (by kernel_rfl) (by kernel_rfl) (by kernel_rfl) (fun _ _ _ h => h) (Or.inl ⟨by kernel_rfl, fun W hW => by obtain ⟨x0, x1, x2, x3, x4, x5, x6, x7, x8, -⟩ := F2.out W hW; go_simp; try with_reducible rfl⟩) hF ?_
    go_frame
    refine F_take (i := 3) (d := some 8) (by kernel_rfl) (by kernel_rfl) (by decide) (s' := #[true, true, true, true, false, true, false, false, false, false, false]) (by kernel_rfl) rfl rfl (by kernel_rfl) (by kernel_rfl) (by kernel_rfl) (fun _ _ _ h => h) (Or.inl ⟨by kernel_rfl, fun W hW => by obtain ⟨x0, x1, x2, x3, x4, x5, x6, x7, x8, -⟩ := F2.out W hW; go_simp; try with_reducible rfl⟩) hF ?_
    go_frame
    refine F_take (i := 6) (d := some 11) (by kernel_rfl) (by kernel_rfl) (by decide) (s' := #[true, true, true, true, false, true, true, false, false, false, false]) (by kernel_rfl) rfl rfl (by kernel_rfl) (by kernel_rfl) (by kernel_rfl) (fun _ _ _ h => h) (Or.inl ⟨by kernel_rfl, fun W hW => by obtain ⟨x0, x1, x2, x3, x4, x5, x6, x7, x8, -⟩ := F2.out W hW; go_simp; try with_reducible rfl⟩) hF ?_
    go_frame
    refine F_two (i := 4) (si := #[true, true, true, true, true, true, true, false, false, false, false]) (j := 9) (sj := #[true, true, true, true, false, true, true, false, false, true, false]) (by kernel_rfl) (by kernel_rfl) (by kernel_rfl) ?_ ?_
    · skip
      have hz4 : wd.heap.size = wd.heap.size := rfl
      refine wpOp_enterL (i := 4) (d := some 9) (f := 80) (args := #[.slice ka nl kc]) rfl rfl (by kernel_rfl) (by go_simp) ((cloneLnk ka kc ls wd w2.heap.size (HL2.out.below hF) hF.size (by have := Hnl.out; omega) nl Hnl.out).mono ?_)
      rintro r v4w ⟨va, rfl, oA, hb4⟩
      obtain ⟨Aa, ca, rfl⟩ : ∃ A c, va = .slice A nl c := by obtain ⟨A, c, e⟩ := oA.shape; exact ⟨A, c, by rw [e, Hnl.out]⟩
      have oA0 := oA
      have oA := OwnR.lower oA hF.size
      have hF := below_trans hF hF.size hb4
      refine ⟨_, rfl, fun _ => hF, ?_⟩
      go_frame
      clear hb4 hz4
      refine F_two (i := 7) (si := #[true, true, true, true, true, true, true, true, false, false, false]) (j := 9) (sj := #[true, true, true, true, true, true, true, false, false, true, false]) (by kernel_rfl) (by kernel_rfl) (by kernel_rfl) ?_ ?_
      · skip
        have hz7 : v4w.heap.size = v4w.heap.size := rfl
        refine wpOp_enterL (i := 7) (d := some 12) (f := 81) (args := #[.slice ma nm mc]) rfl rfl (by kernel_rfl) (by go_simp) ((cloneInt ma mc ms v4w w2.heap.size (HM2.out.below hF) hF.size (by have := Hnm.out; omega) nm Hnm.out).mono ?_)
        rintro r v7w ⟨vb, rfl, oB, hb7⟩
        obtain ⟨Ab, cb, rfl⟩ : ∃ A c, vb = .slice A nm c := by obtain ⟨A, c, e⟩ := oB.shape; exact ⟨A, c, by rw [e, Hnm.out]⟩
        have oB0 := oB
        have oA := OwnR.below oA hb7
        have oA0 := oA
        have oB := OwnR.lower oB hF.size
        have hF := below_trans hF hF.size hb7
        refine ⟨_, rfl, fun _ => hF, ?_⟩
        go_frame
        clear hb7 hz7
        refine F_take (i := 8) (d := some 13) (by kernel_rfl) (by kernel_rfl) (by decide) (s' := #[true, true, true, true, true, true, true, true, true, false, false]) (by kernel_rfl) rfl rfl (by kernel_rfl) (by kernel_rfl) (by kernel_rfl) (fun _ _ _ h => h) (Or.inl ⟨by kernel_rfl, fun W hW => by obtain ⟨x0, x1, x2, x3, x4, x5, x6, x7, x8, -⟩ := F2.out W hW; go_simp; try with_reducible rfl⟩) hF ?_
        go_frame
        obtain ⟨g, hg⟩ : ∃ g, v7w.heap.size = g := ⟨_, rfl⟩
        obtain ⟨v9w, hv9w⟩ : ∃ v9w, v7w.alloc (.cells #[.int .i64 0, .int .i64 0, .int .i64 0, .int .i64 0, .int .i64 0, .int .i64 0, .int .i64 0, .slice none 0 0, .slice none 0 0] 31) = v9w := ⟨_, rfl⟩
        have hb9 : Below v7w.heap.size v7w v9w := by rw [← hv9w]; exact below_new _ _
        have K9 : Blk v9w g 31 #[.int .i64 0, .int .i64 0, .int .i64 0, .int .i64 0, .int .i64 0, .int .i64 0, .int .i64 0, .slice none 0 0, .slice none 0 0] := by rw [← hv9w, ← hg]; exact Blk.new _ _ _
        have hgl : w2.heap.size ≤ g := by rw [← hg]; exact hF.size
        have oA := OwnR.below oA hb9
        have nA : (Value.slice Aa nl ca).ownBlock ≠ some g := fun e => by have := (OwnR.block oA0 g e).2; omega
        have oB := OwnR.below oB hb9
        have nB : (Value.slice Ab nm cb).ownBlock ≠ some g := fun e => by have := (OwnR.block oB0 g e).2; omega
        have hF := below_trans hF hF.size hb9
        refine F_one (i := 9) (s' := #[true, true, true, true, true, true, true, true, true, true, false]) (by kernel_rfl) (by kernel_rfl) (wpOp_valueL (i := 9) (d := some 3) (w' := v9w) (v := .pointer (some ⟨g, 0, none⟩)) rfl rfl (by kernel_rfl) (by go_simp) ⟨fun _ => hF, ?_⟩)
        go_frame
        clear hv9w hg hb9
        obtain ⟨u0, u1, u2, u3, u4, u5, u6, u7, u8, uf⟩ := blk9 K9
        refine F_one (i := 10) (s' := #[true, true, true, true, true, true, true, true, true, true, true]) (by kernel_rfl) (by kernel_rfl) (wpOp_skipL (i := 10) (w' := (((((((((v9w.setCell ⟨g, 0, none⟩ (.int .i64 y1)).setCell ⟨g, 1, none⟩ (.int .i64 y2)).setCell ⟨g, 2, none⟩ (.int .i64 y3)).setCell ⟨g, 3, none⟩ (.int .i64 y4)).setCell ⟨g, 4, none⟩ (.int .i64 y5)).setCell ⟨g, 5, none⟩ (.int .i64 y6)).setCell ⟨g, 6, none⟩ (.int .i64 y7)).setCell ⟨g, 7, none⟩ (.slice Aa nl ca)).setCell ⟨g, 8, none⟩ (.slice Ab nm cb))) rfl rfl (by kernel_rfl) (by go_simp) ⟨fun h => absurd h (by decide), ?_⟩)
        go_frame
        refine F_done (by kernel_rfl) ?_ _
        clear u0 u1 u2 u3 u4 u5 u6 u7 u8 uf
        go_wp2_with fail
        go_meet
        case rel => exact ⟨g, Aa, ca, Ab, cb, rfl, Blk.set9 K9 _ _ _ _ _ _ _ _ _, own_far9 oA nA _ _ _ _ _ _ _ _ _, own_far9 oB nB _ _ _ _ _ _ _ _ _, nA, nB, hgl, below_set9 hF hgl _ _ _ _ _ _ _ _ _⟩
      · skip
        obtain ⟨g, hg⟩ : ∃ g, v4w.heap.size = g := ⟨_, rfl⟩
        obtain ⟨v9w, hv9w⟩ : ∃ v9w, v4w.alloc (.cells #[.int .i64 0, .int .i64 0, .int .i64 0, .int .i64 0, .int .i64 0, .int .i64 0, .int .i64 0, .slice none 0 0, .slice none 0 0] 31) = v9w := ⟨_, rfl⟩
        have hb9 : Below v4w.heap.size v4w v9w := by rw [← hv9w]; exact below_new _ _
        have K9 : Blk v9w g 31 #[.int .i64 0, .int .i64 0, .int .i64 0, .int .i64 0, .int .i64 0, .int .i64 0, .int .i64 0, .slice none 0 0, .slice none 0 0] := by rw [← hv9w, ← hg]; exact Blk.new _ _ _
        have hgl : w2.heap.size ≤ g := by rw [← hg]; exact hF.size
        have oA := OwnR.below oA hb9
        have nA : (Value.slice Aa nl ca).ownBlock ≠ some g := fun e => by have := (OwnR.block oA0 g e).2; omega
        have hF := below_trans hF hF.size hb9
        refine wpOp_valueL (i := 9) (d := some 3) (w' := v9w) (v := .pointer (some ⟨g, 0, none⟩)) rfl rfl (by kernel_rfl) (by go_simp) ⟨fun _ => hF, ?_⟩
        go_frame
        clear hv9w hg hb9
        have hgW : g < v9w.heap.size := K9.lt
        have hz7 : v9w.heap.size = v9w.heap.size := rfl
        refine F_one (i := 7) (s' := #[true, true, true, true, true, true, true, true, false, true, false]) (by kernel_rfl) (by kernel_rfl) (wpOp_enterL (i := 7) (d := some 12) (f := 81) (args := #[.slice ma nm mc]) rfl rfl (by kernel_rfl) (by go_simp) ((cloneInt ma mc ms v9w w2.heap.size (HM2.out.below hF) hF.size (by have := Hnm.out; omega) nm Hnm.out).mono ?_))
        rintro r v7w ⟨vb, rfl, oB, hb7⟩
        obtain ⟨Ab, cb, rfl⟩ : ∃ A c, vb = .slice A nm c := by obtain ⟨A, c, e⟩ := oB.shape; exact ⟨A, c, by rw [e, Hnm.out]⟩
        have oB0 := oB
        have K9 := Blk.below K9 hb7 K9.lt
        have nB : (Value.slice Ab nm cb).ownBlock ≠ some g := fun e => by have := (OwnR.block oB g e).1; have := hgW; omega
        have oA := OwnR.below oA hb7
        have oA0 := oA
        have oB := OwnR.lower oB hF.size
        have hF := below_trans hF hF.size hb7
        refine ⟨_, rfl, fun _ => hF, ?_⟩
        go_frame
        clear hb7 hz7
        refine F_take (i := 8) (d := some 13) (by kernel_rfl) (by kernel_rfl) (by decide) (s' := #[true, true, true, true, true, true, true, true, true, true, false]) (by kernel_rfl) rfl rfl (by kernel_rfl) (by kernel_rfl) (by kernel_rfl) (fun _ _ _ h => h) (Or.inl ⟨by kernel_rfl, fun W hW => by obtain ⟨x0, x1, x2, x3, x4, x5, x6, x7, x8, -⟩ := F2.out W hW; go_simp; try with_reducible rfl⟩) hF ?_
        go_frame
        obtain ⟨u0, u1, u2, u3, u4, u5, u6, u7, u8, uf⟩ := blk9 K9
        refine F_one (i := 10) (s' := #[true, true, true, true, true, true, true, true, true, true, true]) (by kernel_rfl) (by kernel_rfl) (wpOp_skipL (i := 10) (w' := (((((((((v7w.setCell ⟨g, 0, none⟩ (.int .i64 y1)).setCell ⟨g, 1, none⟩ (.int .i64 y2)).setCell ⟨g, 2, none⟩ (.int .i64 y3)).setCell ⟨g, 3, none⟩ (.int .i64 y4)).setCell ⟨g, 4, none⟩ (.int .i64 y5)).setCell ⟨g, 5, none⟩ (.int .i64 y6)).setCell ⟨g, 6, none⟩ (.int .i64 y7)).setCell ⟨g, 7, none⟩ (.slice Aa nl ca)).setCell ⟨g, 8, none⟩ (.slice Ab nm cb))) rfl rfl (by kernel_rfl) (by go_simp) ⟨fun h => absurd h (by decide), ?_⟩)
        go_frame
        refine F_done (by kernel_rfl) ?_ _
        clear u0 u1 u2 u3 u4 u5 u6 u7 u8 uf
        go_wp2_with fail
        go_meet
        case rel => exact ⟨g, Aa, ca, Ab, cb, rfl, Blk.set9 K9 _ _ _ _ _ _ _ _ _, own_far9 oA nA _ _ _ _ _ _ _ _ _, own_far9 oB nB _ _ _ _ _ _ _ _ _, nA, nB, hgl, below_set9 hF hgl _ _ _ _ _ _ _ _ _⟩
    · skip
      obtain ⟨g, hg⟩ : ∃ g, wd.heap.size = g := ⟨_, rfl⟩
      obtain ⟨v9w, hv9w⟩ : ∃ v9w, wd.alloc (.cells #[.int .i64 0, .int .i64 0, .int .i64 0, .int .i64 0, .int .i64 0, .int .i64 0, .int .i64 0, .slice none 0 0, .slice none 0 0] 31) = v9w := ⟨_, rfl⟩
      have hb9 : Below wd.heap.size wd v9w := by rw [← hv9w]; exact below_new _ _
      have K9 : Blk v9w g 31 #[.int .i64 0, .int .i64 0, .int .i64 0, .int .i64 0, .int .i64 0, .int .i64 0, .int .i64 0, .slice none 0 0, .slice none 0 0] := by rw [← hv9w, ← hg]; exact Blk.new _ _ _
      have hgl : w2.heap.size ≤ g := by rw [← hg]; exact hF.size
      have hF := below_trans hF hF.size hb9
      refine wpOp_valueL (i := 9) (d := some 3) (w' := v9w) (v := .pointer (some ⟨g, 0, none⟩)) rfl rfl (by kernel_rfl) (by go_simp) ⟨fun _ => hF, ?_⟩
      go_frame
      clear hv9w hg hb9
      have hgW : g < v9w.heap.size := K9.lt
      have hz4 : v9w.heap.size = v9w.heap.size := rfl
      refine F_one (i := 4) (s' := #[true, true, true, true, true, true, true, false, false, true, false]) (by kernel_rfl) (by kernel_rfl) (wpOp_enterL (i := 4) (d := some 9) (f := 80) (args := #[.slice ka nl kc]) rfl rfl (by kernel_rfl) (by go_simp) ((cloneLnk ka kc ls v9w w2.heap.size (HL2.out.below hF) hF.size (by have := Hnl.out; omega) nl Hnl.out).mono ?_))
      rintro r v4w ⟨va, rfl, oA, hb4⟩
      obtain ⟨Aa, ca, rfl⟩ : ∃ A c, va = .slice A nl c := by obtain ⟨A, c, e⟩ := oA.shape; exact ⟨A, c, by rw [e, Hnl.out]⟩
      have oA0 := oA
      have K9 := Blk.below K9 hb4 K9.lt
      have nA : (Value.slice Aa nl ca).ownBlock ≠ some g := fun e => by have := (OwnR.block oA g e).1; have := hgW; omega
      have oA := OwnR.lower oA hF.size
      have hF := below_trans hF hF.size hb4
      refine ⟨_, rfl, fun _ => hF, ?_⟩
      go_frame
      clear hb4 hz4
      have hgW : g < v4w.heap.size := K9.lt
      have hz7 : v4w.heap.size = v4w.heap.size := rfl
      refine F_one (i := 7) (s' := #[true, true, true, true, true, true, true, true, false, true, false]) (by kernel_rfl) (by kernel_rfl) (wpOp_enterL (i := 7) (d := some 12) (f := 81) (args := #[.slice ma nm mc]) rfl rfl (by kernel_rfl) (by go_simp) ((cloneInt ma mc ms v4w w2.heap.size (HM2.out.below hF) hF.size (by have := Hnm.out; omega) nm Hnm.out).mono ?_))
      rintro r v7w ⟨vb, rfl, oB, hb7⟩
      obtain ⟨Ab, cb, rfl⟩ : ∃ A c, vb = .slice A nm c := by obtain ⟨A, c, e⟩ := oB.shape; exact ⟨A, c, by rw [e, Hnm.out]⟩
      have oB0 := oB
      have K9 := Blk.below K9 hb7 K9.lt
      have nB : (Value.slice Ab nm cb).ownBlock ≠ some g := fun e => by have := (OwnR.block oB g e).1; have := hgW; omega
      have oA := OwnR.below oA hb7
      have oA0 := oA
      have oB := OwnR.lower oB hF.size
      have hF := below_trans hF hF.size hb7
      refine ⟨_, rfl, fun _ => hF, ?_⟩
      go_frame
      clear hb7 hz7
      refine F_take (i := 8) (d := some 13) (by kernel_rfl) (by kernel_rfl) (by decide) (s' := #[true, true, true, true, true, true, true, true, true, true, false]) (by kernel_rfl) rfl rfl (by kernel_rfl) (by kernel_rfl) (by kernel_rfl) (fun _ _ _ h => h) (Or.inl ⟨by kernel_rfl, fun W hW => by obtain ⟨x0, x1, x2, x3, x4, x5, x6, x7, x8, -⟩ := F2.out W hW; go_simp; try with_reducible rfl⟩) hF ?_
      go_frame
      obtain ⟨u0, u1, u2, u3, u4, u5, u6, u7, u8, uf⟩ := blk9 K9
      refine F_one (i := 10) (s' := #[true, true, true, true, true, true, true, true, true, true, true]) (by kernel_rfl) (by kernel_rfl) (wpOp_skipL (i := 10) (w' := (((((((((v7w.setCell ⟨g, 0, none⟩ (.int .i64 y1)).setCell ⟨g, 1, none⟩ (.int .i64 y2)).setCell ⟨g, 2, none⟩ (.int .i64 y3)).setCell ⟨g, 3, none⟩ (.int .i64 y4)).setCell ⟨g, 4, none⟩ (.int .i64 y5)).setCell ⟨g, 5, none⟩ (.int .i64 y6)).setCell ⟨g, 6, none⟩ (.int .i64 y7)).setCell ⟨g, 7, none⟩ (.slice Aa nl ca)).setCell ⟨g, 8, none⟩ (.slice Ab nm cb))) rfl rfl (by kernel_rfl) (by go_simp) ⟨fun h => absurd h (by decide), ?_⟩)
      go_frame
      refine F_done (by kernel_rfl) ?_ _
      clear u0 u1 u2 u3 u4 u5 u6 u7 u8 uf
      go_wp2_with fail
      go_meet
      case rel => exact ⟨g, Aa, ca, Ab, cb, rfl, Blk.set9 K9 _ _ _ _ _ _ _ _ _, own_far9 oA nA _ _ _ _ _ _ _ _ _, own_far9 oB nB _ _ _ _ _ _ _ _ _, nA, nB, hgl, below_set9 hF hgl _ _ _ _ _ _ _ _ _⟩
  case rest =>
    obtain ⟨k, Aa, ca, Ab, cb, rfl, hkb, hoa, hob, hna, hnb, hkl, hb3⟩ := hcut
    have hsg : SG w2 wc k #[.int .i64 y1, .int .i64 y2, .int .i64 y3, .int .i64 y4, .int .i64 y5, .int .i64 y6, .int .i64 y7, .slice Aa nl ca, .slice Ab nm cb] (.slice Aa nl ca) (.slice Ab nm cb) ls ms wc := ⟨hkb, hoa, hob, hb3, Nat.le_refl _, hkb.lt, fun j e => (hoa.block j e).2, fun j e => (hob.block j e).2⟩
    have hlm : ls.length ≤ 1000 := by have := Hnl.out; omega
    have hmm : ms.length ≤ 1000 := by have := Hnm.out; omega
    have hbl := bytesL_len ⟨y1, y2, y3, y4, y5, y6, y7⟩ ls ms hlm hmm
    have hbo := bytesL_ok ⟨y1, y2, y3, y4, y5, y6, y7⟩ ls ms
    have HR := Lib.hid (lsaRight_any y1 y2 y3 y4 y5 y6 y7 ka kc ls ma mc ms wc w2.heap.size (HL2.out.below hb3) (HM2.out.below hb3) hb3.size (by unfold maxLen; omega) (by unfold maxLen; omega) nl nm Hnl.out Hnm.out Ht.out)
    have HB := Lib.hid (fun W (hW : Below w2.heap.size w2 W) => bytes_any y1 y2 y3 y4 y5 y6 y7 ka kc ls ma mc ms W w2.heap.size (HL2.out.below hW) (HM2.out.below hW) hW.size hlm hmm nl nm Hnl.out Hnm.out)
    have Hsg := Lib.hid hsg
    have Hna := Lib.hid hna
    have Hnb := Lib.hid hnb
    have Hqa : Hid ((Value.slice Aa nl ca).ownBlock ≠ some w1.heap.size) := Lib.hid (fun e => by have := (hoa.block _ e).1; omega)
    have Hqb : Hid ((Value.slice Ab nm cb).ownBlock ≠ some w1.heap.size) := Lib.hid (fun e => by have := (hob.block _ e).1; omega)
    have hwc := hb3.size
    obtain ⟨z0, z1, z2, z3, z4, z5, z6, z7, z8, zf⟩ := F2.out _ hb3
    clear hkb hoa hob hna hnb hb3 hsg hlm hmm
    cases t with
    | false =>
      obtain ⟨rfl, rfl⟩ : y6 = s1 ∧ y7 = s2 := by have := Hs.out; simpa using this
      clear hbl hbo HB
      go_wp2_with (go_at_call 50; (with_reducible refine Calls.mono HR.out ?_); rintro r w4 ⟨rfl, hb4⟩; have Hsg4 := Lib.hid (Hsg.out.below hb4); clear hb4; obtain ⟨u0, u1, u2, u3, u4, u5, u6, u7, u8, uf⟩ := blk9 Hsg4.out.blk; obtain ⟨q0, q1, q2, q3, q4, q5, q6, q7, q8, qf⟩ := blk9 (FQ.out w4 Hsg4.out.bel))
      refine bodyPost_named (v := .agg #[.int .i64 y1, .int .i64 y2, .int .i64 y3, .int .i64 y4, .int .i64 y5, .int .i64 y6, .int .i64 y7, .slice Aa nl ca, .slice Ab nm cb]) (fun W => Blk W w1.heap.size 31 #[.int .i64 y1, .int .i64 y2, .int .i64 y3, .int .i64 y4, .int .i64 y5, .int .i64 y6, .int .i64 y7, .slice Aa nl ca, .slice Ab nm cb]) (Blk.set9 (FQ.out w4 Hsg4.out.bel) _ _ _ _ _ _ _ _ _) (fun W hB => by
        obtain ⟨e0, e1, e2, e3, e4, e5, e6, e7, e8, -⟩ := blk9 hB
        simp [results, Tryz.results51, go_sem, e0, e1, e2, e3, e4, e5, e6, e7, e8]) rfl ?_
      exact ⟨_, _, rfl, OwnR.lower (own_far9 Hsg4.out.oa Hqa.out _ _ _ _ _ _ _ _ _) (Nat.le_trans hsz Hb2.out.size), OwnR.lower (own_far9 Hsg4.out.ob Hqb.out _ _ _ _ _ _ _ _ _) (Nat.le_trans hsz Hb2.out.size), below_set9 (below_trans Hb.out hsz (below_trans Hb2.out Hb2.out.size Hsg4.out.bel)) hsz _ _ _ _ _ _ _ _ _⟩
    | true =>
      obtain ⟨BL, hBL⟩ : ∃ BL, bytesL ⟨y1, y2, y3, y4, y5, y6, y7⟩ ls ms = BL := ⟨_, rfl⟩
      have hs0 : (sealedH ⟨y1, y2, y3, y4, y5, y6, y7⟩ ls ms).sum = s1 ∧ (sealedH ⟨y1, y2, y3, y4, y5, y6, y7⟩ ls ms).long = s2 := by have := Hs.out; simpa using this
      rw [hBL] at hbl hbo
      simp only [hBL] at HB
      obtain ⟨x0, x1, x2, x3, g0, g1, g2, g3, b0, b1, b2, b3, e1, e2⟩ : ∃ x0 x1 x2 x3, (BL.drop 16)[0]? = some x0 ∧ (BL.drop 16)[1]? = some x1 ∧ (BL.drop 16)[2]? = some x2 ∧ (BL.drop 16)[3]? = some x3 ∧ byteOk x0 ∧ byteOk x1 ∧ byteOk x2 ∧ byteOk x3 ∧ x0 * 256 + x1 = s1 ∧ x2 * 256 + x3 = s2 := by
        unfold sealedH at hs0
        simp only [hBL] at hs0
        have l0 : 16 < BL.length := by omega
        have l1 : 17 < BL.length := by omega
        have l2 : 18 < BL.length := by omega
        have l3 : 19 < BL.length := by omega
        rw [List.getElem?_eq_getElem l0, List.getElem?_eq_getElem l1, List.getElem?_eq_getElem l2, List.getElem?_eq_getElem l3] at hs0
        refine ⟨BL[16], BL[17], BL[18], BL[19], ?_, ?_, ?_, ?_, hbo _ (List.getElem_mem l0), hbo _ (List.getElem_mem l1), hbo _ (List.getElem_mem l2), hbo _ (List.getElem_mem l3), hs0.1, hs0.2⟩
        all_goals rw [List.getElem?_drop, List.getElem?_eq_getElem]
      obtain ⟨NB, hNB⟩ : ∃ NB, BL.length = NB := ⟨_, rfl⟩
      rw [hNB] at hbl
      have HNB := Lib.hid hNB
      have HBL := Lib.hid hBL
      have HX := Lib.hid (show _ ∧ _ ∧ _ ∧ _ from ⟨g0, g1, g2, g3⟩)
      have HY := Lib.hid (show _ ∧ _ ∧ _ ∧ _ from ⟨b0, b1, b2, b3⟩)
      subst e1 e2
      have hn20 : 20 ≤ NB := hbl.1
      have hn21 : NB ≤ 20020 := hbl.2
      clear hNB hBL hs0 hbl hbo g0 g1 g2 g3 b0 b1 b2 b3 Hs
      go_wp2_with (first
        | (go_at_call 50; (with_reducible refine Calls.mono HR.out ?_); rintro r w4 ⟨rfl, hb4⟩; have Hsg4 := Lib.hid (Hsg.out.below hb4); clear hb4; obtain ⟨u0, u1, u2, u3, u4, u5, u6, u7, u8, uf⟩ := F2.out w4 Hsg4.out.bel)
        | (go_at_call 91; (with_reducible refine Calls.mono (HB.out _ Hsg4.out.bel) ?_); rintro r w5 ⟨v, rfl, hown5, hb5⟩; obtain ⟨g5, c5, hc5, hv5⟩ := own_some hown5 HNB.out (by omega); subst hv5; have Hsg5 := Lib.hid (Hsg4.out.below hb5);
            have HR5 := Lib.hid (read_any (some ⟨g5, 16, none⟩) (c5 - 16) (BL.drop 16) w5 w5.heap.size (by have := rows_drop (OwnR.rows (C := 1) (cells := bcell) (fun _ => rfl) hown5).2 16 (by have := HNB.out; omega) (by have := HNB.out; omega); exact this) (Nat.le_refl _) (by have := HNB.out; rw [List.length_drop]; omega) (by have := HNB.out; rw [List.length_drop]; omega) (NB - 16) (by have := HNB.out; rw [List.length_drop]; omega)); clear hown5 hb5; have hc5n : ¬ c5 = 16 := by omega)
        | (go_at_call 90; (with_reducible refine Calls.mono HR5.out ?_); rintro r w6 ⟨k6, rfl, g6, c6, hk6, hc6, hown6, hgk, hk6l, hb6⟩; have Hsg6 := Lib.hid (Hsg5.out.below hb6);
            have hg6 := (OwnB.lt hown6).2;
            have HN1 := Lib.hid (num_two k6 g6 0 (NB - 16) c6 0 x0 x1 w6 hk6 hg6 hgk (own_at hown6 HX.out.1) (own_at hown6 HX.out.2.1) HY.out.1 HY.out.2.1 (by omega) hc6 (by omega));
            have hk6w : wc.heap.size ≤ k6 := Nat.le_trans Hsg5.out.sz hk6l;
            have HC6 := Lib.hid (show _ ∧ _ from ⟨own_at hown6 HX.out.2.2.1, own_at hown6 HX.out.2.2.2⟩); clear hk6 hown6 hb6 hk6l)
        | (go_at_call 92; (with_reducible refine Calls.mono HN1.out ?_); rintro r w7 ⟨rfl, hk7, hg7⟩; have Hsg7 := Lib.hid (Hsg6.out.grown hwc hg7 hk6w);
            have HN2 := Lib.hid (num_two k6 g6 0 (NB - 16) c6 2 x2 x3 w7 hk7 (Nat.lt_of_lt_of_le hg6 hg7.size) hgk ((World.cell?_of_block (w := w6) (hg7.block g6 hg6 (fun e => hgk (Option.some.inj e)))).trans HC6.out.1) ((World.cell?_of_block (w := w6) (hg7.block g6 hg6 (fun e => hgk (Option.some.inj e)))).trans HC6.out.2) HY.out.2.2.1 HY.out.2.2.2 (by omega) hc6 (by omega)); clear hk7 hg7)
        | (go_at_call 92; (with_reducible refine Calls.mono HN2.out ?_); rintro r w8 ⟨rfl, -, hg8⟩; have Hsg8 := Lib.hid (Hsg7.out.grown hwc hg8 hk6w); clear hg8; obtain ⟨p0, p1, p2, p3, p4, p5, p6, p7, p8, pf⟩ := blk9 Hsg8.out.blk; obtain ⟨q0, q1, q2, q3, q4, q5, q6, q7, q8, qf⟩ := blk9 (FQ.out w8 Hsg8.out.bel); have hkq : ¬ k = w1.heap.size := by omega; have hqk : ¬ w1.heap.size = k := by omega)
        | fail)
      with_reducible refine Calls.mono HN2.out ?_
      rintro r w8 ⟨rfl, -, hg8⟩
      have Hsg8 := Lib.hid (Hsg7.out.grown hwc hg8 hk6w)
      clear hg8
      obtain ⟨p0, p1, p2, p3, p4, p5, p6, p7, p8, pf⟩ := blk9 Hsg8.out.blk
      obtain ⟨q0, q1, q2, q3, q4, q5, q6, q7, q8, qf⟩ := blk9 (FQ.out w8 Hsg8.out.bel)
      have hkq : ¬ k = w1.heap.size := by omega
      have hqk : ¬ w1.heap.size = k := by omega
      go_upto_region 5 with fail
      have hk9 : Blk ((w8.setCell ⟨k, 5, none⟩ (.int .i64 (x0 * 256 + x1))).setCell ⟨k, 6, none⟩ (.int .i64 (x2 * 256 + x3))) k 31 #[.int .i64 y1, .int .i64 y2, .int .i64 y3, .int .i64 y4, .int .i64 y5, .int .i64 (x0 * 256 + x1), .int .i64 (x2 * 256 + x3), .slice Aa nl ca, .slice Ab nm cb] := by
        have := (Hsg8.out.blk.set_ 5 (.int .i64 (x0 * 256 + x1))).set_ 6 (.int .i64 (x2 * 256 + x3))
        simpa using this
      have hb9 : Below w2.heap.size w2 ((w8.setCell ⟨k, 5, none⟩ (.int .i64 (x0 * 256 + x1))).setCell ⟨k, 6, none⟩ (.int .i64 (x2 * 256 + x3))) := (Hsg8.out.bel.setCell (p := ⟨k, 5, none⟩) hkl _).setCell (p := ⟨k, 6, none⟩) hkl _
      have oa9 := own_far (own_far Hsg8.out.oa Hna.out 5 (.int .i64 (x0 * 256 + x1))) Hna.out 6 (.int .i64 (x2 * 256 + x3))
      have ob9 := own_far (own_far Hsg8.out.ob Hnb.out 5 (.int .i64 (x0 * 256 + x1))) Hnb.out 6 (.int .i64 (x2 * 256 + x3))
      obtain ⟨w9, hw9⟩ : ∃ w9, ((w8.setCell ⟨k, 5, none⟩ (.int .i64 (x0 * 256 + x1))).setCell ⟨k, 6, none⟩ (.int .i64 (x2 * 256 + x3))) = w9 := ⟨_, rfl⟩
      rw [hw9] at hk9 hb9 oa9 ob9 ⊢
      have Hb9 := Lib.hid hb9
      have Oa9 := Lib.hid oa9
      have Ob9 := Lib.hid ob9
      clear hw9 oa9 ob9 p0 p1 p2 p3 p4 p5 p6 p7 p8 pf q0 q1 q2 q3 q4 q5 q6 q7 q8 qf
      obtain ⟨p0, p1, p2, p3, p4, p5, p6, p7, p8, pf⟩ := blk9 hk9
      obtain ⟨q0, q1, q2, q3, q4, q5, q6, q7, q8, qf⟩ := blk9 (FQ.out w9 hb9)
      clear hk9 hb9
      go_wp2
      refine bodyPost_named (v := .agg #[.int .i64 y1, .int .i64 y2, .int .i64 y3, .int .i64 y4, .int .i64 y5, .int .i64 (x0 * 256 + x1), .int .i64 (x2 * 256 + x3), .slice Aa nl ca, .slice Ab nm cb]) (fun W => Blk W w1.heap.size 31 #[.int .i64 y1, .int .i64 y2, .int .i64 y3, .int .i64 y4, .int .i64 y5, .int .i64 (x0 * 256 + x1), .int .i64 (x2 * 256 + x3), .slice Aa nl ca, .slice Ab nm cb]) (Blk.set9 (FQ.out w9 Hb9.out) _ _ _ _ _ _ _ _ _) (fun W hB => by
        obtain ⟨e0, e1, e2, e3, e4, e5, e6, e7, e8, -⟩ := blk9 hB
        simp [results, Tryz.results51, go_sem, e0, e1, e2, e3, e4, e5, e6, e7, e8]) rfl ?_
      exact ⟨_, _, rfl, OwnR.lower (own_far9 Oa9.out Hqa.out _ _ _ _ _ _ _ _ _) (Nat.le_trans hsz Hb2.out.size), OwnR.lower (own_far9 Ob9.out Hqb.out _ _ _ _ _ _ _ _ _) (Nat.le_trans hsz Hb2.out.size), below_set9 (below_trans Hb.out hsz (below_trans Hb2.out Hb2.out.size Hb9.out)) hsz _ _ _ _ _ _ _ _ _⟩

end Go.Proofs.YtpnbibokddhheaaGreat

/-
  A description of its own: the program's way.
-/
namespace Go.Proofs.YtpnbibokddhheaaGreat
open Go.RowKit

set_option maxHeartbeats 8000000 in
set_option maxRecDepth 100000 in
theorem own_any (y1 y2 y3 y4 y5 y6 y7 : Int) (ka : Option Addr) (kc : Nat) (ls : List Lnk) (ma : Option Addr) (mc : Nat) (ms : List Int) (w : World) (B : Nat) (hl : RowsAt 4 Lnk.cells w B ka ls) (hm : RowsAt 1 icell w B ma ms) (hB : B ≤ w.heap.size) (hlm : ls.length ≤ 2 ^ 20) (hmm : ms.length ≤ 2 ^ 20) (nl nm : Nat) (hnl : nl = ls.length) (hnm : nm = ms.length) :
    Calls Tryz.prog 42 #[.agg #[.int .i64 y1, .int .i64 y2, .int .i64 y3, .int .i64 y4, .int .i64 y5, .int .i64 y6, .int .i64 y7, .slice ka nl kc, .slice ma nm mc]] w fun r w' => ∃ Aa ca Ab cb, r = .returned (.agg #[.int .i64 y1, .int .i64 y2, .int .i64 y3, .int .i64 y4, .int .i64 y5, .int .i64 y6, .int .i64 y7, .slice Aa nl ca, .slice Ab nm cb]) ∧ OwnR 152 4 Lnk.cells w' w.heap.size (.slice Aa nl ca) ls ∧ OwnR 3 1 icell w' w.heap.size (.slice Ab nm cb) ms ∧ Below w.heap.size w w' := by
  obtain ⟨w1, hW1⟩ : ∃ w1, w.alloc (.cells #[.int .i64 y1, .int .i64 y2, .int .i64 y3, .int .i64 y4, .int .i64 y5, .int .i64 y6, .int .i64 y7, .slice ka nl kc, .slice ma nm mc] 31) = w1 := ⟨_, rfl⟩
  have hk := Blk.new w 31 #[.int .i64 y1, .int .i64 y2, .int .i64 y3, .int .i64 y4, .int .i64 y5, .int .i64 y6, .int .i64 y7, .slice ka nl kc, .slice ma nm mc]
  have hb := below_new w (.cells #[.int .i64 y1, .int .i64 y2, .int .i64 y3, .int .i64 y4, .int .i64 y5, .int .i64 y6, .int .i64 y7, .slice ka nl kc, .slice ma nm mc] 31)
  rw [hW1] at hk hb
  have FW := Lib.hid (fun W (hW : Below w1.heap.size w1 W) => blk9 (hk.below hW hk.lt))
  have Hb := Lib.hid hb
  have HL := Lib.hid (rows_keep (hl.more hB) hb)
  have HM := Lib.hid (rows_keep (hm.more hB) hb)
  have hsz := hb.size
  have Hnl := Lib.hid hnl
  have Hnm := Lib.hid hnm
  have hnl2 : nl ≤ 2 ^ 20 := by omega
  have hnm2 : nm ≤ 2 ^ 20 := by omega
  clear hk hb hl hm hB hnl hnm hlm hmm
  go_enter Tryz.func42, Tryz.ntmps42
  go_upto_region 1 with fail
  obtain ⟨w2, hW2⟩ : ∃ w2, w1.alloc (.cells #[.int .i64 0, .int .i64 0, .int .i64 0, .int .i64 0, .int .i64 0, .int .i64 0, .int .i64 0, .slice none 0 0, .slice none 0 0] 31) = w2 := ⟨_, rfl⟩
  have hq := Blk.new w1 31 #[.int .i64 0, .int .i64 0, .int .i64 0, .int .i64 0, .int .i64 0, .int .i64 0, .int .i64 0, .slice none 0 0, .slice none 0 0]
  have hb2 := below_new w1 (.cells #[.int .i64 0, .int .i64 0, .int .i64 0, .int .i64 0, .int .i64 0, .int .i64 0, .int .i64 0, .slice none 0 0, .slice none 0 0] 31)
  rw [hW2] at hq hb2 ⊢
  have F2 := Lib.hid (fun W (hW : Below w2.heap.size w2 W) => FW.out W (below_trans hb2 hb2.size hW))
  have FQ := Lib.hid (fun W (hW : Below w2.heap.size w2 W) => hq.below hW hq.lt)
  have HL2 := Lib.hid (rows_keep HL.out hb2)
  have HM2 := Lib.hid (rows_keep HM.out hb2)
  have Hb2 := Lib.hid hb2
  have hq1 : w1.heap.size < w2.heap.size := hq.lt
  clear hW2 hW1 hq hb2 FW HL HM
  refine wp_region_F (F := fun W => Below w2.heap.size w2 W) (n := 9) (m := 10) (s := #[false, false, false, false, false, false, false, false, false, false]) (by kernel_rfl) (by kernel_rfl) (by kernel_rfl) ?_
  intro wd hwd
  have hF : Below w2.heap.size w2 wd := by rw [hwd.out]; exact (Below.refl _ _).drew
  clear hwd
  refine F_take (i := 0) (d := some 3) (by kernel_rfl) (by kernel_rfl) (by decide) (s' := #[true, false, false, false, false, false, false, false, false, false]) (by kernel_rfl) rfl rfl (by kernel_rfl) (by kernel_rfl) (by kernel_rfl) (fun _ _ _ h => h) (Or.inl ⟨by kernel_rfl, fun W hW => by obtain ⟨x0, x1, x2, x3, x4, x5, x6, x7, x8, -⟩ := F2.out W hW; go_simp; try with_reducible rfl⟩) hF ?_
  go_frame
  refine F_take (i := 2) (d := some 5) (by kernel_rfl) (by kernel_rfl) (by decide) (s' := #[true, false, true, false, false, false, false, false, false, false]) (by kernel_rfl) rfl rfl (by kernel_rfl) (by kernel_rfl) (by kernel_rfl) (fun _ _ _ h => h) (Or.inl ⟨by kernel_rfl, fun W hW => by obtain ⟨x0, x1, x2, x3, x4, x5, x6, x7, x8, -⟩ := F2.out W hW; go_simp; try with_reducible rfl⟩) hF ?_
  go_frame
  refine F_take (i := 5) (d := some 8) (by kernel_rfl) (by kernel_rfl) (by decide) (s' := #[true, false, true, false, false, true, false, false, false, false]) (by kernel_rfl) rfl rfl (by kernel_rfl) (by kernel_rfl) (by kernel_rfl) (fun _ _ _ h => h) (Or.inl ⟨by kernel_rfl, fun W hW => by obtain ⟨x0, x1, x2, x3, x4, x5, x6, x7, x8, -⟩ := F2.out W hW; go_simp; try with_reducible rfl⟩) hF ?_
  go_frame
  refine F_take (i := 1) (d := some 4) (by kernel_rfl) (by kernel_rfl) (by decide) (s' := #[true, true, true, false, false, true, false, false, false, false]) (by kernel_rfl) rfl rfl (by kernel_rfl) (by kernel_rfl) (by kernel_rfl) (fun _ _ _ h => h) (Or.inl ⟨by kernel_rfl, fun W hW => by obtain ⟨x0, x1, x2, x3, x4, x5, x6, x7, x8, -⟩ := F2.out W hW; go_simp; try with_reducible rfl⟩) hF ?_
  go_frame
  refine F_take (i := 3) (d := some 6) (by kernel_rfl) (by kernel_rfl) (by decide) (s' := #[true, true, true, true, false, true, false, false, false, false]) (by kernel_rfl) rfl rfl (by kernel_rfl) (by kernel_rfl) (by kernel_rfl) (fun _ _ _ h => h) (Or.inl ⟨by kernel_rfl, fun W hW => by obtain ⟨x0, x1, x2, x3, x4, x5, x6, x7, x8, -⟩ := F2.out W hW; go_simp; try with_reducible rfl⟩) hF ?_
  go_frame
  refine F_take (i := 6) (d := some 9) (by kernel_rfl) (by kernel_rfl) (by decide) (s' := #[true, true, true, true, false, true, true, false, false, false]) (by kernel_rfl) rfl rfl (by kernel_rfl) (by kernel_rfl) (by kernel_rfl) (fun _ _ _ h => h) (Or.inl ⟨by kernel_rfl, fun W hW => by obtain ⟨x0, x1, x2, x3, x4, x5, x6, x7, x8, -⟩ := F2.out W hW; go_simp; try with_reducible rfl⟩) hF ?_
  go_frame
  refine F_one (i := 4) (s' := #[true, true, true, true, true, true, true, false, false, false]) (by kernel_rfl) (by kernel_rfl) (wpOp_enterL (i := 4) (d := some 7) (f := 80) (args := #[.slice ka nl kc]) rfl rfl (by kernel_rfl) (by go_simp) ((cloneLnk ka kc ls wd w2.heap.size (HL2.out.below hF) hF.size (by have := Hnl.out; omega) nl Hnl.out).mono ?_))
  rintro r v4w ⟨va, rfl, oA, hb4⟩
  obtain ⟨Aa, ca, rfl⟩ : ∃ A c, va = .slice A nl c := by obtain ⟨A, c, e⟩ := oA.shape; exact ⟨A, c, by rw [e, Hnl.out]⟩
  have oA := OwnR.lower oA hF.size
  have hF := below_trans hF hF.size hb4
  refine ⟨_, rfl, fun _ => hF, ?_⟩
  go_frame
  clear hb4
  refine F_one (i := 7) (s' := #[true, true, true, true, true, true, true, true, false, false]) (by kernel_rfl) (by kernel_rfl) (wpOp_enterL (i := 7) (d := some 10) (f := 81) (args := #[.slice ma nm mc]) rfl rfl (by kernel_rfl) (by go_simp) ((cloneInt ma mc ms v4w w2.heap.size (HM2.out.below hF) hF.size (by have := Hnm.out; omega) nm Hnm.out).mono ?_))
  rintro r v7w ⟨vb, rfl, oB, hb7⟩
  obtain ⟨Ab, cb, rfl⟩ : ∃ A c, vb = .slice A nm c := by obtain ⟨A, c, e⟩ := oB.shape; exact ⟨A, c, by rw [e, Hnm.out]⟩
  have oA := OwnR.below oA hb7
  have oB := OwnR.lower oB hF.size
  have hF := below_trans hF hF.size hb7
  refine ⟨_, rfl, fun _ => hF, ?_⟩
  go_frame
  clear hb7
  refine F_take (i := 8) (d := some 11) (by kernel_rfl) (by kernel_rfl) (by decide) (s' := #[true, true, true, true, true, true, true, true, true, false]) (by kernel_rfl) rfl rfl (by kernel_rfl) (by kernel_rfl) (by kernel_rfl) (fun _ _ _ h => h) (Or.inl ⟨by kernel_rfl, fun W hW => by obtain ⟨x0, x1, x2, x3, x4, x5, x6, x7, x8, -⟩ := F2.out W hW; go_simp; try with_reducible rfl⟩) hF ?_
  go_frame
  obtain ⟨u0, u1, u2, u3, u4, u5, u6, u7, u8, uf⟩ := blk9 (FQ.out v7w hF)
  refine F_one (i := 9) (s' := #[true, true, true, true, true, true, true, true, true, true]) (by kernel_rfl) (by kernel_rfl) (wpOp_skipL (i := 9) (w' := (((((((((v7w.setCell ⟨w1.heap.size, 0, none⟩ (.int .i64 y1)).setCell ⟨w1.heap.size, 1, none⟩ (.int .i64 y2)).setCell ⟨w1.heap.size, 2, none⟩ (.int .i64 y3)).setCell ⟨w1.heap.size, 3, none⟩ (.int .i64 y4)).setCell ⟨w1.heap.size, 4, none⟩ (.int .i64 y5)).setCell ⟨w1.heap.size, 5, none⟩ (.int .i64 y6)).setCell ⟨w1.heap.size, 6, none⟩ (.int .i64 y7)).setCell ⟨w1.heap.size, 7, none⟩ (.slice Aa nl ca)).setCell ⟨w1.heap.size, 8, none⟩ (.slice Ab nm cb))) rfl rfl (by kernel_rfl) (by go_simp) ⟨fun h => absurd h (by decide), ?_⟩)
  go_frame
  refine F_done (by kernel_rfl) ?_ _
  clear u0 u1 u2 u3 u4 u5 u6 u7 u8 uf
  have Hqa : Hid ((Value.slice Aa nl ca).ownBlock ≠ some w1.heap.size) := Lib.hid (fun e => by have := (OwnR.block oA _ e).1; omega)
  have Hqb : Hid ((Value.slice Ab nm cb).ownBlock ≠ some w1.heap.size) := Lib.hid (fun e => by have := (OwnR.block oB _ e).1; omega)
  have HF := Lib.hid hF
  have OA := Lib.hid oA
  have OB := Lib.hid oB
  clear oA oB hF
  go_wp2
  refine bodyPost_named (v := .agg #[.int .i64 y1, .int .i64 y2, .int .i64 y3, .int .i64 y4, .int .i64 y5, .int .i64 y6, .int .i64 y7, .slice Aa nl ca, .slice Ab nm cb]) (fun W => Blk W w1.heap.size 31 #[.int .i64 y1, .int .i64 y2, .int .i64 y3, .int .i64 y4, .int .i64 y5, .int .i64 y6, .int .i64 y7, .slice Aa nl ca, .slice Ab nm cb]) (Blk.set9 (FQ.out v7w HF.out) _ _ _ _ _ _ _ _ _) (fun W hB => by
    obtain ⟨e0, e1, e2, e3, e4, e5, e6, e7, e8, -⟩ := blk9 hB
    simp [results, Tryz.results42, go_sem, e0, e1, e2, e3, e4, e5, e6, e7, e8]) rfl ?_
  exact ⟨Aa, ca, Ab, cb, rfl, OwnR.lower (own_far9 OA.out Hqa.out _ _ _ _ _ _ _ _ _) (Nat.le_trans hsz Hb2.out.size), OwnR.lower (own_far9 OB.out Hqb.out _ _ _ _ _ _ _ _ _) (Nat.le_trans hsz Hb2.out.size), below_set9 (below_trans Hb.out hsz (below_trans Hb2.out Hb2.out.size HF.out)) hsz _ _ _ _ _ _ _ _ _⟩

end Go.Proofs.YtpnbibokddhheaaGreat

/-
  Layer 7: a database in memory; a new one, its number.
-/
namespace Go.Proofs.YtpnbibokddhheaaGreat
open Go.RowKit

def dbL (M : List Lsa) : List (K3 × Value) := M.map fun x => (keyH x.head, x.val)
def getX (k : K3) : List Lsa → Option Lsa
  | [] => none
  | x :: M => if keyH x.head = k then some x else getX k M
def setX (y : Lsa) : List Lsa → List Lsa
  | [] => [y]
  | x :: M => if keyH x.head = keyH y.head then y :: M else x :: setX y M
theorem getL_db (k : K3) : ∀ M : List Lsa, getL k (dbL M) = (getX k M).map Lsa.val
  | [] => rfl
  | x :: M => by
    have ih := getL_db k M
    unfold dbL at ih ⊢
    by_cases hx : keyH x.head = k
    · simp [getL, getX, hx]
    · simp [getL, getX, hx, ih]
theorem setL_db (y : Lsa) : ∀ M : List Lsa, setL (keyH y.head) y.val (dbL M) = dbL (setX y M)
  | [] => rfl
  | x :: M => by
    have ih := setL_db y M
    unfold dbL at ih ⊢
    by_cases hx : keyH x.head = keyH y.head
    · simp [setL, setX, hx]
    · simp [setL, setX, hx, ih]
theorem getX_mem {k : K3} : ∀ {M : List Lsa} {x : Lsa}, getX k M = some x → x ∈ M ∧ keyH x.head = k
  | y :: M, x, h => by
    unfold getX at h
    by_cases hy : keyH y.head = k
    · rw [if_pos hy] at h
      injection h with h
      subst h
      exact ⟨by simp, hy⟩
    · rw [if_neg hy] at h
      have := getX_mem h
      exact ⟨by simp [this.1], this.2⟩
theorem setX_mem {y x : Lsa} : ∀ {M : List Lsa}, x ∈ setX y M → x ∈ M ∨ x = y
  | [], h => by simp [setX] at h; exact .inr h
  | z :: M, h => by
    unfold setX at h
    split at h
    · rcases List.mem_cons.1 h with e | h
      · exact .inr e
      · exact .inl (by simp [h])
    · rcases List.mem_cons.1 h with e | h
      · exact .inl (by simp [e])
      · rcases setX_mem h with h1 | h1
        · exact .inl (by simp [h1])
        · exact .inr h1
structure DbAt (w : World) (p b : Nat) (room : Int) (M : List Lsa) : Prop where
  ptr : Blk w p 114 #[.int .i64 room, .map (some b)]
  map : MapAt K3.enc w b (dbL M)
  rows : ∀ x ∈ M, RowsAt 4 Lnk.cells w w.heap.size x.ka x.links ∧ RowsAt 1 icell w w.heap.size x.ma x.members
  lens : ∀ x ∈ M, x.links.length ≤ 1000 ∧ x.members.length ≤ 1000
theorem rows_map {α κ : Type} {C : Nat} {cells : α → List Value} {w w' : World} {A : Option Addr} {R : List α} {b : Nat} {enc : κ → Value} {L : List (κ × Value)} (hC : ∀ x, (cells x).length = C) (hC0 : 0 < C) (h : RowsAt C cells w w.heap.size A R) (hm : MapAt enc w b L) (hg : w.grownBy w' (some b)) : RowsAt C cells w' w'.heap.size A R := by
  intro h0
  obtain ⟨b', o, e, hb, hc⟩ := h h0
  have hlt : 0 < (cells R[0]).length := by rw [hC]; exact hC0
  have h1 := hc 0 h0 0 _ hC0 (List.getElem?_eq_getElem hlt)
  have hne : b' ≠ b := by
    rintro rfl
    obtain ⟨es, clock, hb', -⟩ := hm
    simp [World.cell?, hb'] at h1
  refine ⟨b', o, e, Nat.lt_of_lt_of_le hb hg.size, fun k hk i u hi hu => ?_⟩
  exact (World.cell?_of_block (w := w) (a := ⟨b', o + k * C + i, none⟩) (hg.block b' hb (fun e => hne (Option.some.inj e)))).trans (hc k hk i u hi hu)
section
variable {w w' : World} {p b : Nat} {room : Int} {M M' : List Lsa}
theorem DbAt.keep (h : DbAt w p b room M) (hb : Below w.heap.size w w') : DbAt w' p b room M :=
  ⟨h.ptr.below hb h.ptr.lt, h.map.below hb h.map.lt, fun x hx => ⟨rows_keep (h.rows x hx).1 hb, rows_keep (h.rows x hx).2 hb⟩, h.lens⟩
theorem DbAt.ne (h : DbAt w p b room M) : p ≠ b := by
  intro e
  obtain ⟨es, clock, hb, -⟩ := h.map
  have hp := h.ptr
  unfold Blk at hp
  rw [e, hb] at hp
  cases hp
theorem DbAt.turned (h : DbAt w p b room M) (hg : w.grownBy w' (some b)) (hm : MapAt K3.enc w' b (dbL M'))
    (hr : ∀ x ∈ M', x ∈ M ∨ (RowsAt 4 Lnk.cells w' w'.heap.size x.ka x.links ∧ RowsAt 1 icell w' w'.heap.size x.ma x.members) ∧ x.links.length ≤ 1000 ∧ x.members.length ≤ 1000) : DbAt w' p b room M' :=
  ⟨h.ptr.grown hg (fun e => h.ne (by injection e)), hm, fun x hx => (hr x hx).elim (fun hx => ⟨rows_map (fun _ => rfl) (by decide) (h.rows x hx).1 h.map hg, rows_map (fun _ => rfl) (by decide) (h.rows x hx).2 h.map hg⟩) (·.1), fun x hx => (hr x hx).elim (h.lens x) (·.2)⟩
end
set_option maxHeartbeats 1000000 in
theorem DbNew (room : Int) (w : World) : Calls Tryz.prog 34 #[.int .i64 room] w fun r w' => r = .returned (.pointer (some ⟨w.heap.size + 1, 0, none⟩)) ∧ DbAt w' (w.heap.size + 1) w.heap.size (min (max room 1) 40) [] ∧ Below w.heap.size w w' := by
  have hmm := @run_makeMap Tryz.prog
  go_enter Tryz.func34, Tryz.ntmps34
  go_wp2
  all_goals
    go_ret
    first
      | exact ⟨rfl, ⟨Blk.size (by simp), (MapAt.new w).alloc _, by simp, by simp⟩, ((Below.refl _ _).alloc (Nat.le_refl _) _).alloc (by simp) _⟩
      | (rw [show min (max room 1) 40 = 1 by omega]; exact ⟨rfl, ⟨Blk.size (by simp), (MapAt.new w).alloc _, by simp, by simp⟩, ((Below.refl _ _).alloc (Nat.le_refl _) _).alloc (by simp) _⟩)
      | (rw [show min (max room 1) 40 = room by omega]; exact ⟨rfl, ⟨Blk.size (by simp), (MapAt.new w).alloc _, by simp, by simp⟩, ((Below.refl _ _).alloc (Nat.le_refl _) _).alloc (by simp) _⟩)
      | (rw [show min (max room 1) 40 = 40 by omega]; exact ⟨rfl, ⟨Blk.size (by simp), (MapAt.new w).alloc _, by simp, by simp⟩, ((Below.refl _ _).alloc (Nat.le_refl _) _).alloc (by simp) _⟩)
set_option maxHeartbeats 1000000 in
theorem DbLen (p b : Nat) (room : Int) (M : List Lsa) (w : World) (h : DbAt w p b room M) : Calls Tryz.prog 25 #[.pointer (some ⟨p, 0, none⟩)] w fun r w' => r = .returned (.int .i64 M.length) ∧ w' = w := by
  have hcell := h.ptr.cell 1
  simp only [List.getElem?_toArray, List.getElem?_cons_zero, List.getElem?_cons_succ] at hcell
  have hL : (dbL M).length = M.length := by simp [dbL]
  have hl := fun t => h.map.len_run (P := Tryz.prog) Tryz.underlying112 t
  rw [hL] at hl
  clear h hL
  go_enter Tryz.func25, Tryz.ntmps25
  go_wp2
  go_ret
  exact ⟨rfl, rfl⟩

end Go.Proofs.YtpnbibokddhheaaGreat

/-
  Layer 7: the description of a key.
-/
namespace Go.Proofs.YtpnbibokddhheaaGreat
open Go.RowKit

def zeroX : Lsa := ⟨⟨0, 0, 0, 0, 0, 0, 0⟩, none, 0, [], none, 0, []⟩
theorem zeroXv (w : World) : (zeroValue 31).run Tryz.prog w = .ok zeroX.val w := by kernel_rfl
theorem getL_valX (k : K3) (M : List Lsa) : (getL k (dbL M)).getD zeroX.val = ((getX k M).getD zeroX).val ∧ (getL k (dbL M)).isSome = (getX k M).isSome := by
  rw [getL_db]
  cases getX k M <;> exact ⟨rfl, rfl⟩
theorem blk9f {_w : World} {g : Nat} {t : TypeId} {a b c d e f x y z : Value} {F : Obj → World} (h : ∀ o, Blk (F o) g t #[a, b, c, d, e, f, x, y, z]) : (∀ o, (F o).cell? ⟨g, 0, none⟩ = some a) ∧ (∀ o, (F o).cell? ⟨g, 1, none⟩ = some b) ∧ (∀ o, (F o).cell? ⟨g, 2, none⟩ = some c) ∧ (∀ o, (F o).cell? ⟨g, 3, none⟩ = some d) ∧ (∀ o, (F o).cell? ⟨g, 4, none⟩ = some e) ∧ (∀ o, (F o).cell? ⟨g, 5, none⟩ = some f) ∧ (∀ o, (F o).cell? ⟨g, 6, none⟩ = some x) ∧ (∀ o, (F o).cell? ⟨g, 7, none⟩ = some y) ∧ (∀ o, (F o).cell? ⟨g, 8, none⟩ = some z) ∧ ∀ o i, (F o).frozen? ⟨g, i, none⟩ = false :=
  ⟨fun o => (h o).cell 0, fun o => (h o).cell 1, fun o => (h o).cell 2, fun o => (h o).cell 3, fun o => (h o).cell 4, fun o => (h o).cell 5, fun o => (h o).cell 6, fun o => (h o).cell 7, fun o => (h o).cell 8, fun o i => (h o).frozen i⟩
set_option maxHeartbeats 4000000 in
set_option maxRecDepth 100000 in
theorem DbGet (p b : Nat) (room : Int) (M : List Lsa) (k1 k2 k3 : Int) (w : World) (h : DbAt w p b room M) {h1 h2 h3 h4 h5 h6 h7 : Int} {ka : Option Addr} {kc : Nat} {ls : List Lnk} {ma : Option Addr} {mc : Nat} {ms : List Int} {is : Bool}
    (hy : (getX ⟨k1, k2, k3⟩ M).getD zeroX = ⟨⟨h1, h2, h3, h4, h5, h6, h7⟩, ka, kc, ls, ma, mc, ms⟩) (his : (getX ⟨k1, k2, k3⟩ M).isSome = is) (nl nm : Nat) (hnl : nl = ls.length) (hnm : nm = ms.length) :
    Calls Tryz.prog 22 #[.pointer (some ⟨p, 0, none⟩), .agg #[.int .i64 k1, .int .i64 k2, .int .i64 k3]] w fun r w' => ∃ Aa ca Ab cb, r = .returned (.tuple #[.agg #[.int .i64 h1, .int .i64 h2, .int .i64 h3, .int .i64 h4, .int .i64 h5, .int .i64 h6, .int .i64 h7, .slice Aa nl ca, .slice Ab nm cb], .bool is]) ∧ OwnR 152 4 Lnk.cells w' w.heap.size (.slice Aa nl ca) ls ∧ OwnR 3 1 icell w' w.heap.size (.slice Ab nm cb) ms ∧ Below w.heap.size w w' := by
  have hrw : RowsAt 4 Lnk.cells w w.heap.size ka ls ∧ RowsAt 1 icell w w.heap.size ma ms ∧ ls.length ≤ 1000 ∧ ms.length ≤ 1000 := by
    cases hx : getX ⟨k1, k2, k3⟩ M with
    | none =>
      rw [hx] at hy
      simp [zeroX] at hy
      obtain ⟨-, rfl, rfl, rfl, rfl, rfl, rfl⟩ := hy
      exact ⟨RowsAt.nil, RowsAt.nil, by simp, by simp⟩
    | some x =>
      rw [hx] at hy
      simp only [Option.getD_some] at hy
      have hm := (getX_mem hx).1
      rw [hy] at hm
      exact ⟨(h.rows _ hm).1, (h.rows _ hm).2, (h.lens _ hm).1, (h.lens _ hm).2⟩
  obtain ⟨w0, hW0⟩ : ∃ w0, (w.alloc (.cells #[.int .i64 k1, .int .i64 k2, .int .i64 k3] 69)).alloc (.cells #[.int .i64 0, .int .i64 0, .int .i64 0, .int .i64 0, .int .i64 0, .int .i64 0, .int .i64 0, .slice none 0 0, .slice none 0 0] 31) = w0 := ⟨_, rfl⟩
  have hk : Blk w0 w.heap.size 69 #[.int .i64 k1, .int .i64 k2, .int .i64 k3] := by rw [← hW0]; exact (Blk.new w _ _).alloc _
  have ho : Blk w0 (w.heap.size + 1) 31 #[.int .i64 0, .int .i64 0, .int .i64 0, .int .i64 0, .int .i64 0, .int .i64 0, .int .i64 0, .slice none 0 0, .slice none 0 0] := by rw [← hW0]; exact Blk.size (by simp)
  have hb0 : Below w.heap.size w w0 := by rw [← hW0]; exact ((Below.refl w.heap.size w).alloc (Nat.le_refl _) _).alloc (by simp) _
  have hw := h.keep hb0
  have Hb0 := Lib.hid hb0
  obtain ⟨z0, z1, z2⟩ : _ ∧ _ ∧ _ := ⟨hk.cell 0, hk.cell 1, hk.cell 2⟩
  have z3 := hw.ptr.cell 1
  simp only [List.getElem?_toArray, List.getElem?_cons_zero, List.getElem?_cons_succ] at z0 z1 z2 z3
  have hl := hw.map.drew.look_run keyK3 Tryz.underlying112 (zeroXv _) ⟨k1, k2, k3⟩ true
  simp only [if_true, K3.enc] at hl
  obtain ⟨e1, e2⟩ := getL_valX ⟨k1, k2, k3⟩ M
  rw [hy] at e1
  rw [his] at e2
  rw [e1, e2] at hl
  have hl2 := fun o => (hw.map.alloc o).drew.look_run keyK3 Tryz.underlying112 (zeroXv _) ⟨k1, k2, k3⟩ true
  simp only [if_true, K3.enc] at hl2
  rw [e1, e2] at hl2
  have c0 := fun o => (hk.alloc o).cell 0
  have c1 := fun o => (hk.alloc o).cell 1
  have c2 := fun o => (hk.alloc o).cell 2
  have c3 := fun o => (hw.ptr.alloc o).cell 1
  simp only [List.getElem?_toArray, List.getElem?_cons_zero, List.getElem?_cons_succ] at c0 c1 c2 c3
  unfold Lsa.val Lsa.cells at hl hl2
  simp only at hl hl2
  rw [← hnl, ← hnm] at hl hl2
  have Hrw := Lib.hid hrw
  have Hnl := Lib.hid hnl
  have Hnm := Lib.hid hnm
  have Ho := Lib.hid ho
  clear hk hw h e1 e2 ho hy his hrw hnl hnm hb0
  go_enter Tryz.func22, Tryz.ntmps22
  go_upto_region 3 with fail
  go_region
  go_upto_region 4 with fail
  obtain ⟨w4, hw4⟩ : ∃ w4, (w0.alloc (.cells #[.int .i64 h1, .int .i64 h2, .int .i64 h3, .int .i64 h4, .int .i64 h5, .int .i64 h6, .int .i64 h7, .slice ka nl kc, .slice ma nm mc] 31)).drew = w4 := ⟨_, rfl⟩
  have hk4 : Blk w4 w0.heap.size 31 #[.int .i64 h1, .int .i64 h2, .int .i64 h3, .int .i64 h4, .int .i64 h5, .int .i64 h6, .int .i64 h7, .slice ka nl kc, .slice ma nm mc] := by rw [← hw4]; exact Blk.new w0 _ _
  have hb4 : Below w0.heap.size w0 w4 := by rw [← hw4]; exact (below_new w0 _).drew
  have hb4w := below_trans Hb0.out Hb0.out.size hb4
  have HOW := Lib.hid (own_any h1 h2 h3 h4 h5 h6 h7 ka kc ls ma mc ms w4 w.heap.size (Hrw.out.1.below hb4w) (Hrw.out.2.1.below hb4w) hb4w.size (by have := Hrw.out.2.2.1; omega) (by have := Hrw.out.2.2.2; omega) nl nm Hnl.out Hnm.out)
  have hs0 : w0.heap.size = w.heap.size + 2 := by rw [← hW0]; simp
  have Hb4w := Lib.hid hb4w
  have Ho4 := Lib.hid (Ho.out.below hb4 (by omega))
  obtain ⟨p0, p1, p2, p3, p4, p5, p6, p7, p8, pf⟩ := blk9 hk4
  rw [hw4]
  have hq4 : w.heap.size + 1 < w4.heap.size := Ho4.out.lt
  clear hW0 hw4 hk4 hb4 hb4w z0 z1 z2 z3 hl hl2 c0 c1 c2 c3
  rw [hs0] at p0 p1 p2 p3 p4 p5 p6 p7 p8 pf
  go_wp2_with (go_at_call 42; (with_reducible refine Calls.mono HOW.out ?_); rintro r w5 ⟨Aa, ca, Ab, cb, rfl, oa, ob, hb5⟩; have OA := Lib.hid oa; have OB := Lib.hid ob; have Hb5 := Lib.hid hb5; obtain ⟨q0, q1, q2, q3, q4, q5, q6, q7, q8, qf⟩ := blk9 (Ho4.out.below hb5 Ho4.out.lt); clear oa ob hb5)
  have hna : (Value.slice Aa nl ca).ownBlock ≠ some (w.heap.size + 1) := fun e => by have := (OwnR.block OA.out _ e).1; omega
  have hnb : (Value.slice Ab nm cb).ownBlock ≠ some (w.heap.size + 1) := fun e => by have := (OwnR.block OB.out _ e).1; omega
  refine bodyPost_named (v := .tuple #[.agg #[.int .i64 h1, .int .i64 h2, .int .i64 h3, .int .i64 h4, .int .i64 h5, .int .i64 h6, .int .i64 h7, .slice Aa nl ca, .slice Ab nm cb], .bool is]) (fun W => Blk W (w.heap.size + 1) 31 #[.int .i64 h1, .int .i64 h2, .int .i64 h3, .int .i64 h4, .int .i64 h5, .int .i64 h6, .int .i64 h7, .slice Aa nl ca, .slice Ab nm cb]) (Blk.set9 (Ho4.out.below Hb5.out Ho4.out.lt) _ _ _ _ _ _ _ _ _) (fun W hB => by
    obtain ⟨e0, e1, e2, e3, e4, e5, e6, e7, e8, -⟩ := blk9 hB
    simp [results, Tryz.results22, go_sem, e0, e1, e2, e3, e4, e5, e6, e7, e8]) rfl ?_
  exact ⟨Aa, ca, Ab, cb, rfl, OwnR.lower (own_far9 OA.out hna _ _ _ _ _ _ _ _ _) Hb4w.out.size, OwnR.lower (own_far9 OB.out hnb _ _ _ _ _ _ _ _ _) Hb4w.out.size, below_set9 (below_trans Hb4w.out Hb4w.out.size Hb5.out) (by omega) _ _ _ _ _ _ _ _ _⟩

end Go.Proofs.YtpnbibokddhheaaGreat

/-
  Layer 7 in plain words: the document's list in order, beside what a map has.
-/
namespace Go.Proofs.YtpnbibokddhheaaGreat

def insX (y : Lsa) : List Lsa → List Lsa
  | [] => [y]
  | x :: L => if lessK (keyX y) (keyX x) = true then y :: x :: L else x :: insX y L
def dropX (k : K3) (L : List Lsa) : List Lsa := L.filter fun x => decide (keyX x ≠ k)
def findX (k : K3) : List Lsa → Int
  | [] => -1
  | x :: L => if keyX x = k then 0 else if findX k L < 0 then -1 else findX k L + 1
theorem findX_ge (k : K3) : ∀ L : List Lsa, -1 ≤ findX k L ∧ findX k L < L.length
  | [] => ⟨by simp [findX], by simp [findX]⟩
  | x :: L => by
    have := findX_ge k L
    unfold findX
    simp only [List.length_cons]
    split
    · omega
    · split <;> omega
theorem findX_at {k : K3} : ∀ {L : List Lsa} {j : Nat} (hj : j < L.length), keyX L[j] = k → (∀ i, (hi : i < j) → (hl : i < L.length) → keyX L[i] ≠ k) → findX k L = j
  | x :: L, 0, _, he, _ => by simp at he; simp [findX, he]
  | x :: L, j + 1, hj, he, h0 => by
    have h1 := h0 0 (by omega) (by simp)
    simp only [List.getElem_cons_zero] at h1
    have h2 := findX_at (L := L) (j := j) (by simpa using hj) (by simpa using he) (fun i hi hl => by
      have := h0 (i + 1) (by omega) (by simp; omega)
      simpa using this)
    unfold findX
    rw [if_neg h1, if_neg (by omega), h2]
    omega
theorem findX_none {k : K3} : ∀ {L : List Lsa}, (∀ i, (hi : i < L.length) → keyX L[i] ≠ k) → findX k L = -1
  | [], _ => rfl
  | x :: L, h0 => by
    have h1 := h0 0 (by simp)
    simp only [List.getElem_cons_zero] at h1
    have h2 := findX_none (L := L) (fun i hi => by
      have := h0 (i + 1) (by simp; omega)
      simpa using this)
    unfold findX
    rw [if_neg h1, if_pos (by omega)]
theorem findX_get {k : K3} : ∀ {L : List Lsa}, (findX k L < 0 ∧ getX k L = none ∧ dropX k L = L) ∨ (∃ (j : Nat) (hj : j < L.length), findX k L = j ∧ getX k L = some L[j] ∧ keyX L[j] = k ∧ ∀ h : Lsa, keyX h = k → setX h L = L.set j h)
  | [] => .inl ⟨by simp [findX], rfl, rfl⟩
  | x :: L => by
    by_cases hx : keyX x = k
    · right
      have hx' : keyH x.head = k := hx
      refine ⟨0, by simp, ?_, ?_, hx, fun h hh => ?_⟩
      · simp [findX, hx]
      · simp [getX, hx']
      · have hh' : keyH h.head = k := hh
        simp [setX, hx', hh']
    · have hx' : ¬ keyH x.head = k := hx
      rcases findX_get (k := k) (L := L) with ⟨h1, h2, h3⟩ | ⟨j, hj, h1, h2, h3, h4⟩
      · left
        refine ⟨?_, ?_, ?_⟩
        · unfold findX; rw [if_neg hx, if_pos h1]; omega
        · unfold getX; rw [if_neg hx', h2]
        · unfold dropX at h3 ⊢
          rw [List.filter_cons_of_pos (by simpa using hx), h3]
      · right
        refine ⟨j + 1, by simp; omega, ?_, ?_, by simpa using h3, fun h hh => ?_⟩
        · unfold findX; rw [if_neg hx, if_neg (by omega), h1]; omega
        · unfold getX; rw [if_neg hx', h2]; simp
        · have hh' : keyH h.head = k := hh
          unfold setX; rw [if_neg (by rw [hh']; exact hx'), h4 h hh]; simp
theorem getX_none2 {k : K3} : ∀ {M : List Lsa}, getX k M = none ↔ ∀ x ∈ M, keyX x ≠ k
  | [] => by simp [getX]
  | y :: M => by
    unfold getX
    by_cases hy : keyH y.head = k
    · simp [hy, keyX]
    · simp [hy, keyX, getX_none2 (M := M)]
theorem getX_of {M : List Lsa} (hn : (M.map keyX).Nodup) {x : Lsa} (hx : x ∈ M) : getX (keyX x) M = some x := by
  induction M with
  | nil => simp at hx
  | cons y M ih =>
    simp only [List.map_cons, List.nodup_cons] at hn
    unfold getX
    by_cases hy : keyH y.head = keyX x
    · rw [if_pos hy]
      rcases List.mem_cons.1 hx with e | hx
      · rw [e]
      · exact absurd (by rw [show keyX y = keyX x from hy]; exact List.mem_map_of_mem hx) hn.1
    · rw [if_neg hy]
      rcases List.mem_cons.1 hx with e | hx
      · exact absurd (by rw [e]; rfl) hy
      · exact ih hn.2 hx
theorem setX_perm (h : Lsa) : ∀ {M : List Lsa}, (M.map keyX).Nodup → (setX h M).Perm (h :: dropX (keyX h) M)
  | [], _ => by simp [setX, dropX]
  | x :: M, hn => by
    simp only [List.map_cons, List.nodup_cons] at hn
    unfold setX
    by_cases hx : keyH x.head = keyH h.head
    · have hx' : keyX x = keyX h := hx
      rw [if_pos hx]
      have : dropX (keyX h) (x :: M) = M := by
        unfold dropX
        rw [List.filter_cons_of_neg (by simp [hx'])]
        exact List.filter_eq_self.2 fun y hy => by simpa using fun e => hn.1 (by rw [hx', ← e]; exact List.mem_map_of_mem hy)
      rw [this]
    · have hx' : ¬ keyX x = keyX h := hx
      rw [if_neg hx]
      have : dropX (keyX h) (x :: M) = x :: dropX (keyX h) M := by unfold dropX; rw [List.filter_cons_of_pos (by simpa using hx')]
      rw [this]
      exact ((setX_perm h hn.2).cons x).trans (List.Perm.swap _ _ _)
theorem insX_perm (h : Lsa) : ∀ L : List Lsa, (insX h L).Perm (h :: L)
  | [] => List.Perm.refl _
  | x :: L => by
    unfold insX
    split
    · exact List.Perm.refl _
    · exact ((insX_perm h L).cons x).trans (List.Perm.swap _ _ _)
def sortedX (L : List Lsa) : Prop := L.Pairwise fun x y => lessK (keyX x) (keyX y) = true
theorem sortedX.keys {L : List Lsa} (h : sortedX L) : (L.map keyX).Nodup := by
  unfold sortedX at h
  rw [List.Nodup, List.pairwise_map]
  exact h.imp fun {a b} hab e => by rw [e, lessK_irr] at hab; cases hab
theorem insX_sorted {h : Lsa} : ∀ {L : List Lsa}, sortedX L → (∀ x ∈ L, keyX x ≠ keyX h) → sortedX (insX h L)
  | [], _, _ => by simp [insX, sortedX]
  | x :: L, hs, hn => by
    unfold sortedX at hs
    rw [List.pairwise_cons] at hs
    unfold insX
    by_cases hl : lessK (keyX h) (keyX x) = true
    · rw [if_pos hl]
      unfold sortedX
      rw [List.pairwise_cons, List.pairwise_cons]
      refine ⟨fun y hy => ?_, hs⟩
      rcases List.mem_cons.1 hy with rfl | hy
      · exact hl
      · exact lessK_trans hl (hs.1 y hy)
    · rw [if_neg hl]
      have hl2 : lessK (keyX x) (keyX h) = true := by
        cases h3 : lessK (keyX x) (keyX h) with
        | true => rfl
        | false => exact absurd (lessK_tot h3 (by simpa using hl)) (hn x (by simp))
      unfold sortedX
      rw [List.pairwise_cons]
      refine ⟨fun y hy => ?_, insX_sorted hs.2 fun y hy => hn y (by simp [hy])⟩
      rcases List.mem_cons.1 ((insX_perm h L).subset hy) with rfl | hy
      · exact hl2
      · exact hs.1 y hy
/-- the same, but for where it lies, and the order -/
structure DEq (M L : List Lsa) : Prop where
  perm : (M.map vX).Perm (L.map vX)
  sorted : sortedX L
theorem DEq.nil : DEq [] [] := ⟨List.Perm.refl _, List.Pairwise.nil⟩
section
variable {M L : List Lsa}
theorem DEq.len (h : DEq M L) : M.length = L.length := by have := h.perm.length_eq; simpa using this
theorem DEq.nodup (h : DEq M L) : (M.map keyX).Nodup := by
  rw [← map_keys, (h.perm.map keyV).nodup_iff, map_keys]
  exact h.sorted.keys
theorem DEq.find (h : DEq M L) (k : K3) : (getX k M = none ∧ findX k L < 0 ∧ dropX k L = L) ∨ ∃ (a : Lsa) (j : Nat) (hj : j < L.length), getX k M = some a ∧ findX k L = j ∧ keyX L[j] = k ∧ vX L[j] = vX a ∧ ∀ z : Lsa, keyX z = k → setX z L = L.set j z := by
  rcases findX_get (k := k) (L := L) with ⟨h1, h2, h3⟩ | ⟨j, hj, h1, h2, h3, h4⟩
  · refine .inl ⟨?_, h1, h3⟩
    rw [getX_none2] at h2 ⊢
    intro x hx e
    have hm : vX x ∈ L.map vX := h.perm.subset (List.mem_map_of_mem hx)
    obtain ⟨y, hy, hyx⟩ := List.mem_map.1 hm
    exact h2 y hy (by rw [← keyV_vX, hyx, keyV_vX, e])
  · have hm : vX L[j] ∈ M.map vX := h.perm.symm.subset (List.mem_map_of_mem (List.getElem_mem hj))
    obtain ⟨a, ha, hav⟩ := List.mem_map.1 hm
    have hk : keyX a = k := by rw [← h3, ← keyV_vX, hav, keyV_vX]
    refine .inr ⟨a, j, hj, ?_, h1, h3, hav.symm, h4⟩
    rw [← hk]
    exact getX_of h.nodup ha
theorem drop_map (k : K3) (L : List Lsa) : (dropX k L).map vX = (L.map vX).filter fun v => decide (keyV v ≠ k) := by
  unfold dropX
  rw [List.filter_map]
  rfl
theorem DEq.put (h : DEq M L) {y z : Lsa} (hv : vX y = vX z) : DEq (setX y M) (insX z (dropX (keyX z) L)) := by
  have hk : keyX y = keyX z := by rw [← keyV_vX, hv, keyV_vX]
  have hs : sortedX (dropX (keyX z) L) := h.sorted.sublist List.filter_sublist
  refine ⟨((setX_perm y h.nodup).map vX).trans ?_, insX_sorted hs fun x hx => by have := (List.mem_filter.1 hx).2; simpa using this⟩
  refine List.Perm.trans ?_ ((insX_perm z _).map vX).symm
  rw [List.map_cons, List.map_cons, hv, hk]
  refine List.Perm.cons _ ?_
  rw [drop_map, drop_map]
  exact h.perm.filter _
theorem DEq.set_ (h : DEq M L) {y z : Lsa} {j : Nat} (hj : j < L.length) (hv : vX y = vX z) (hk : keyX L[j] = keyX z) (hs : setX z L = L.set j z) : DEq (setX y M) (L.set j z) := by
  have hky : keyX y = keyX z := by rw [← keyV_vX, hv, keyV_vX]
  refine ⟨((setX_perm y h.nodup).map vX).trans ?_, ?_⟩
  · rw [← hs]
    refine List.Perm.trans ?_ ((setX_perm z h.sorted.keys).map vX).symm
    rw [List.map_cons, List.map_cons, hv, hky]
    refine List.Perm.cons _ ?_
    rw [drop_map, drop_map]
    exact h.perm.filter _
  · have e : (L.set j z).map keyX = L.map keyX := by
      rw [List.map_set, ← hk, show keyX L[j] = (L.map keyX)[j]'(by simpa using hj) by simp, List.set_getElem_self]
    have h1 : (L.map keyX).Pairwise fun x y => lessK x y = true := by rw [List.pairwise_map]; exact h.sorted
    rw [← e, List.pairwise_map] at h1
    exact h1
end

end Go.Proofs.YtpnbibokddhheaaGreat
