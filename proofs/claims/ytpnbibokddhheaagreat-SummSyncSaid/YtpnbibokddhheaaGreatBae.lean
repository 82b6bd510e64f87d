/-
  A description's bytes: the program's way.
-/
import Derived.ArgAppend
import Derived.Test.YtpnbibokddhheaaGreatBad
namespace Go.Proofs.YtpnbibokddhheaaGreat
open Go.RowKit

def lnkL (x : Lnk) : List Int := ([x.id, x.data].flatMap (beL 4) ++ [x.kind, 0].flatMap (beL 1)) ++ [x.cost].flatMap (beL 2)
def routerL (ls : List Lnk) : List Int := [(ls.length : Int)].flatMap (beL 4) ++ ls.flatMap lnkL
def bodyL (kind : Int) (ls : List Lnk) (ms : List Int) : List Int := if kind = 1 then routerL ls else ms.flatMap (beL 4)
def rawL (h : Hd) (b : List Int) : List Int := headL { h with sum := 0, long := 20 + (b.length : Int) } ++ b
def sealL (r : List Int) : List Int := r.take 2 ++ fillL (r.drop 2)
def bytesL (h : Hd) (ls : List Lnk) (ms : List Int) : List Int := sealL (rawL h (bodyL h.kind ls ms))
theorem lnkL_len (x : Lnk) : (lnkL x).length = 12 := by simp [lnkL, beL_len]
theorem flat_len {α : Type} (f : α → List Int) (k : Nat) (hf : ∀ x, (f x).length = k) (l : List α) : (l.flatMap f).length = k * l.length := by
  induction l with
  | nil => simp
  | cons a l ih => rw [List.flatMap_cons, List.length_append, hf, ih, List.length_cons, Nat.mul_add]; omega
theorem routerL_len (ls : List Lnk) : (routerL ls).length = 4 + 12 * ls.length := by simp [routerL, beL_len, flat_len _ _ lnkL_len]
theorem bodyL_len (kind : Int) (ls : List Lnk) (ms : List Int) (hl : ls.length ≤ 1000) (hm : ms.length ≤ 1000) : (bodyL kind ls ms).length ≤ 20000 := by
  unfold bodyL
  split
  · rw [routerL_len]; omega
  · rw [flat_len _ _ (beL_len 4)]; omega
theorem byteI_ok (n : Int) (k : Nat) : byteOk (byteI n k) := by
  unfold byteI
  exact ⟨Int.emod_nonneg _ (by decide), Int.emod_lt_of_pos _ (by decide)⟩
theorem beL_ok (k : Nat) (n : Int) : ∀ x ∈ beL k n, byteOk x := by
  intro x hx
  unfold beL at hx
  obtain ⟨j, -, rfl⟩ := List.mem_map.1 hx
  exact byteI_ok n j
theorem flatB_ok (k : Nat) (ns : List Int) : ∀ x ∈ ns.flatMap (beL k), byteOk x := by
  intro x hx
  obtain ⟨y, -, hy⟩ := List.mem_flatMap.1 hx
  exact beL_ok k y x hy
theorem app_ok {a b : List Int} (ha : ∀ x ∈ a, byteOk x) (hb : ∀ x ∈ b, byteOk x) : ∀ x ∈ a ++ b, byteOk x := by
  intro x hx
  rcases List.mem_append.1 hx with h | h
  · exact ha x h
  · exact hb x h
theorem lnkL_ok (x : Lnk) : ∀ y ∈ lnkL x, byteOk y := app_ok (app_ok (flatB_ok _ _) (flatB_ok _ _)) (flatB_ok _ _)
theorem headL_ok (h : Hd) : ∀ y ∈ headL h, byteOk y := app_ok (app_ok (app_ok (app_ok (by simp) (flatB_ok _ _)) (flatB_ok _ _)) (flatB_ok _ _)) (flatB_ok _ _)
theorem bodyL_ok (kind : Int) (ls : List Lnk) (ms : List Int) : ∀ y ∈ bodyL kind ls ms, byteOk y := by
  unfold bodyL
  split
  · refine app_ok (flatB_ok _ _) (fun x hx => ?_)
    obtain ⟨y, -, hy⟩ := List.mem_flatMap.1 hx
    exact lnkL_ok y x hy
  · exact flatB_ok _ _
theorem rawL_ok (h : Hd) (b : List Int) (hb : ∀ x ∈ b, byteOk x) : ∀ x ∈ rawL h b, byteOk x := app_ok (headL_ok _) hb
theorem rawL_len (h : Hd) (b : List Int) : (rawL h b).length = 20 + b.length := by unfold rawL; rw [List.length_append, headL_len]
theorem fillL_len (b : List Int) : (fillL b).length = b.length := by simp [fillL, zero2]
theorem sealL_len (r : List Int) (hr : 2 ≤ r.length) : (sealL r).length = r.length := by
  unfold sealL
  rw [List.length_append, fillL_len, List.length_take, List.length_drop]
  omega
theorem rows_drop {α : Type} {C : Nat} {cells : α → List Value} {w : World} {B b o : Nat} {M : List α} (hM : RowsAt C cells w B (some ⟨b, o, none⟩) M) (n : Nat) (hn : n ≤ M.length) (hn0 : 0 < M.length): RowsAt C cells w B (some ⟨b, o + n * C, none⟩) (M.drop n) := by
  intro h0
  obtain ⟨b', o', e, hb, hc⟩ := hM hn0
  injection e with e
  injection e with e1 e2
  subst e1 e2
  refine ⟨b, o + n * C, rfl, hb, fun k hk i u hi hu => ?_⟩
  rw [List.length_drop] at hk
  rw [List.getElem_drop] at hu
  have := hc (n + k) (by omega) i u hi hu
  rw [show o + n * C + k * C + i = o + (n + k) * C + i by rw [Nat.add_mul]; omega]
  exact this
theorem flatC_len (M : List Int) : (M.flatMap bcell).length = M.length := by
  induction M with
  | nil => rfl
  | cons a M ih => rw [List.flatMap_cons, List.length_append, ih, List.length_cons]; simp [bcell]; omega
/-- onto a slice of two bytes that has no room -/
theorem app_two {w : World} {ops : Array Oper} {rest : List Oper} {o : Oper} {a : Act} {Q : Exit → Act → World → Prop} (hgd : o.guard = none) (s x : Operand)
    (ho : o.op = .call { callee := .builtin .append, args := #[s, x], argTypes := #[24, 24] })
    (g : Nat) (a0 b0 : Int) (hs : a.eval s = .slice (some ⟨g, 0, none⟩) 2 2) (h0 : w.cell? ⟨g, 0, none⟩ = some (.int .u8 a0)) (h1 : w.cell? ⟨g, 1, none⟩ = some (.int .u8 b0))
    (A : Option Addr) (c m : Nat) (M : List Int) (hm : m = M.length) (hx : a.eval x = .slice A m c) (hM : RowsAt 1 bcell w w.heap.size A M) (hlen : M.length ≤ 2 ^ 20) (hpos : 0 < M.length)
    (h : ∀ v' w', OwnB w' w.heap.size v' ([a0, b0] ++ M) → w.grownBy w' none → wpList Tryz.prog ops Q rest (a.put o.dst v') w') : wpList Tryz.prog ops Q (o :: rest) a w := by
  subst hm
  obtain ⟨i0, hi, hz0, hz1, hz2⟩ := info_parts infoB
  obtain ⟨b, o5, rfl, -, hc⟩ := hM hpos
  refine wpList_append_arg w hgd s x _ ho 5 i0 _ 1 1 Tryz.underlying24 hi hz0 hz1 hz2 rfl (by decide) g 0 2 2 ([a0, b0].flatMap bcell) hs (by simp [bcell]) ?_ ⟨b, o5, none⟩ M.length c (M.flatMap bcell) hx (by rw [flatC_len]; omega) ?_ ?_ (fun h => by omega) (by unfold maxLen; omega) (by omega) (fun h => by omega) ?_
  · intro j u hu
    match j, hu with
    | 0, hu => simp [bcell] at hu; subst hu; exact h0
    | 1, hu => simp [bcell] at hu; subst hu; exact h1
    | (j + 2), hu => simp [bcell] at hu
  · intro j u hu
    rw [Addr.add_lit]
    have hj : j < M.length := by
      have := (List.getElem?_eq_some_iff.1 hu).1
      rwa [flatC_len] at this
    have e := flatR bcell 1 (fun _ => rfl) M j 0 hj (by decide)
    rw [Nat.mul_one, Nat.add_zero] at e
    rw [e] at hu
    have := hc j hj 0 u (by decide) hu
    rw [Nat.mul_one, Nat.add_zero] at this
    exact this
  · intro u hu
    obtain ⟨y, _, hy⟩ := List.mem_flatMap.1 hu
    exact onesB y u hy
  · intro _ v' w' r1 r2
    refine h v' w' ?_ r2
    unfold OwnB OwnR
    rw [List.length_append, List.flatMap_append]
    rw [show [a0, b0].length + M.length = 2 + M.length by simp]
    exact r1

theorem take_two (z : List Int) (h : 1 < z.length) : z.take 2 = [z[0], z[1]] := by
  match z, h with
  | [], h => simp at h
  | [a], h => simp at h
  | a :: b' :: z, _ => rfl
theorem blk4 {w : World} {g : Nat} {t : TypeId} {a b c d : Value} (h : Blk w g t #[a, b, c, d]) : w.cell? ⟨g, 0, none⟩ = some a ∧ w.cell? ⟨g, 1, none⟩ = some b ∧ w.cell? ⟨g, 2, none⟩ = some c ∧ w.cell? ⟨g, 3, none⟩ = some d ∧ ∀ i, w.frozen? ⟨g, i, none⟩ = false :=
  ⟨h.cell 0, h.cell 1, h.cell 2, h.cell 3, fun i => h.frozen i⟩
theorem blk7c {w : World} {g : Nat} {t : TypeId} {a b c d e f x : Value} (h : Blk w g t #[a, b, c, d, e, f, x]) : w.cell? ⟨g, 0, none⟩ = some a ∧ w.cell? ⟨g, 1, none⟩ = some b ∧ w.cell? ⟨g, 2, none⟩ = some c ∧ w.cell? ⟨g, 3, none⟩ = some d ∧ w.cell? ⟨g, 4, none⟩ = some e ∧ w.cell? ⟨g, 5, none⟩ = some f ∧ w.cell? ⟨g, 6, none⟩ = some x ∧ ∀ i, w.frozen? ⟨g, i, none⟩ = false :=
  ⟨h.cell 0, h.cell 1, h.cell 2, h.cell 3, h.cell 4, h.cell 5, h.cell 6, fun i => h.frozen i⟩
theorem own_some {w : World} {B n : Nat} {v : Value} {L : List Int} (h : OwnB w B v L) (hn : L.length = n) (h0 : 0 < n) : ∃ g c, n ≤ c ∧ v = .slice (some ⟨g, 0, none⟩) n c := by
  subst hn
  rcases h.shape2 with ⟨-, hl⟩ | ⟨g, c5, rfl, hc5⟩
  · rw [hl] at h0; simp at h0
  · exact ⟨g, c5, hc5, rfl⟩
set_option maxHeartbeats 8000000 in
set_option maxRecDepth 100000 in
theorem bytes_any (y1 y2 y3 y4 y5 y6 y7 : Int) (ka : Option Addr) (kc : Nat) (ls : List Lnk) (ma : Option Addr) (mc : Nat) (ms : List Int) (w : World) (B : Nat) (hl : RowsAt 4 Lnk.cells w B ka ls) (hm : RowsAt 1 icell w B ma ms) (hB : B ≤ w.heap.size) (hlm : ls.length ≤ 1000) (hmm : ms.length ≤ 1000) (nl nm : Nat) (hnl : nl = ls.length) (hnm : nm = ms.length) :
    Calls Tryz.prog 91 #[.agg #[.int .i64 y1, .int .i64 y2, .int .i64 y3, .int .i64 y4, .int .i64 y5, .int .i64 y6, .int .i64 y7, .slice ka nl kc, .slice ma nm mc]] w fun r w' => ∃ v, r = .returned v ∧ OwnB w' w.heap.size v (bytesL ⟨y1, y2, y3, y4, y5, y6, y7⟩ ls ms) ∧ Below w.heap.size w w' := by
  obtain ⟨w1, hW1⟩ : ∃ w1, w.alloc (.cells #[.int .i64 y1, .int .i64 y2, .int .i64 y3, .int .i64 y4, .int .i64 y5, .int .i64 y6, .int .i64 y7, .slice ka nl kc, .slice ma nm mc] 31) = w1 := ⟨_, rfl⟩
  have hk := Blk.new w 31 #[.int .i64 y1, .int .i64 y2, .int .i64 y3, .int .i64 y4, .int .i64 y5, .int .i64 y6, .int .i64 y7, .slice ka nl kc, .slice ma nm mc]
  have hb := below_new w (.cells #[.int .i64 y1, .int .i64 y2, .int .i64 y3, .int .i64 y4, .int .i64 y5, .int .i64 y6, .int .i64 y7, .slice ka nl kc, .slice ma nm mc] 31)
  rw [hW1] at hk hb
  have FW := Lib.hid (fun W (hW : Below w1.heap.size w1 W) => blk9 (hk.below hW hk.lt))
  have Hb := Lib.hid hb
  have HL := Lib.hid (rows_keep (hl.more hB) hb)
  have HM := Lib.hid (rows_keep (hm.more hB) hb)
  have hsz := hb.size
  have Hnl := Lib.hid hnl
  have Hnm := Lib.hid hnm
  have hnl2 : nl ≤ 1000 := by omega
  have hnm2 : nm ≤ 1000 := by omega
  clear hk hb hl hm hB hnl hnm hlm hmm
  go_enter Tryz.func91, Tryz.ntmps91
  have z := FW.out w1 (Below.refl _ _)
  obtain ⟨z0, z1, z2, z3, z4, z5, z6, z7, z8, zf⟩ := z
  go_upto_if 13 with fail
  go_cut [3] (fun v wx => ∃ A c, v = .slice A (bodyL y2 ls ms).length c ∧ RowsAt 1 bcell wx wx.heap.size A (bodyL y2 ls ms) ∧ Below w1.heap.size w1 wx)
  case first =>
    skip
    by_cases hk1 : y2 = 1
    · subst hk1
      have HQ := Lib.hid (quadPut none 0 ([] : List Int) 4 (by decide) (by decide) (some ⟨w1.heap.size, 0, none⟩) 1 [(nl : Int)] (w1.alloc (.cells #[.int .i64 (nl : Int)] 3)) (w1.alloc (.cells #[.int .i64 (nl : Int)] 3)).heap.size RowsAt.nil (ints_new w1 3 [(nl : Int)]) (Nat.le_refl _) (by simp) (by simp) 0 1 rfl rfl)
      have Hb1 := Lib.hid (below_new w1 (.cells #[.int .i64 (nl : Int)] 3))
      have H1L : Hid ((([] : List Int) ++ [(nl : Int)].flatMap (beL 4)).length = 4) := Lib.hid (by simp [beL_len])
      go_wp2_with (go_at_call 130; (with_reducible refine Calls.mono HQ.out ?_); rintro r w2 ⟨v, rfl, hown, hb2⟩; obtain ⟨A0, c0, hv0⟩ := hown.shape; (rw [H1L.out] at hv0); subst hv0; obtain ⟨q0, q1, q2, q3, q4, q5, q6, q7, q8, -⟩ := FW.out _ (below_trans Hb1.out Hb1.out.size hb2); have Hb2 := Lib.hid (below_trans Hb1.out Hb1.out.size hb2); have HR0 := Lib.hid (OwnR.rows (C := 1) (cells := bcell) (fun _ => rfl) hown).2; clear hown hb2)
      obtain ⟨M0, hM0⟩ : ∃ M0, ([] : List Int) ++ [(nl : Int)].flatMap (beL 4) = M0 := ⟨_, rfl⟩
      have HM0 := Lib.hid hM0
      have hn0 : M0.length = 4 := by rw [← hM0]; exact H1L.out
      rw [hM0] at HR0
      have Hn0 := Lib.hid hn0
      clear hM0 hn0
      go_loopw [3, 22] (fun o i wr => ∃ (j : Nat) (M : List Int) (A : Option Addr) (c : Nat), o = .slice A M.length c ∧ i = .int .i64 j ∧ j ≤ ls.length ∧ M = M0 ++ (ls.take j).flatMap lnkL ∧ M.length = 4 + 12 * j ∧ RowsAt 1 bcell wr wr.heap.size A M ∧ Below w1.heap.size w1 wr) (fun _ i _ => ls.length - (intOf i).toNat)
      case atStart => exact ⟨0, M0, _, _, by rw [Hn0.out], rfl, Nat.zero_le _, by simp, by rw [Hn0.out], HR0.out, Hb2.out⟩
      case round =>
        obtain ⟨j, M, A, c, rfl, rfl, hj, hM, hMl, hR, hbr⟩ := hrel
        have Hj := Lib.hid hj
        have HMr := Lib.hid hM
        have HR := Lib.hid hR
        have Hbr := Lib.hid hbr
        by_cases hlt : j < ls.length
        · obtain ⟨g, o, rfl, -, x0, x1, x2, x3⟩ := row_lnk (HL.out.below hbr) j hlt
          have hjl : (j : Int) < (nl : Int) := by have := Hnl.out; omega
          have HS := Lib.hid (List.take_succ_eq_append_getElem hlt)
          generalize ls[j] = x at *
          obtain ⟨e1, e2, e3, e4⟩ := x
          simp only at x0 x1 x2 x3
          have hjn : j ≤ 1000 := by omega
          clear hM hR hbr hj z0 z1 z2 z3 z4 z5 z6 z7 z8 zf
          go_upto_region 7 with fail
          obtain ⟨w7, hw7⟩ : ∃ w7, wr.alloc (.cells #[.int .i64 e1, .int .i64 e2, .int .i64 e3, .int .i64 e4] 152) = w7 := ⟨_, rfl⟩
          have hk7 := Blk.new wr 152 #[.int .i64 e1, .int .i64 e2, .int .i64 e3, .int .i64 e4]
          have hb7 := below_new wr (.cells #[.int .i64 e1, .int .i64 e2, .int .i64 e3, .int .i64 e4] 152)
          rw [hw7] at hk7 hb7 ⊢
          have F7 := Lib.hid (fun W (hW : Below w7.heap.size w7 W) => blk4 (hk7.below hW hk7.lt))
          have Hb7 := Lib.hid hb7
          have nM := hMl
          clear hw7 hk7 hb7 hMl
          have HJ := Lib.hid hlt
          go_wp2
          refine wp_region_F (F := fun W => Below w7.heap.size w7 W) (n := 15) (m := 16) (s := #[false, false, false, false, false, false, false, false, false, false, false, false, false, false, false, false]) (by kernel_rfl) (by kernel_rfl) (by kernel_rfl) ?_
          intro wd hwd
          have hF : Below w7.heap.size w7 wd := by rw [hwd.out]; exact (Below.refl _ _).drew
          have R0 : RowsAt 1 bcell wd wd.heap.size A M := by rw [hwd.out]; exact rows_keep HR.out Hb7.out.drew
          clear hwd
          refine F_take (i := 0) (d := some 26) (by kernel_rfl) (by kernel_rfl) (by decide) (s' := #[true, false, false, false, false, false, false, false, false, false, false, false, false, false, false, false]) (by kernel_rfl) rfl rfl (by kernel_rfl) (by kernel_rfl) (by kernel_rfl) (fun _ _ _ h => h) (Or.inl ⟨by kernel_rfl, fun W hW => by obtain ⟨x0, x1, x2, x3, -⟩ := F7.out W hW; go_simp; try with_reducible rfl⟩) hF ?_
          go_frame
          refine F_take (i := 1) (d := some 27) (by kernel_rfl) (by kernel_rfl) (by decide) (s' := #[true, true, false, false, false, false, false, false, false, false, false, false, false, false, false, false]) (by kernel_rfl) rfl rfl (by kernel_rfl) (by kernel_rfl) (by kernel_rfl) (fun _ _ _ h => h) (Or.inl ⟨by kernel_rfl, fun W hW => by obtain ⟨x0, x1, x2, x3, -⟩ := F7.out W hW; go_simp; try with_reducible rfl⟩) hF ?_
          go_frame
          refine F_take (i := 2) (d := some 28) (by kernel_rfl) (by kernel_rfl) (by decide) (s' := #[true, true, true, false, false, false, false, false, false, false, false, false, false, false, false, false]) (by kernel_rfl) rfl rfl (by kernel_rfl) (by kernel_rfl) (by kernel_rfl) (fun _ _ _ h => h) (Or.inl ⟨by kernel_rfl, fun W hW => by obtain ⟨x0, x1, x2, x3, -⟩ := F7.out W hW; go_simp; try with_reducible rfl⟩) hF ?_
          go_frame
          refine F_take (i := 3) (d := some 29) (by kernel_rfl) (by kernel_rfl) (by decide) (s' := #[true, true, true, true, false, false, false, false, false, false, false, false, false, false, false, false]) (by kernel_rfl) rfl rfl (by kernel_rfl) (by kernel_rfl) (by kernel_rfl) (fun _ _ _ h => h) (Or.inl ⟨by kernel_rfl, fun W hW => by obtain ⟨x0, x1, x2, x3, -⟩ := F7.out W hW; go_simp; try with_reducible rfl⟩) hF ?_
          go_frame
          refine F_take (i := 4) (d := some 30) (by kernel_rfl) (by kernel_rfl) (by decide) (s' := #[true, true, true, true, true, false, false, false, false, false, false, false, false, false, false, false]) (by kernel_rfl) rfl rfl (by kernel_rfl) (by kernel_rfl) (by kernel_rfl) (fun _ _ _ h => h) (Or.inl ⟨by kernel_rfl, fun W hW => by obtain ⟨x0, x1, x2, x3, -⟩ := F7.out W hW; go_simp; try with_reducible rfl⟩) hF ?_
          go_frame
          refine F_take (i := 7) (d := some 33) (by kernel_rfl) (by kernel_rfl) (by decide) (s' := #[true, true, true, true, true, false, false, true, false, false, false, false, false, false, false, false]) (by kernel_rfl) rfl rfl (by kernel_rfl) (by kernel_rfl) (by kernel_rfl) (fun _ _ _ h => h) (Or.inl ⟨by kernel_rfl, fun W hW => by obtain ⟨x0, x1, x2, x3, -⟩ := F7.out W hW; go_simp; try with_reducible rfl⟩) hF ?_
          go_frame
          refine F_take (i := 8) (d := some 34) (by kernel_rfl) (by kernel_rfl) (by decide) (s' := #[true, true, true, true, true, false, false, true, true, false, false, false, false, false, false, false]) (by kernel_rfl) rfl rfl (by kernel_rfl) (by kernel_rfl) (by kernel_rfl) (fun _ _ _ h => h) (Or.inl ⟨by kernel_rfl, fun W hW => by obtain ⟨x0, x1, x2, x3, -⟩ := F7.out W hW; go_simp; try with_reducible rfl⟩) hF ?_
          go_frame
          refine F_take (i := 11) (d := some 37) (by kernel_rfl) (by kernel_rfl) (by decide) (s' := #[true, true, true, true, true, false, false, true, true, false, false, true, false, false, false, false]) (by kernel_rfl) rfl rfl (by kernel_rfl) (by kernel_rfl) (by kernel_rfl) (fun _ _ _ h => h) (Or.inl ⟨by kernel_rfl, fun W hW => by obtain ⟨x0, x1, x2, x3, -⟩ := F7.out W hW; go_simp; try with_reducible rfl⟩) hF ?_
          go_frame
          refine F_take (i := 12) (d := some 38) (by kernel_rfl) (by kernel_rfl) (by decide) (s' := #[true, true, true, true, true, false, false, true, true, false, false, true, true, false, false, false]) (by kernel_rfl) rfl rfl (by kernel_rfl) (by kernel_rfl) (by kernel_rfl) (fun _ _ _ h => h) (Or.inl ⟨by kernel_rfl, fun W hW => by obtain ⟨x0, x1, x2, x3, -⟩ := F7.out W hW; go_simp; try with_reducible rfl⟩) hF ?_
          go_frame
          refine F_three (i := 5) (si := #[true, true, true, true, true, true, false, true, true, false, false, true, true, false, false, false]) (j := 9) (sj := #[true, true, true, true, true, false, false, true, true, true, false, true, true, false, false, false]) (l := 13) (sl := #[true, true, true, true, true, false, false, true, true, false, false, true, true, true, false, false]) (by kernel_rfl) (by kernel_rfl) (by kernel_rfl) (by kernel_rfl) ?_ ?_ ?_
          · skip
            obtain ⟨g5, hg5⟩ : ∃ g5, wd.heap.size = g5 := ⟨_, rfl⟩
            obtain ⟨v5w, hv5w⟩ : ∃ v5w, wd.alloc (.cells #[.int .i64 e2, .int .i64 e3] 3) = v5w := ⟨_, rfl⟩
            have hb5 : Below wd.heap.size wd v5w := by rw [← hv5w]; exact below_new _ _
            have R5 : RowsAt 1 icell v5w v5w.heap.size (some ⟨g5, 0, none⟩) [e2, e3] := by rw [← hv5w, ← hg5]; exact ints_new wd 3 [e2, e3]
            have hF := below_trans hF hF.size hb5
            have R0 := rows_keep R0 hb5
            refine wpOp_valueL (i := 5) (d := some 31) (w' := v5w) (v := .slice (some ⟨g5, 0, none⟩) 2 2) rfl rfl (by kernel_rfl) (by go_simp) ⟨fun _ => hF, ?_⟩
            go_frame
            clear hv5w hg5 hb5
            refine F_three (i := 6) (si := #[true, true, true, true, true, true, true, true, true, false, false, true, true, false, false, false]) (j := 9) (sj := #[true, true, true, true, true, true, false, true, true, true, false, true, true, false, false, false]) (l := 13) (sl := #[true, true, true, true, true, true, false, true, true, false, false, true, true, true, false, false]) (by kernel_rfl) (by kernel_rfl) (by kernel_rfl) (by kernel_rfl) ?_ ?_ ?_
            · skip
              refine wpOp_enterL (i := 6) (d := some 32) (f := 130) (args := #[.slice A M.length c, .int .i64 4, .slice (some ⟨g5, 0, none⟩) 2 2]) rfl rfl (by kernel_rfl) (by go_simp) ((quadPut A c M 4 (by decide) (by decide) (some ⟨g5, 0, none⟩) 2 [e2, e3] v5w v5w.heap.size R0 R5 (Nat.le_refl _) (by omega) (by simp) M.length 2 rfl rfl).mono ?_)
              rintro r v6w ⟨v, rfl, hown, hb6⟩
              obtain ⟨M6, hM6⟩ : ∃ M6, M ++ [e2, e3].flatMap (beL 4) = M6 := ⟨_, rfl⟩
              rw [hM6] at hown
              have nM6 : M6.length = 12 + 12 * j := by rw [← hM6]; simp [beL_len, nM] <;> omega
              obtain ⟨A6, c6, rfl⟩ := hown.shape
              have R6 := (OwnR.rows (C := 1) (cells := bcell) (fun _ => rfl) hown).2
              have hown6 := OwnR.lower hown hF.size
              have hF := below_trans hF hF.size hb6
              have R0 := rows_keep R0 hb6
              have R5 := rows_keep R5 hb6
              refine ⟨_, rfl, fun _ => hF, ?_⟩
              go_frame
              clear hb6 hown
              refine F_two (i := 9) (si := #[true, true, true, true, true, true, true, true, true, true, false, true, true, false, false, false]) (j := 13) (sj := #[true, true, true, true, true, true, true, true, true, false, false, true, true, true, false, false]) (by kernel_rfl) (by kernel_rfl) (by kernel_rfl) ?_ ?_
              · skip
                obtain ⟨g9, hg9⟩ : ∃ g9, v6w.heap.size = g9 := ⟨_, rfl⟩
                obtain ⟨v9w, hv9w⟩ : ∃ v9w, v6w.alloc (.cells #[.int .i64 e1, .int .i64 0] 3) = v9w := ⟨_, rfl⟩
                have hb9 : Below v6w.heap.size v6w v9w := by rw [← hv9w]; exact below_new _ _
                have R9 : RowsAt 1 icell v9w v9w.heap.size (some ⟨g9, 0, none⟩) [e1, 0] := by rw [← hv9w, ← hg9]; exact ints_new v6w 3 [e1, 0]
                have hF := below_trans hF hF.size hb9
                have R0 := rows_keep R0 hb9
                have R5 := rows_keep R5 hb9
                have R6 := rows_keep R6 hb9
                refine wpOp_valueL (i := 9) (d := some 35) (w' := v9w) (v := .slice (some ⟨g9, 0, none⟩) 2 2) rfl rfl (by kernel_rfl) (by go_simp) ⟨fun _ => hF, ?_⟩
                go_frame
                clear hv9w hg9 hb9
                refine F_two (i := 10) (si := #[true, true, true, true, true, true, true, true, true, true, true, true, true, false, false, false]) (j := 13) (sj := #[true, true, true, true, true, true, true, true, true, true, false, true, true, true, false, false]) (by kernel_rfl) (by kernel_rfl) (by kernel_rfl) ?_ ?_
                · skip
                  refine wpOp_enterL (i := 10) (d := some 36) (f := 130) (args := #[.slice A6 M6.length c6, .int .i64 1, .slice (some ⟨g9, 0, none⟩) 2 2]) rfl rfl (by kernel_rfl) (by go_simp) ((quadPut A6 c6 M6 1 (by decide) (by decide) (some ⟨g9, 0, none⟩) 2 [e1, 0] v9w v9w.heap.size R6 R9 (Nat.le_refl _) (by rw [nM6]; omega) (by simp) M6.length 2 rfl rfl).mono ?_)
                  rintro r v10w ⟨v, rfl, hown, hb10⟩
                  obtain ⟨M10, hM10⟩ : ∃ M10, M6 ++ [e1, 0].flatMap (beL 1) = M10 := ⟨_, rfl⟩
                  rw [hM10] at hown
                  have nM10 : M10.length = 14 + 12 * j := by rw [← hM10]; simp [beL_len, nM6] <;> omega
                  obtain ⟨A10, c10, rfl⟩ := hown.shape
                  have R10 := (OwnR.rows (C := 1) (cells := bcell) (fun _ => rfl) hown).2
                  have hown10 := OwnR.lower hown hF.size
                  have hF := below_trans hF hF.size hb10
                  have R0 := rows_keep R0 hb10
                  have R5 := rows_keep R5 hb10
                  have R6 := rows_keep R6 hb10
                  have R9 := rows_keep R9 hb10
                  refine ⟨_, rfl, fun _ => hF, ?_⟩
                  go_frame
                  clear hb10 hown
                  obtain ⟨g13, hg13⟩ : ∃ g13, v10w.heap.size = g13 := ⟨_, rfl⟩
                  obtain ⟨v13w, hv13w⟩ : ∃ v13w, v10w.alloc (.cells #[.int .i64 e4] 3) = v13w := ⟨_, rfl⟩
                  have hb13 : Below v10w.heap.size v10w v13w := by rw [← hv13w]; exact below_new _ _
                  have R13 : RowsAt 1 icell v13w v13w.heap.size (some ⟨g13, 0, none⟩) [e4] := by rw [← hv13w, ← hg13]; exact ints_new v10w 3 [e4]
                  have hF := below_trans hF hF.size hb13
                  have R0 := rows_keep R0 hb13
                  have R5 := rows_keep R5 hb13
                  have R6 := rows_keep R6 hb13
                  have R9 := rows_keep R9 hb13
                  have R10 := rows_keep R10 hb13
                  refine F_one (i := 13) (s' := #[true, true, true, true, true, true, true, true, true, true, true, true, true, true, false, false]) (by kernel_rfl) (by kernel_rfl) (wpOp_valueL (i := 13) (d := some 39) (w' := v13w) (v := .slice (some ⟨g13, 0, none⟩) 1 1) rfl rfl (by kernel_rfl) (by go_simp) ⟨fun _ => hF, ?_⟩)
                  go_frame
                  clear hv13w hg13 hb13
                  refine F_one (i := 14) (s' := #[true, true, true, true, true, true, true, true, true, true, true, true, true, true, true, false]) (by kernel_rfl) (by kernel_rfl) (wpOp_enterL (i := 14) (d := some 40) (f := 130) (args := #[.slice A10 M10.length c10, .int .i64 2, .slice (some ⟨g13, 0, none⟩) 1 1]) rfl rfl (by kernel_rfl) (by go_simp) ((quadPut A10 c10 M10 2 (by decide) (by decide) (some ⟨g13, 0, none⟩) 1 [e4] v13w v13w.heap.size R10 R13 (Nat.le_refl _) (by rw [nM10]; omega) (by simp) M10.length 1 rfl rfl).mono ?_))
                  rintro r v14w ⟨v, rfl, hown, hb14⟩
                  obtain ⟨M14, hM14⟩ : ∃ M14, M10 ++ [e4].flatMap (beL 2) = M14 := ⟨_, rfl⟩
                  rw [hM14] at hown
                  have nM14 : M14.length = 16 + 12 * j := by rw [← hM14]; simp [beL_len, nM10] <;> omega
                  obtain ⟨A14, c14, rfl⟩ := hown.shape
                  have R14 := (OwnR.rows (C := 1) (cells := bcell) (fun _ => rfl) hown).2
                  have hown14 := OwnR.lower hown hF.size
                  have hF := below_trans hF hF.size hb14
                  have R0 := rows_keep R0 hb14
                  have R5 := rows_keep R5 hb14
                  have R6 := rows_keep R6 hb14
                  have R9 := rows_keep R9 hb14
                  have R10 := rows_keep R10 hb14
                  have R13 := rows_keep R13 hb14
                  refine ⟨_, rfl, fun _ => hF, ?_⟩
                  go_frame
                  clear hb14 hown
                  refine F_one (i := 15) (s' := #[true, true, true, true, true, true, true, true, true, true, true, true, true, true, true, true]) (by kernel_rfl) (by kernel_rfl) (wpOp_valueL (i := 15) (d := some 3) (w' := v14w) (v := .slice A14 M14.length c14) rfl rfl (by kernel_rfl) (by go_simp) ⟨fun h => absurd h (by decide), ?_⟩)
                  go_frame
                  refine F_done (by kernel_rfl) ?_ _
                  have HE : Hid (M14 = M ++ lnkL ⟨e1, e2, e3, e4⟩) := Lib.hid (by rw [← hM14, ← hM10, ← hM6]; simp only [lnkL, List.append_assoc])
                  have HNl := Lib.hid nM14
                  have HF := Lib.hid hF
                  have HRn := Lib.hid R14
                  clear hM14 hM10 hM6 nM14 nM10 nM6 nM hF
                  go_wp2
                  go_roundw
                  case measure => have := HJ.out; simp [intOf]; omega
                  case rel => exact ⟨j + 1, M14, A14, c14, rfl, by go_num, HJ.out, by rw [HE.out, HMr.out, HS.out, List.flatMap_append, List.append_assoc]; simp, by rw [HNl.out]; omega, HRn.out, below_trans Hbr.out Hbr.out.size (below_trans Hb7.out Hb7.out.size HF.out)⟩
                · skip
                  obtain ⟨g13, hg13⟩ : ∃ g13, v9w.heap.size = g13 := ⟨_, rfl⟩
                  obtain ⟨v13w, hv13w⟩ : ∃ v13w, v9w.alloc (.cells #[.int .i64 e4] 3) = v13w := ⟨_, rfl⟩
                  have hb13 : Below v9w.heap.size v9w v13w := by rw [← hv13w]; exact below_new _ _
                  have R13 : RowsAt 1 icell v13w v13w.heap.size (some ⟨g13, 0, none⟩) [e4] := by rw [← hv13w, ← hg13]; exact ints_new v9w 3 [e4]
                  have hF := below_trans hF hF.size hb13
                  have R0 := rows_keep R0 hb13
                  have R5 := rows_keep R5 hb13
                  have R6 := rows_keep R6 hb13
                  have R9 := rows_keep R9 hb13
                  refine wpOp_valueL (i := 13) (d := some 39) (w' := v13w) (v := .slice (some ⟨g13, 0, none⟩) 1 1) rfl rfl (by kernel_rfl) (by go_simp) ⟨fun _ => hF, ?_⟩
                  go_frame
                  clear hv13w hg13 hb13
                  refine F_one (i := 10) (s' := #[true, true, true, true, true, true, true, true, true, true, true, true, true, true, false, false]) (by kernel_rfl) (by kernel_rfl) (wpOp_enterL (i := 10) (d := some 36) (f := 130) (args := #[.slice A6 M6.length c6, .int .i64 1, .slice (some ⟨g9, 0, none⟩) 2 2]) rfl rfl (by kernel_rfl) (by go_simp) ((quadPut A6 c6 M6 1 (by decide) (by decide) (some ⟨g9, 0, none⟩) 2 [e1, 0] v13w v13w.heap.size R6 R9 (Nat.le_refl _) (by rw [nM6]; omega) (by simp) M6.length 2 rfl rfl).mono ?_))
                  rintro r v10w ⟨v, rfl, hown, hb10⟩
                  obtain ⟨M10, hM10⟩ : ∃ M10, M6 ++ [e1, 0].flatMap (beL 1) = M10 := ⟨_, rfl⟩
                  rw [hM10] at hown
                  have nM10 : M10.length = 14 + 12 * j := by rw [← hM10]; simp [beL_len, nM6] <;> omega
                  obtain ⟨A10, c10, rfl⟩ := hown.shape
                  have R10 := (OwnR.rows (C := 1) (cells := bcell) (fun _ => rfl) hown).2
                  have hown10 := OwnR.lower hown hF.size
                  have hF := below_trans hF hF.size hb10
                  have R0 := rows_keep R0 hb10
                  have R5 := rows_keep R5 hb10
                  have R6 := rows_keep R6 hb10
                  have R9 := rows_keep R9 hb10
                  have R13 := rows_keep R13 hb10
                  refine ⟨_, rfl, fun _ => hF, ?_⟩
                  go_frame
                  clear hb10 hown
                  refine F_one (i := 14) (s' := #[true, true, true, true, true, true, true, true, true, true, true, true, true, true, true, false]) (by kernel_rfl) (by kernel_rfl) (wpOp_enterL (i := 14) (d := some 40) (f := 130) (args := #[.slice A10 M10.length c10, .int .i64 2, .slice (some ⟨g13, 0, none⟩) 1 1]) rfl rfl (by kernel_rfl) (by go_simp) ((quadPut A10 c10 M10 2 (by decide) (by decide) (some ⟨g13, 0, none⟩) 1 [e4] v10w v10w.heap.size R10 R13 (Nat.le_refl _) (by rw [nM10]; omega) (by simp) M10.length 1 rfl rfl).mono ?_))
                  rintro r v14w ⟨v, rfl, hown, hb14⟩
                  obtain ⟨M14, hM14⟩ : ∃ M14, M10 ++ [e4].flatMap (beL 2) = M14 := ⟨_, rfl⟩
                  rw [hM14] at hown
                  have nM14 : M14.length = 16 + 12 * j := by rw [← hM14]; simp [beL_len, nM10] <;> omega
                  obtain ⟨A14, c14, rfl⟩ := hown.shape
                  have R14 := (OwnR.rows (C := 1) (cells := bcell) (fun _ => rfl) hown).2
                  have hown14 := OwnR.lower hown hF.size
                  have hF := below_trans hF hF.size hb14
                  have R0 := rows_keep R0 hb14
                  have R5 := rows_keep R5 hb14
                  have R6 := rows_keep R6 hb14
                  have R9 := rows_keep R9 hb14
                  have R13 := rows_keep R13 hb14
                  have R10 := rows_keep R10 hb14
                  refine ⟨_, rfl, fun _ => hF, ?_⟩
                  go_frame
                  clear hb14 hown
                  refine F_one (i := 15) (s' := #[true, true, true, true, true, true, true, true, true, true, true, true, true, true, true, true]) (by kernel_rfl) (by kernel_rfl) (wpOp_valueL (i := 15) (d := some 3) (w' := v14w) (v := .slice A14 M14.length c14) rfl rfl (by kernel_rfl) (by go_simp) ⟨fun h => absurd h (by decide), ?_⟩)
                  go_frame
                  refine F_done (by kernel_rfl) ?_ _
                  have HE : Hid (M14 = M ++ lnkL ⟨e1, e2, e3, e4⟩) := Lib.hid (by rw [← hM14, ← hM10, ← hM6]; simp only [lnkL, List.append_assoc])
                  have HNl := Lib.hid nM14
                  have HF := Lib.hid hF
                  have HRn := Lib.hid R14
                  clear hM14 hM10 hM6 nM14 nM10 nM6 nM hF
                  go_wp2
                  go_roundw
                  case measure => have := HJ.out; simp [intOf]; omega
                  case rel => exact ⟨j + 1, M14, A14, c14, rfl, by go_num, HJ.out, by rw [HE.out, HMr.out, HS.out, List.flatMap_append, List.append_assoc]; simp, by rw [HNl.out]; omega, HRn.out, below_trans Hbr.out Hbr.out.size (below_trans Hb7.out Hb7.out.size HF.out)⟩
              · skip
                obtain ⟨g13, hg13⟩ : ∃ g13, v6w.heap.size = g13 := ⟨_, rfl⟩
                obtain ⟨v13w, hv13w⟩ : ∃ v13w, v6w.alloc (.cells #[.int .i64 e4] 3) = v13w := ⟨_, rfl⟩
                have hb13 : Below v6w.heap.size v6w v13w := by rw [← hv13w]; exact below_new _ _
                have R13 : RowsAt 1 icell v13w v13w.heap.size (some ⟨g13, 0, none⟩) [e4] := by rw [← hv13w, ← hg13]; exact ints_new v6w 3 [e4]
                have hF := below_trans hF hF.size hb13
                have R0 := rows_keep R0 hb13
                have R5 := rows_keep R5 hb13
                have R6 := rows_keep R6 hb13
                refine wpOp_valueL (i := 13) (d := some 39) (w' := v13w) (v := .slice (some ⟨g13, 0, none⟩) 1 1) rfl rfl (by kernel_rfl) (by go_simp) ⟨fun _ => hF, ?_⟩
                go_frame
                clear hv13w hg13 hb13
                obtain ⟨g9, hg9⟩ : ∃ g9, v13w.heap.size = g9 := ⟨_, rfl⟩
                obtain ⟨v9w, hv9w⟩ : ∃ v9w, v13w.alloc (.cells #[.int .i64 e1, .int .i64 0] 3) = v9w := ⟨_, rfl⟩
                have hb9 : Below v13w.heap.size v13w v9w := by rw [← hv9w]; exact below_new _ _
                have R9 : RowsAt 1 icell v9w v9w.heap.size (some ⟨g9, 0, none⟩) [e1, 0] := by rw [← hv9w, ← hg9]; exact ints_new v13w 3 [e1, 0]
                have hF := below_trans hF hF.size hb9
                have R0 := rows_keep R0 hb9
                have R5 := rows_keep R5 hb9
                have R6 := rows_keep R6 hb9
                have R13 := rows_keep R13 hb9
                refine F_one (i := 9) (s' := #[true, true, true, true, true, true, true, true, true, true, false, true, true, true, false, false]) (by kernel_rfl) (by kernel_rfl) (wpOp_valueL (i := 9) (d := some 35) (w' := v9w) (v := .slice (some ⟨g9, 0, none⟩) 2 2) rfl rfl (by kernel_rfl) (by go_simp) ⟨fun _ => hF, ?_⟩)
                go_frame
                clear hv9w hg9 hb9
                refine F_one (i := 10) (s' := #[true, true, true, true, true, true, true, true, true, true, true, true, true, true, false, false]) (by kernel_rfl) (by kernel_rfl) (wpOp_enterL (i := 10) (d := some 36) (f := 130) (args := #[.slice A6 M6.length c6, .int .i64 1, .slice (some ⟨g9, 0, none⟩) 2 2]) rfl rfl (by kernel_rfl) (by go_simp) ((quadPut A6 c6 M6 1 (by decide) (by decide) (some ⟨g9, 0, none⟩) 2 [e1, 0] v9w v9w.heap.size R6 R9 (Nat.le_refl _) (by rw [nM6]; omega) (by simp) M6.length 2 rfl rfl).mono ?_))
                rintro r v10w ⟨v, rfl, hown, hb10⟩
                obtain ⟨M10, hM10⟩ : ∃ M10, M6 ++ [e1, 0].flatMap (beL 1) = M10 := ⟨_, rfl⟩
                rw [hM10] at hown
                have nM10 : M10.length = 14 + 12 * j := by rw [← hM10]; simp [beL_len, nM6] <;> omega
                obtain ⟨A10, c10, rfl⟩ := hown.shape
                have R10 := (OwnR.rows (C := 1) (cells := bcell) (fun _ => rfl) hown).2
                have hown10 := OwnR.lower hown hF.size
                have hF := below_trans hF hF.size hb10
                have R0 := rows_keep R0 hb10
                have R5 := rows_keep R5 hb10
                have R6 := rows_keep R6 hb10
                have R13 := rows_keep R13 hb10
                have R9 := rows_keep R9 hb10
                refine ⟨_, rfl, fun _ => hF, ?_⟩
                go_frame
                clear hb10 hown
                refine F_one (i := 14) (s' := #[true, true, true, true, true, true, true, true, true, true, true, true, true, true, true, false]) (by kernel_rfl) (by kernel_rfl) (wpOp_enterL (i := 14) (d := some 40) (f := 130) (args := #[.slice A10 M10.length c10, .int .i64 2, .slice (some ⟨g13, 0, none⟩) 1 1]) rfl rfl (by kernel_rfl) (by go_simp) ((quadPut A10 c10 M10 2 (by decide) (by decide) (some ⟨g13, 0, none⟩) 1 [e4] v10w v10w.heap.size R10 R13 (Nat.le_refl _) (by rw [nM10]; omega) (by simp) M10.length 1 rfl rfl).mono ?_))
                rintro r v14w ⟨v, rfl, hown, hb14⟩
                obtain ⟨M14, hM14⟩ : ∃ M14, M10 ++ [e4].flatMap (beL 2) = M14 := ⟨_, rfl⟩
                rw [hM14] at hown
                have nM14 : M14.length = 16 + 12 * j := by rw [← hM14]; simp [beL_len, nM10] <;> omega
                obtain ⟨A14, c14, rfl⟩ := hown.shape
                have R14 := (OwnR.rows (C := 1) (cells := bcell) (fun _ => rfl) hown).2
                have hown14 := OwnR.lower hown hF.size
                have hF := below_trans hF hF.size hb14
                have R0 := rows_keep R0 hb14
                have R5 := rows_keep R5 hb14
                have R6 := rows_keep R6 hb14
                have R13 := rows_keep R13 hb14
                have R9 := rows_keep R9 hb14
                have R10 := rows_keep R10 hb14
                refine ⟨_, rfl, fun _ => hF, ?_⟩
                go_frame
                clear hb14 hown
                refine F_one (i := 15) (s' := #[true, true, true, true, true, true, true, true, true, true, true, true, true, true, true, true]) (by kernel_rfl) (by kernel_rfl) (wpOp_valueL (i := 15) (d := some 3) (w' := v14w) (v := .slice A14 M14.length c14) rfl rfl (by kernel_rfl) (by go_simp) ⟨fun h => absurd h (by decide), ?_⟩)
                go_frame
                refine F_done (by kernel_rfl) ?_ _
                have HE : Hid (M14 = M ++ lnkL ⟨e1, e2, e3, e4⟩) := Lib.hid (by rw [← hM14, ← hM10, ← hM6]; simp only [lnkL, List.append_assoc])
                have HNl := Lib.hid nM14
                have HF := Lib.hid hF
                have HRn := Lib.hid R14
                clear hM14 hM10 hM6 nM14 nM10 nM6 nM hF
                go_wp2
                go_roundw
                case measure => have := HJ.out; simp [intOf]; omega
                case rel => exact ⟨j + 1, M14, A14, c14, rfl, by go_num, HJ.out, by rw [HE.out, HMr.out, HS.out, List.flatMap_append, List.append_assoc]; simp, by rw [HNl.out]; omega, HRn.out, below_trans Hbr.out Hbr.out.size (below_trans Hb7.out Hb7.out.size HF.out)⟩
            · skip
              obtain ⟨g9, hg9⟩ : ∃ g9, v5w.heap.size = g9 := ⟨_, rfl⟩
              obtain ⟨v9w, hv9w⟩ : ∃ v9w, v5w.alloc (.cells #[.int .i64 e1, .int .i64 0] 3) = v9w := ⟨_, rfl⟩
              have hb9 : Below v5w.heap.size v5w v9w := by rw [← hv9w]; exact below_new _ _
              have R9 : RowsAt 1 icell v9w v9w.heap.size (some ⟨g9, 0, none⟩) [e1, 0] := by rw [← hv9w, ← hg9]; exact ints_new v5w 3 [e1, 0]
              have hF := below_trans hF hF.size hb9
              have R0 := rows_keep R0 hb9
              have R5 := rows_keep R5 hb9
              refine wpOp_valueL (i := 9) (d := some 35) (w' := v9w) (v := .slice (some ⟨g9, 0, none⟩) 2 2) rfl rfl (by kernel_rfl) (by go_simp) ⟨fun _ => hF, ?_⟩
              go_frame
              clear hv9w hg9 hb9
              refine F_two (i := 6) (si := #[true, true, true, true, true, true, true, true, true, true, false, true, true, false, false, false]) (j := 13) (sj := #[true, true, true, true, true, true, false, true, true, true, false, true, true, true, false, false]) (by kernel_rfl) (by kernel_rfl) (by kernel_rfl) ?_ ?_
              · skip
                refine wpOp_enterL (i := 6) (d := some 32) (f := 130) (args := #[.slice A M.length c, .int .i64 4, .slice (some ⟨g5, 0, none⟩) 2 2]) rfl rfl (by kernel_rfl) (by go_simp) ((quadPut A c M 4 (by decide) (by decide) (some ⟨g5, 0, none⟩) 2 [e2, e3] v9w v9w.heap.size R0 R5 (Nat.le_refl _) (by omega) (by simp) M.length 2 rfl rfl).mono ?_)
                rintro r v6w ⟨v, rfl, hown, hb6⟩
                obtain ⟨M6, hM6⟩ : ∃ M6, M ++ [e2, e3].flatMap (beL 4) = M6 := ⟨_, rfl⟩
                rw [hM6] at hown
                have nM6 : M6.length = 12 + 12 * j := by rw [← hM6]; simp [beL_len, nM] <;> omega
                obtain ⟨A6, c6, rfl⟩ := hown.shape
                have R6 := (OwnR.rows (C := 1) (cells := bcell) (fun _ => rfl) hown).2
                have hown6 := OwnR.lower hown hF.size
                have hF := below_trans hF hF.size hb6
                have R0 := rows_keep R0 hb6
                have R5 := rows_keep R5 hb6
                have R9 := rows_keep R9 hb6
                refine ⟨_, rfl, fun _ => hF, ?_⟩
                go_frame
                clear hb6 hown
                refine F_two (i := 10) (si := #[true, true, true, true, true, true, true, true, true, true, true, true, true, false, false, false]) (j := 13) (sj := #[true, true, true, true, true, true, true, true, true, true, false, true, true, true, false, false]) (by kernel_rfl) (by kernel_rfl) (by kernel_rfl) ?_ ?_
                · skip
                  refine wpOp_enterL (i := 10) (d := some 36) (f := 130) (args := #[.slice A6 M6.length c6, .int .i64 1, .slice (some ⟨g9, 0, none⟩) 2 2]) rfl rfl (by kernel_rfl) (by go_simp) ((quadPut A6 c6 M6 1 (by decide) (by decide) (some ⟨g9, 0, none⟩) 2 [e1, 0] v6w v6w.heap.size R6 R9 (Nat.le_refl _) (by rw [nM6]; omega) (by simp) M6.length 2 rfl rfl).mono ?_)
                  rintro r v10w ⟨v, rfl, hown, hb10⟩
                  obtain ⟨M10, hM10⟩ : ∃ M10, M6 ++ [e1, 0].flatMap (beL 1) = M10 := ⟨_, rfl⟩
                  rw [hM10] at hown
                  have nM10 : M10.length = 14 + 12 * j := by rw [← hM10]; simp [beL_len, nM6] <;> omega
                  obtain ⟨A10, c10, rfl⟩ := hown.shape
                  have R10 := (OwnR.rows (C := 1) (cells := bcell) (fun _ => rfl) hown).2
                  have hown10 := OwnR.lower hown hF.size
                  have hF := below_trans hF hF.size hb10
                  have R0 := rows_keep R0 hb10
                  have R5 := rows_keep R5 hb10
                  have R9 := rows_keep R9 hb10
                  have R6 := rows_keep R6 hb10
                  refine ⟨_, rfl, fun _ => hF, ?_⟩
                  go_frame
                  clear hb10 hown
                  obtain ⟨g13, hg13⟩ : ∃ g13, v10w.heap.size = g13 := ⟨_, rfl⟩
                  obtain ⟨v13w, hv13w⟩ : ∃ v13w, v10w.alloc (.cells #[.int .i64 e4] 3) = v13w := ⟨_, rfl⟩
                  have hb13 : Below v10w.heap.size v10w v13w := by rw [← hv13w]; exact below_new _ _
                  have R13 : RowsAt 1 icell v13w v13w.heap.size (some ⟨g13, 0, none⟩) [e4] := by rw [← hv13w, ← hg13]; exact ints_new v10w 3 [e4]
                  have hF := below_trans hF hF.size hb13
                  have R0 := rows_keep R0 hb13
                  have R5 := rows_keep R5 hb13
                  have R9 := rows_keep R9 hb13
                  have R6 := rows_keep R6 hb13
                  have R10 := rows_keep R10 hb13
                  refine F_one (i := 13) (s' := #[true, true, true, true, true, true, true, true, true, true, true, true, true, true, false, false]) (by kernel_rfl) (by kernel_rfl) (wpOp_valueL (i := 13) (d := some 39) (w' := v13w) (v := .slice (some ⟨g13, 0, none⟩) 1 1) rfl rfl (by kernel_rfl) (by go_simp) ⟨fun _ => hF, ?_⟩)
                  go_frame
                  clear hv13w hg13 hb13
                  refine F_one (i := 14) (s' := #[true, true, true, true, true, true, true, true, true, true, true, true, true, true, true, false]) (by kernel_rfl) (by kernel_rfl) (wpOp_enterL (i := 14) (d := some 40) (f := 130) (args := #[.slice A10 M10.length c10, .int .i64 2, .slice (some ⟨g13, 0, none⟩) 1 1]) rfl rfl (by kernel_rfl) (by go_simp) ((quadPut A10 c10 M10 2 (by decide) (by decide) (some ⟨g13, 0, none⟩) 1 [e4] v13w v13w.heap.size R10 R13 (Nat.le_refl _) (by rw [nM10]; omega) (by simp) M10.length 1 rfl rfl).mono ?_))
                  rintro r v14w ⟨v, rfl, hown, hb14⟩
                  obtain ⟨M14, hM14⟩ : ∃ M14, M10 ++ [e4].flatMap (beL 2) = M14 := ⟨_, rfl⟩
                  rw [hM14] at hown
                  have nM14 : M14.length = 16 + 12 * j := by rw [← hM14]; simp [beL_len, nM10] <;> omega
                  obtain ⟨A14, c14, rfl⟩ := hown.shape
                  have R14 := (OwnR.rows (C := 1) (cells := bcell) (fun _ => rfl) hown).2
                  have hown14 := OwnR.lower hown hF.size
                  have hF := below_trans hF hF.size hb14
                  have R0 := rows_keep R0 hb14
                  have R5 := rows_keep R5 hb14
                  have R9 := rows_keep R9 hb14
                  have R6 := rows_keep R6 hb14
                  have R10 := rows_keep R10 hb14
                  have R13 := rows_keep R13 hb14
                  refine ⟨_, rfl, fun _ => hF, ?_⟩
                  go_frame
                  clear hb14 hown
                  refine F_one (i := 15) (s' := #[true, true, true, true, true, true, true, true, true, true, true, true, true, true, true, true]) (by kernel_rfl) (by kernel_rfl) (wpOp_valueL (i := 15) (d := some 3) (w' := v14w) (v := .slice A14 M14.length c14) rfl rfl (by kernel_rfl) (by go_simp) ⟨fun h => absurd h (by decide), ?_⟩)
                  go_frame
                  refine F_done (by kernel_rfl) ?_ _
                  have HE : Hid (M14 = M ++ lnkL ⟨e1, e2, e3, e4⟩) := Lib.hid (by rw [← hM14, ← hM10, ← hM6]; simp only [lnkL, List.append_assoc])
                  have HNl := Lib.hid nM14
                  have HF := Lib.hid hF
                  have HRn := Lib.hid R14
                  clear hM14 hM10 hM6 nM14 nM10 nM6 nM hF
                  go_wp2
                  go_roundw
                  case measure => have := HJ.out; simp [intOf]; omega
                  case rel => exact ⟨j + 1, M14, A14, c14, rfl, by go_num, HJ.out, by rw [HE.out, HMr.out, HS.out, List.flatMap_append, List.append_assoc]; simp, by rw [HNl.out]; omega, HRn.out, below_trans Hbr.out Hbr.out.size (below_trans Hb7.out Hb7.out.size HF.out)⟩
                · skip
                  obtain ⟨g13, hg13⟩ : ∃ g13, v6w.heap.size = g13 := ⟨_, rfl⟩
                  obtain ⟨v13w, hv13w⟩ : ∃ v13w, v6w.alloc (.cells #[.int .i64 e4] 3) = v13w := ⟨_, rfl⟩
                  have hb13 : Below v6w.heap.size v6w v13w := by rw [← hv13w]; exact below_new _ _
                  have R13 : RowsAt 1 icell v13w v13w.heap.size (some ⟨g13, 0, none⟩) [e4] := by rw [← hv13w, ← hg13]; exact ints_new v6w 3 [e4]
                  have hF := below_trans hF hF.size hb13
                  have R0 := rows_keep R0 hb13
                  have R5 := rows_keep R5 hb13
                  have R9 := rows_keep R9 hb13
                  have R6 := rows_keep R6 hb13
                  refine wpOp_valueL (i := 13) (d := some 39) (w' := v13w) (v := .slice (some ⟨g13, 0, none⟩) 1 1) rfl rfl (by kernel_rfl) (by go_simp) ⟨fun _ => hF, ?_⟩
                  go_frame
                  clear hv13w hg13 hb13
                  refine F_one (i := 10) (s' := #[true, true, true, true, true, true, true, true, true, true, true, true, true, true, false, false]) (by kernel_rfl) (by kernel_rfl) (wpOp_enterL (i := 10) (d := some 36) (f := 130) (args := #[.slice A6 M6.length c6, .int .i64 1, .slice (some ⟨g9, 0, none⟩) 2 2]) rfl rfl (by kernel_rfl) (by go_simp) ((quadPut A6 c6 M6 1 (by decide) (by decide) (some ⟨g9, 0, none⟩) 2 [e1, 0] v13w v13w.heap.size R6 R9 (Nat.le_refl _) (by rw [nM6]; omega) (by simp) M6.length 2 rfl rfl).mono ?_))
                  rintro r v10w ⟨v, rfl, hown, hb10⟩
                  obtain ⟨M10, hM10⟩ : ∃ M10, M6 ++ [e1, 0].flatMap (beL 1) = M10 := ⟨_, rfl⟩
                  rw [hM10] at hown
                  have nM10 : M10.length = 14 + 12 * j := by rw [← hM10]; simp [beL_len, nM6] <;> omega
                  obtain ⟨A10, c10, rfl⟩ := hown.shape
                  have R10 := (OwnR.rows (C := 1) (cells := bcell) (fun _ => rfl) hown).2
                  have hown10 := OwnR.lower hown hF.size
                  have hF := below_trans hF hF.size hb10
                  have R0 := rows_keep R0 hb10
                  have R5 := rows_keep R5 hb10
                  have R9 := rows_keep R9 hb10
                  have R6 := rows_keep R6 hb10
                  have R13 := rows_keep R13 hb10
                  refine ⟨_, rfl, fun _ => hF, ?_⟩
                  go_frame
                  clear hb10 hown
                  refine F_one (i := 14) (s' := #[true, true, true, true, true, true, true, true, true, true, true, true, true, true, true, false]) (by kernel_rfl) (by kernel_rfl) (wpOp_enterL (i := 14) (d := some 40) (f := 130) (args := #[.slice A10 M10.length c10, .int .i64 2, .slice (some ⟨g13, 0, none⟩) 1 1]) rfl rfl (by kernel_rfl) (by go_simp) ((quadPut A10 c10 M10 2 (by decide) (by decide) (some ⟨g13, 0, none⟩) 1 [e4] v10w v10w.heap.size R10 R13 (Nat.le_refl _) (by rw [nM10]; omega) (by simp) M10.length 1 rfl rfl).mono ?_))
                  rintro r v14w ⟨v, rfl, hown, hb14⟩
                  obtain ⟨M14, hM14⟩ : ∃ M14, M10 ++ [e4].flatMap (beL 2) = M14 := ⟨_, rfl⟩
                  rw [hM14] at hown
                  have nM14 : M14.length = 16 + 12 * j := by rw [← hM14]; simp [beL_len, nM10] <;> omega
                  obtain ⟨A14, c14, rfl⟩ := hown.shape
                  have R14 := (OwnR.rows (C := 1) (cells := bcell) (fun _ => rfl) hown).2
                  have hown14 := OwnR.lower hown hF.size
                  have hF := below_trans hF hF.size hb14
                  have R0 := rows_keep R0 hb14
                  have R5 := rows_keep R5 hb14
                  have R9 := rows_keep R9 hb14
                  have R6 := rows_keep R6 hb14
                  have R13 := rows_keep R13 hb14
                  have R10 := rows_keep R10 hb14
                  refine ⟨_, rfl, fun _ => hF, ?_⟩
                  go_frame
                  clear hb14 hown
                  refine F_one (i := 15) (s' := #[true, true, true, true, true, true, true, true, true, true, true, true, true, true, true, true]) (by kernel_rfl) (by kernel_rfl) (wpOp_valueL (i := 15) (d := some 3) (w' := v14w) (v := .slice A14 M14.length c14) rfl rfl (by kernel_rfl) (by go_simp) ⟨fun h => absurd h (by decide), ?_⟩)
                  go_frame
                  refine F_done (by kernel_rfl) ?_ _
                  have HE : Hid (M14 = M ++ lnkL ⟨e1, e2, e3, e4⟩) := Lib.hid (by rw [← hM14, ← hM10, ← hM6]; simp only [lnkL, List.append_assoc])
                  have HNl := Lib.hid nM14
                  have HF := Lib.hid hF
                  have HRn := Lib.hid R14
                  clear hM14 hM10 hM6 nM14 nM10 nM6 nM hF
                  go_wp2
                  go_roundw
                  case measure => have := HJ.out; simp [intOf]; omega
                  case rel => exact ⟨j + 1, M14, A14, c14, rfl, by go_num, HJ.out, by rw [HE.out, HMr.out, HS.out, List.flatMap_append, List.append_assoc]; simp, by rw [HNl.out]; omega, HRn.out, below_trans Hbr.out Hbr.out.size (below_trans Hb7.out Hb7.out.size HF.out)⟩
              · skip
                obtain ⟨g13, hg13⟩ : ∃ g13, v9w.heap.size = g13 := ⟨_, rfl⟩
                obtain ⟨v13w, hv13w⟩ : ∃ v13w, v9w.alloc (.cells #[.int .i64 e4] 3) = v13w := ⟨_, rfl⟩
                have hb13 : Below v9w.heap.size v9w v13w := by rw [← hv13w]; exact below_new _ _
                have R13 : RowsAt 1 icell v13w v13w.heap.size (some ⟨g13, 0, none⟩) [e4] := by rw [← hv13w, ← hg13]; exact ints_new v9w 3 [e4]
                have hF := below_trans hF hF.size hb13
                have R0 := rows_keep R0 hb13
                have R5 := rows_keep R5 hb13
                have R9 := rows_keep R9 hb13
                refine wpOp_valueL (i := 13) (d := some 39) (w' := v13w) (v := .slice (some ⟨g13, 0, none⟩) 1 1) rfl rfl (by kernel_rfl) (by go_simp) ⟨fun _ => hF, ?_⟩
                go_frame
                clear hv13w hg13 hb13
                refine F_one (i := 6) (s' := #[true, true, true, true, true, true, true, true, true, true, false, true, true, true, false, false]) (by kernel_rfl) (by kernel_rfl) (wpOp_enterL (i := 6) (d := some 32) (f := 130) (args := #[.slice A M.length c, .int .i64 4, .slice (some ⟨g5, 0, none⟩) 2 2]) rfl rfl (by kernel_rfl) (by go_simp) ((quadPut A c M 4 (by decide) (by decide) (some ⟨g5, 0, none⟩) 2 [e2, e3] v13w v13w.heap.size R0 R5 (Nat.le_refl _) (by omega) (by simp) M.length 2 rfl rfl).mono ?_))
                rintro r v6w ⟨v, rfl, hown, hb6⟩
                obtain ⟨M6, hM6⟩ : ∃ M6, M ++ [e2, e3].flatMap (beL 4) = M6 := ⟨_, rfl⟩
                rw [hM6] at hown
                have nM6 : M6.length = 12 + 12 * j := by rw [← hM6]; simp [beL_len, nM] <;> omega
                obtain ⟨A6, c6, rfl⟩ := hown.shape
                have R6 := (OwnR.rows (C := 1) (cells := bcell) (fun _ => rfl) hown).2
                have hown6 := OwnR.lower hown hF.size
                have hF := below_trans hF hF.size hb6
                have R0 := rows_keep R0 hb6
                have R5 := rows_keep R5 hb6
                have R9 := rows_keep R9 hb6
                have R13 := rows_keep R13 hb6
                refine ⟨_, rfl, fun _ => hF, ?_⟩
                go_frame
                clear hb6 hown
                refine F_one (i := 10) (s' := #[true, true, true, true, true, true, true, true, true, true, true, true, true, true, false, false]) (by kernel_rfl) (by kernel_rfl) (wpOp_enterL (i := 10) (d := some 36) (f := 130) (args := #[.slice A6 M6.length c6, .int .i64 1, .slice (some ⟨g9, 0, none⟩) 2 2]) rfl rfl (by kernel_rfl) (by go_simp) ((quadPut A6 c6 M6 1 (by decide) (by decide) (some ⟨g9, 0, none⟩) 2 [e1, 0] v6w v6w.heap.size R6 R9 (Nat.le_refl _) (by rw [nM6]; omega) (by simp) M6.length 2 rfl rfl).mono ?_))
                rintro r v10w ⟨v, rfl, hown, hb10⟩
                obtain ⟨M10, hM10⟩ : ∃ M10, M6 ++ [e1, 0].flatMap (beL 1) = M10 := ⟨_, rfl⟩
                rw [hM10] at hown
                have nM10 : M10.length = 14 + 12 * j := by rw [← hM10]; simp [beL_len, nM6] <;> omega
                obtain ⟨A10, c10, rfl⟩ := hown.shape
                have R10 := (OwnR.rows (C := 1) (cells := bcell) (fun _ => rfl) hown).2
                have hown10 := OwnR.lower hown hF.size
                have hF := below_trans hF hF.size hb10
                have R0 := rows_keep R0 hb10
                have R5 := rows_keep R5 hb10
                have R9 := rows_keep R9 hb10
                have R13 := rows_keep R13 hb10
                have R6 := rows_keep R6 hb10
                refine ⟨_, rfl, fun _ => hF, ?_⟩
                go_frame
                clear hb10 hown
                refine F_one (i := 14) (s' := #[true, true, true, true, true, true, true, true, true, true, true, true, true, true, true, false]) (by kernel_rfl) (by kernel_rfl) (wpOp_enterL (i := 14) (d := some 40) (f := 130) (args := #[.slice A10 M10.length c10, .int .i64 2, .slice (some ⟨g13, 0, none⟩) 1 1]) rfl rfl (by kernel_rfl) (by go_simp) ((quadPut A10 c10 M10 2 (by decide) (by decide) (some ⟨g13, 0, none⟩) 1 [e4] v10w v10w.heap.size R10 R13 (Nat.le_refl _) (by rw [nM10]; omega) (by simp) M10.length 1 rfl rfl).mono ?_))
                rintro r v14w ⟨v, rfl, hown, hb14⟩
                obtain ⟨M14, hM14⟩ : ∃ M14, M10 ++ [e4].flatMap (beL 2) = M14 := ⟨_, rfl⟩
                rw [hM14] at hown
                have nM14 : M14.length = 16 + 12 * j := by rw [← hM14]; simp [beL_len, nM10] <;> omega
                obtain ⟨A14, c14, rfl⟩ := hown.shape
                have R14 := (OwnR.rows (C := 1) (cells := bcell) (fun _ => rfl) hown).2
                have hown14 := OwnR.lower hown hF.size
                have hF := below_trans hF hF.size hb14
                have R0 := rows_keep R0 hb14
                have R5 := rows_keep R5 hb14
                have R9 := rows_keep R9 hb14
                have R13 := rows_keep R13 hb14
                have R6 := rows_keep R6 hb14
                have R10 := rows_keep R10 hb14
                refine ⟨_, rfl, fun _ => hF, ?_⟩
                go_frame
                clear hb14 hown
                refine F_one (i := 15) (s' := #[true, true, true, true, true, true, true, true, true, true, true, true, true, true, true, true]) (by kernel_rfl) (by kernel_rfl) (wpOp_valueL (i := 15) (d := some 3) (w' := v14w) (v := .slice A14 M14.length c14) rfl rfl (by kernel_rfl) (by go_simp) ⟨fun h => absurd h (by decide), ?_⟩)
                go_frame
                refine F_done (by kernel_rfl) ?_ _
                have HE : Hid (M14 = M ++ lnkL ⟨e1, e2, e3, e4⟩) := Lib.hid (by rw [← hM14, ← hM10, ← hM6]; simp only [lnkL, List.append_assoc])
                have HNl := Lib.hid nM14
                have HF := Lib.hid hF
                have HRn := Lib.hid R14
                clear hM14 hM10 hM6 nM14 nM10 nM6 nM hF
                go_wp2
                go_roundw
                case measure => have := HJ.out; simp [intOf]; omega
                case rel => exact ⟨j + 1, M14, A14, c14, rfl, by go_num, HJ.out, by rw [HE.out, HMr.out, HS.out, List.flatMap_append, List.append_assoc]; simp, by rw [HNl.out]; omega, HRn.out, below_trans Hbr.out Hbr.out.size (below_trans Hb7.out Hb7.out.size HF.out)⟩
            · skip
              obtain ⟨g13, hg13⟩ : ∃ g13, v5w.heap.size = g13 := ⟨_, rfl⟩
              obtain ⟨v13w, hv13w⟩ : ∃ v13w, v5w.alloc (.cells #[.int .i64 e4] 3) = v13w := ⟨_, rfl⟩
              have hb13 : Below v5w.heap.size v5w v13w := by rw [← hv13w]; exact below_new _ _
              have R13 : RowsAt 1 icell v13w v13w.heap.size (some ⟨g13, 0, none⟩) [e4] := by rw [← hv13w, ← hg13]; exact ints_new v5w 3 [e4]
              have hF := below_trans hF hF.size hb13
              have R0 := rows_keep R0 hb13
              have R5 := rows_keep R5 hb13
              refine wpOp_valueL (i := 13) (d := some 39) (w' := v13w) (v := .slice (some ⟨g13, 0, none⟩) 1 1) rfl rfl (by kernel_rfl) (by go_simp) ⟨fun _ => hF, ?_⟩
              go_frame
              clear hv13w hg13 hb13
              refine F_two (i := 6) (si := #[true, true, true, true, true, true, true, true, true, false, false, true, true, true, false, false]) (j := 9) (sj := #[true, true, true, true, true, true, false, true, true, true, false, true, true, true, false, false]) (by kernel_rfl) (by kernel_rfl) (by kernel_rfl) ?_ ?_
              · skip
                refine wpOp_enterL (i := 6) (d := some 32) (f := 130) (args := #[.slice A M.length c, .int .i64 4, .slice (some ⟨g5, 0, none⟩) 2 2]) rfl rfl (by kernel_rfl) (by go_simp) ((quadPut A c M 4 (by decide) (by decide) (some ⟨g5, 0, none⟩) 2 [e2, e3] v13w v13w.heap.size R0 R5 (Nat.le_refl _) (by omega) (by simp) M.length 2 rfl rfl).mono ?_)
                rintro r v6w ⟨v, rfl, hown, hb6⟩
                obtain ⟨M6, hM6⟩ : ∃ M6, M ++ [e2, e3].flatMap (beL 4) = M6 := ⟨_, rfl⟩
                rw [hM6] at hown
                have nM6 : M6.length = 12 + 12 * j := by rw [← hM6]; simp [beL_len, nM] <;> omega
                obtain ⟨A6, c6, rfl⟩ := hown.shape
                have R6 := (OwnR.rows (C := 1) (cells := bcell) (fun _ => rfl) hown).2
                have hown6 := OwnR.lower hown hF.size
                have hF := below_trans hF hF.size hb6
                have R0 := rows_keep R0 hb6
                have R5 := rows_keep R5 hb6
                have R13 := rows_keep R13 hb6
                refine ⟨_, rfl, fun _ => hF, ?_⟩
                go_frame
                clear hb6 hown
                obtain ⟨g9, hg9⟩ : ∃ g9, v6w.heap.size = g9 := ⟨_, rfl⟩
                obtain ⟨v9w, hv9w⟩ : ∃ v9w, v6w.alloc (.cells #[.int .i64 e1, .int .i64 0] 3) = v9w := ⟨_, rfl⟩
                have hb9 : Below v6w.heap.size v6w v9w := by rw [← hv9w]; exact below_new _ _
                have R9 : RowsAt 1 icell v9w v9w.heap.size (some ⟨g9, 0, none⟩) [e1, 0] := by rw [← hv9w, ← hg9]; exact ints_new v6w 3 [e1, 0]
                have hF := below_trans hF hF.size hb9
                have R0 := rows_keep R0 hb9
                have R5 := rows_keep R5 hb9
                have R13 := rows_keep R13 hb9
                have R6 := rows_keep R6 hb9
                refine F_one (i := 9) (s' := #[true, true, true, true, true, true, true, true, true, true, false, true, true, true, false, false]) (by kernel_rfl) (by kernel_rfl) (wpOp_valueL (i := 9) (d := some 35) (w' := v9w) (v := .slice (some ⟨g9, 0, none⟩) 2 2) rfl rfl (by kernel_rfl) (by go_simp) ⟨fun _ => hF, ?_⟩)
                go_frame
                clear hv9w hg9 hb9
                refine F_one (i := 10) (s' := #[true, true, true, true, true, true, true, true, true, true, true, true, true, true, false, false]) (by kernel_rfl) (by kernel_rfl) (wpOp_enterL (i := 10) (d := some 36) (f := 130) (args := #[.slice A6 M6.length c6, .int .i64 1, .slice (some ⟨g9, 0, none⟩) 2 2]) rfl rfl (by kernel_rfl) (by go_simp) ((quadPut A6 c6 M6 1 (by decide) (by decide) (some ⟨g9, 0, none⟩) 2 [e1, 0] v9w v9w.heap.size R6 R9 (Nat.le_refl _) (by rw [nM6]; omega) (by simp) M6.length 2 rfl rfl).mono ?_))
                rintro r v10w ⟨v, rfl, hown, hb10⟩
                obtain ⟨M10, hM10⟩ : ∃ M10, M6 ++ [e1, 0].flatMap (beL 1) = M10 := ⟨_, rfl⟩
                rw [hM10] at hown
                have nM10 : M10.length = 14 + 12 * j := by rw [← hM10]; simp [beL_len, nM6] <;> omega
                obtain ⟨A10, c10, rfl⟩ := hown.shape
                have R10 := (OwnR.rows (C := 1) (cells := bcell) (fun _ => rfl) hown).2
                have hown10 := OwnR.lower hown hF.size
                have hF := below_trans hF hF.size hb10
                have R0 := rows_keep R0 hb10
                have R5 := rows_keep R5 hb10
                have R13 := rows_keep R13 hb10
                have R6 := rows_keep R6 hb10
                have R9 := rows_keep R9 hb10
                refine ⟨_, rfl, fun _ => hF, ?_⟩
                go_frame
                clear hb10 hown
                refine F_one (i := 14) (s' := #[true, true, true, true, true, true, true, true, true, true, true, true, true, true, true, false]) (by kernel_rfl) (by kernel_rfl) (wpOp_enterL (i := 14) (d := some 40) (f := 130) (args := #[.slice A10 M10.length c10, .int .i64 2, .slice (some ⟨g13, 0, none⟩) 1 1]) rfl rfl (by kernel_rfl) (by go_simp) ((quadPut A10 c10 M10 2 (by decide) (by decide) (some ⟨g13, 0, none⟩) 1 [e4] v10w v10w.heap.size R10 R13 (Nat.le_refl _) (by rw [nM10]; omega) (by simp) M10.length 1 rfl rfl).mono ?_))
                rintro r v14w ⟨v, rfl, hown, hb14⟩
                obtain ⟨M14, hM14⟩ : ∃ M14, M10 ++ [e4].flatMap (beL 2) = M14 := ⟨_, rfl⟩
                rw [hM14] at hown
                have nM14 : M14.length = 16 + 12 * j := by rw [← hM14]; simp [beL_len, nM10] <;> omega
                obtain ⟨A14, c14, rfl⟩ := hown.shape
                have R14 := (OwnR.rows (C := 1) (cells := bcell) (fun _ => rfl) hown).2
                have hown14 := OwnR.lower hown hF.size
                have hF := below_trans hF hF.size hb14
                have R0 := rows_keep R0 hb14
                have R5 := rows_keep R5 hb14
                have R13 := rows_keep R13 hb14
                have R6 := rows_keep R6 hb14
                have R9 := rows_keep R9 hb14
                have R10 := rows_keep R10 hb14
                refine ⟨_, rfl, fun _ => hF, ?_⟩
                go_frame
                clear hb14 hown
                refine F_one (i := 15) (s' := #[true, true, true, true, true, true, true, true, true, true, true, true, true, true, true, true]) (by kernel_rfl) (by kernel_rfl) (wpOp_valueL (i := 15) (d := some 3) (w' := v14w) (v := .slice A14 M14.length c14) rfl rfl (by kernel_rfl) (by go_simp) ⟨fun h => absurd h (by decide), ?_⟩)
                go_frame
                refine F_done (by kernel_rfl) ?_ _
                have HE : Hid (M14 = M ++ lnkL ⟨e1, e2, e3, e4⟩) := Lib.hid (by rw [← hM14, ← hM10, ← hM6]; simp only [lnkL, List.append_assoc])
                have HNl := Lib.hid nM14
                have HF := Lib.hid hF
                have HRn := Lib.hid R14
                clear hM14 hM10 hM6 nM14 nM10 nM6 nM hF
                go_wp2
                go_roundw
                case measure => have := HJ.out; simp [intOf]; omega
                case rel => exact ⟨j + 1, M14, A14, c14, rfl, by go_num, HJ.out, by rw [HE.out, HMr.out, HS.out, List.flatMap_append, List.append_assoc]; simp, by rw [HNl.out]; omega, HRn.out, below_trans Hbr.out Hbr.out.size (below_trans Hb7.out Hb7.out.size HF.out)⟩
              · skip
                obtain ⟨g9, hg9⟩ : ∃ g9, v13w.heap.size = g9 := ⟨_, rfl⟩
                obtain ⟨v9w, hv9w⟩ : ∃ v9w, v13w.alloc (.cells #[.int .i64 e1, .int .i64 0] 3) = v9w := ⟨_, rfl⟩
                have hb9 : Below v13w.heap.size v13w v9w := by rw [← hv9w]; exact below_new _ _
                have R9 : RowsAt 1 icell v9w v9w.heap.size (some ⟨g9, 0, none⟩) [e1, 0] := by rw [← hv9w, ← hg9]; exact ints_new v13w 3 [e1, 0]
                have hF := below_trans hF hF.size hb9
                have R0 := rows_keep R0 hb9
                have R5 := rows_keep R5 hb9
                have R13 := rows_keep R13 hb9
                refine wpOp_valueL (i := 9) (d := some 35) (w' := v9w) (v := .slice (some ⟨g9, 0, none⟩) 2 2) rfl rfl (by kernel_rfl) (by go_simp) ⟨fun _ => hF, ?_⟩
                go_frame
                clear hv9w hg9 hb9
                refine F_one (i := 6) (s' := #[true, true, true, true, true, true, true, true, true, true, false, true, true, true, false, false]) (by kernel_rfl) (by kernel_rfl) (wpOp_enterL (i := 6) (d := some 32) (f := 130) (args := #[.slice A M.length c, .int .i64 4, .slice (some ⟨g5, 0, none⟩) 2 2]) rfl rfl (by kernel_rfl) (by go_simp) ((quadPut A c M 4 (by decide) (by decide) (some ⟨g5, 0, none⟩) 2 [e2, e3] v9w v9w.heap.size R0 R5 (Nat.le_refl _) (by omega) (by simp) M.length 2 rfl rfl).mono ?_))
                rintro r v6w ⟨v, rfl, hown, hb6⟩
                obtain ⟨M6, hM6⟩ : ∃ M6, M ++ [e2, e3].flatMap (beL 4) = M6 := ⟨_, rfl⟩
                rw [hM6] at hown
                have nM6 : M6.length = 12 + 12 * j := by rw [← hM6]; simp [beL_len, nM] <;> omega
                obtain ⟨A6, c6, rfl⟩ := hown.shape
                have R6 := (OwnR.rows (C := 1) (cells := bcell) (fun _ => rfl) hown).2
                have hown6 := OwnR.lower hown hF.size
                have hF := below_trans hF hF.size hb6
                have R0 := rows_keep R0 hb6
                have R5 := rows_keep R5 hb6
                have R13 := rows_keep R13 hb6
                have R9 := rows_keep R9 hb6
                refine ⟨_, rfl, fun _ => hF, ?_⟩
                go_frame
                clear hb6 hown
                refine F_one (i := 10) (s' := #[true, true, true, true, true, true, true, true, true, true, true, true, true, true, false, false]) (by kernel_rfl) (by kernel_rfl) (wpOp_enterL (i := 10) (d := some 36) (f := 130) (args := #[.slice A6 M6.length c6, .int .i64 1, .slice (some ⟨g9, 0, none⟩) 2 2]) rfl rfl (by kernel_rfl) (by go_simp) ((quadPut A6 c6 M6 1 (by decide) (by decide) (some ⟨g9, 0, none⟩) 2 [e1, 0] v6w v6w.heap.size R6 R9 (Nat.le_refl _) (by rw [nM6]; omega) (by simp) M6.length 2 rfl rfl).mono ?_))
                rintro r v10w ⟨v, rfl, hown, hb10⟩
                obtain ⟨M10, hM10⟩ : ∃ M10, M6 ++ [e1, 0].flatMap (beL 1) = M10 := ⟨_, rfl⟩
                rw [hM10] at hown
                have nM10 : M10.length = 14 + 12 * j := by rw [← hM10]; simp [beL_len, nM6] <;> omega
                obtain ⟨A10, c10, rfl⟩ := hown.shape
                have R10 := (OwnR.rows (C := 1) (cells := bcell) (fun _ => rfl) hown).2
                have hown10 := OwnR.lower hown hF.size
                have hF := below_trans hF hF.size hb10
                have R0 := rows_keep R0 hb10
                have R5 := rows_keep R5 hb10
                have R13 := rows_keep R13 hb10
                have R9 := rows_keep R9 hb10
                have R6 := rows_keep R6 hb10
                refine ⟨_, rfl, fun _ => hF, ?_⟩
                go_frame
                clear hb10 hown
                refine F_one (i := 14) (s' := #[true, true, true, true, true, true, true, true, true, true, true, true, true, true, true, false]) (by kernel_rfl) (by kernel_rfl) (wpOp_enterL (i := 14) (d := some 40) (f := 130) (args := #[.slice A10 M10.length c10, .int .i64 2, .slice (some ⟨g13, 0, none⟩) 1 1]) rfl rfl (by kernel_rfl) (by go_simp) ((quadPut A10 c10 M10 2 (by decide) (by decide) (some ⟨g13, 0, none⟩) 1 [e4] v10w v10w.heap.size R10 R13 (Nat.le_refl _) (by rw [nM10]; omega) (by simp) M10.length 1 rfl rfl).mono ?_))
                rintro r v14w ⟨v, rfl, hown, hb14⟩
                obtain ⟨M14, hM14⟩ : ∃ M14, M10 ++ [e4].flatMap (beL 2) = M14 := ⟨_, rfl⟩
                rw [hM14] at hown
                have nM14 : M14.length = 16 + 12 * j := by rw [← hM14]; simp [beL_len, nM10] <;> omega
                obtain ⟨A14, c14, rfl⟩ := hown.shape
                have R14 := (OwnR.rows (C := 1) (cells := bcell) (fun _ => rfl) hown).2
                have hown14 := OwnR.lower hown hF.size
                have hF := below_trans hF hF.size hb14
                have R0 := rows_keep R0 hb14
                have R5 := rows_keep R5 hb14
                have R13 := rows_keep R13 hb14
                have R9 := rows_keep R9 hb14
                have R6 := rows_keep R6 hb14
                have R10 := rows_keep R10 hb14
                refine ⟨_, rfl, fun _ => hF, ?_⟩
                go_frame
                clear hb14 hown
                refine F_one (i := 15) (s' := #[true, true, true, true, true, true, true, true, true, true, true, true, true, true, true, true]) (by kernel_rfl) (by kernel_rfl) (wpOp_valueL (i := 15) (d := some 3) (w' := v14w) (v := .slice A14 M14.length c14) rfl rfl (by kernel_rfl) (by go_simp) ⟨fun h => absurd h (by decide), ?_⟩)
                go_frame
                refine F_done (by kernel_rfl) ?_ _
                have HE : Hid (M14 = M ++ lnkL ⟨e1, e2, e3, e4⟩) := Lib.hid (by rw [← hM14, ← hM10, ← hM6]; simp only [lnkL, List.append_assoc])
                have HNl := Lib.hid nM14
                have HF := Lib.hid hF
                have HRn := Lib.hid R14
                clear hM14 hM10 hM6 nM14 nM10 nM6 nM hF
                go_wp2
                go_roundw
                case measure => have := HJ.out; simp [intOf]; omega
                case rel => exact ⟨j + 1, M14, A14, c14, rfl, by go_num, HJ.out, by rw [HE.out, HMr.out, HS.out, List.flatMap_append, List.append_assoc]; simp, by rw [HNl.out]; omega, HRn.out, below_trans Hbr.out Hbr.out.size (below_trans Hb7.out Hb7.out.size HF.out)⟩
          · skip
            obtain ⟨g9, hg9⟩ : ∃ g9, wd.heap.size = g9 := ⟨_, rfl⟩
            obtain ⟨v9w, hv9w⟩ : ∃ v9w, wd.alloc (.cells #[.int .i64 e1, .int .i64 0] 3) = v9w := ⟨_, rfl⟩
            have hb9 : Below wd.heap.size wd v9w := by rw [← hv9w]; exact below_new _ _
            have R9 : RowsAt 1 icell v9w v9w.heap.size (some ⟨g9, 0, none⟩) [e1, 0] := by rw [← hv9w, ← hg9]; exact ints_new wd 3 [e1, 0]
            have hF := below_trans hF hF.size hb9
            have R0 := rows_keep R0 hb9
            refine wpOp_valueL (i := 9) (d := some 35) (w' := v9w) (v := .slice (some ⟨g9, 0, none⟩) 2 2) rfl rfl (by kernel_rfl) (by go_simp) ⟨fun _ => hF, ?_⟩
            go_frame
            clear hv9w hg9 hb9
            refine F_two (i := 5) (si := #[true, true, true, true, true, true, false, true, true, true, false, true, true, false, false, false]) (j := 13) (sj := #[true, true, true, true, true, false, false, true, true, true, false, true, true, true, false, false]) (by kernel_rfl) (by kernel_rfl) (by kernel_rfl) ?_ ?_
            · skip
              obtain ⟨g5, hg5⟩ : ∃ g5, v9w.heap.size = g5 := ⟨_, rfl⟩
              obtain ⟨v5w, hv5w⟩ : ∃ v5w, v9w.alloc (.cells #[.int .i64 e2, .int .i64 e3] 3) = v5w := ⟨_, rfl⟩
              have hb5 : Below v9w.heap.size v9w v5w := by rw [← hv5w]; exact below_new _ _
              have R5 : RowsAt 1 icell v5w v5w.heap.size (some ⟨g5, 0, none⟩) [e2, e3] := by rw [← hv5w, ← hg5]; exact ints_new v9w 3 [e2, e3]
              have hF := below_trans hF hF.size hb5
              have R0 := rows_keep R0 hb5
              have R9 := rows_keep R9 hb5
              refine wpOp_valueL (i := 5) (d := some 31) (w' := v5w) (v := .slice (some ⟨g5, 0, none⟩) 2 2) rfl rfl (by kernel_rfl) (by go_simp) ⟨fun _ => hF, ?_⟩
              go_frame
              clear hv5w hg5 hb5
              refine F_two (i := 6) (si := #[true, true, true, true, true, true, true, true, true, true, false, true, true, false, false, false]) (j := 13) (sj := #[true, true, true, true, true, true, false, true, true, true, false, true, true, true, false, false]) (by kernel_rfl) (by kernel_rfl) (by kernel_rfl) ?_ ?_
              · skip
                refine wpOp_enterL (i := 6) (d := some 32) (f := 130) (args := #[.slice A M.length c, .int .i64 4, .slice (some ⟨g5, 0, none⟩) 2 2]) rfl rfl (by kernel_rfl) (by go_simp) ((quadPut A c M 4 (by decide) (by decide) (some ⟨g5, 0, none⟩) 2 [e2, e3] v5w v5w.heap.size R0 R5 (Nat.le_refl _) (by omega) (by simp) M.length 2 rfl rfl).mono ?_)
                rintro r v6w ⟨v, rfl, hown, hb6⟩
                obtain ⟨M6, hM6⟩ : ∃ M6, M ++ [e2, e3].flatMap (beL 4) = M6 := ⟨_, rfl⟩
                rw [hM6] at hown
                have nM6 : M6.length = 12 + 12 * j := by rw [← hM6]; simp [beL_len, nM] <;> omega
                obtain ⟨A6, c6, rfl⟩ := hown.shape
                have R6 := (OwnR.rows (C := 1) (cells := bcell) (fun _ => rfl) hown).2
                have hown6 := OwnR.lower hown hF.size
                have hF := below_trans hF hF.size hb6
                have R0 := rows_keep R0 hb6
                have R9 := rows_keep R9 hb6
                have R5 := rows_keep R5 hb6
                refine ⟨_, rfl, fun _ => hF, ?_⟩
                go_frame
                clear hb6 hown
                refine F_two (i := 10) (si := #[true, true, true, true, true, true, true, true, true, true, true, true, true, false, false, false]) (j := 13) (sj := #[true, true, true, true, true, true, true, true, true, true, false, true, true, true, false, false]) (by kernel_rfl) (by kernel_rfl) (by kernel_rfl) ?_ ?_
                · skip
                  refine wpOp_enterL (i := 10) (d := some 36) (f := 130) (args := #[.slice A6 M6.length c6, .int .i64 1, .slice (some ⟨g9, 0, none⟩) 2 2]) rfl rfl (by kernel_rfl) (by go_simp) ((quadPut A6 c6 M6 1 (by decide) (by decide) (some ⟨g9, 0, none⟩) 2 [e1, 0] v6w v6w.heap.size R6 R9 (Nat.le_refl _) (by rw [nM6]; omega) (by simp) M6.length 2 rfl rfl).mono ?_)
                  rintro r v10w ⟨v, rfl, hown, hb10⟩
                  obtain ⟨M10, hM10⟩ : ∃ M10, M6 ++ [e1, 0].flatMap (beL 1) = M10 := ⟨_, rfl⟩
                  rw [hM10] at hown
                  have nM10 : M10.length = 14 + 12 * j := by rw [← hM10]; simp [beL_len, nM6] <;> omega
                  obtain ⟨A10, c10, rfl⟩ := hown.shape
                  have R10 := (OwnR.rows (C := 1) (cells := bcell) (fun _ => rfl) hown).2
                  have hown10 := OwnR.lower hown hF.size
                  have hF := below_trans hF hF.size hb10
                  have R0 := rows_keep R0 hb10
                  have R9 := rows_keep R9 hb10
                  have R5 := rows_keep R5 hb10
                  have R6 := rows_keep R6 hb10
                  refine ⟨_, rfl, fun _ => hF, ?_⟩
                  go_frame
                  clear hb10 hown
                  obtain ⟨g13, hg13⟩ : ∃ g13, v10w.heap.size = g13 := ⟨_, rfl⟩
                  obtain ⟨v13w, hv13w⟩ : ∃ v13w, v10w.alloc (.cells #[.int .i64 e4] 3) = v13w := ⟨_, rfl⟩
                  have hb13 : Below v10w.heap.size v10w v13w := by rw [← hv13w]; exact below_new _ _
                  have R13 : RowsAt 1 icell v13w v13w.heap.size (some ⟨g13, 0, none⟩) [e4] := by rw [← hv13w, ← hg13]; exact ints_new v10w 3 [e4]
                  have hF := below_trans hF hF.size hb13
                  have R0 := rows_keep R0 hb13
                  have R9 := rows_keep R9 hb13
                  have R5 := rows_keep R5 hb13
                  have R6 := rows_keep R6 hb13
                  have R10 := rows_keep R10 hb13
                  refine F_one (i := 13) (s' := #[true, true, true, true, true, true, true, true, true, true, true, true, true, true, false, false]) (by kernel_rfl) (by kernel_rfl) (wpOp_valueL (i := 13) (d := some 39) (w' := v13w) (v := .slice (some ⟨g13, 0, none⟩) 1 1) rfl rfl (by kernel_rfl) (by go_simp) ⟨fun _ => hF, ?_⟩)
                  go_frame
                  clear hv13w hg13 hb13
                  refine F_one (i := 14) (s' := #[true, true, true, true, true, true, true, true, true, true, true, true, true, true, true, false]) (by kernel_rfl) (by kernel_rfl) (wpOp_enterL (i := 14) (d := some 40) (f := 130) (args := #[.slice A10 M10.length c10, .int .i64 2, .slice (some ⟨g13, 0, none⟩) 1 1]) rfl rfl (by kernel_rfl) (by go_simp) ((quadPut A10 c10 M10 2 (by decide) (by decide) (some ⟨g13, 0, none⟩) 1 [e4] v13w v13w.heap.size R10 R13 (Nat.le_refl _) (by rw [nM10]; omega) (by simp) M10.length 1 rfl rfl).mono ?_))
                  rintro r v14w ⟨v, rfl, hown, hb14⟩
                  obtain ⟨M14, hM14⟩ : ∃ M14, M10 ++ [e4].flatMap (beL 2) = M14 := ⟨_, rfl⟩
                  rw [hM14] at hown
                  have nM14 : M14.length = 16 + 12 * j := by rw [← hM14]; simp [beL_len, nM10] <;> omega
                  obtain ⟨A14, c14, rfl⟩ := hown.shape
                  have R14 := (OwnR.rows (C := 1) (cells := bcell) (fun _ => rfl) hown).2
                  have hown14 := OwnR.lower hown hF.size
                  have hF := below_trans hF hF.size hb14
                  have R0 := rows_keep R0 hb14
                  have R9 := rows_keep R9 hb14
                  have R5 := rows_keep R5 hb14
                  have R6 := rows_keep R6 hb14
                  have R10 := rows_keep R10 hb14
                  have R13 := rows_keep R13 hb14
                  refine ⟨_, rfl, fun _ => hF, ?_⟩
                  go_frame
                  clear hb14 hown
                  refine F_one (i := 15) (s' := #[true, true, true, true, true, true, true, true, true, true, true, true, true, true, true, true]) (by kernel_rfl) (by kernel_rfl) (wpOp_valueL (i := 15) (d := some 3) (w' := v14w) (v := .slice A14 M14.length c14) rfl rfl (by kernel_rfl) (by go_simp) ⟨fun h => absurd h (by decide), ?_⟩)
                  go_frame
                  refine F_done (by kernel_rfl) ?_ _
                  have HE : Hid (M14 = M ++ lnkL ⟨e1, e2, e3, e4⟩) := Lib.hid (by rw [← hM14, ← hM10, ← hM6]; simp only [lnkL, List.append_assoc])
                  have HNl := Lib.hid nM14
                  have HF := Lib.hid hF
                  have HRn := Lib.hid R14
                  clear hM14 hM10 hM6 nM14 nM10 nM6 nM hF
                  go_wp2
                  go_roundw
                  case measure => have := HJ.out; simp [intOf]; omega
                  case rel => exact ⟨j + 1, M14, A14, c14, rfl, by go_num, HJ.out, by rw [HE.out, HMr.out, HS.out, List.flatMap_append, List.append_assoc]; simp, by rw [HNl.out]; omega, HRn.out, below_trans Hbr.out Hbr.out.size (below_trans Hb7.out Hb7.out.size HF.out)⟩
                · skip
                  obtain ⟨g13, hg13⟩ : ∃ g13, v6w.heap.size = g13 := ⟨_, rfl⟩
                  obtain ⟨v13w, hv13w⟩ : ∃ v13w, v6w.alloc (.cells #[.int .i64 e4] 3) = v13w := ⟨_, rfl⟩
                  have hb13 : Below v6w.heap.size v6w v13w := by rw [← hv13w]; exact below_new _ _
                  have R13 : RowsAt 1 icell v13w v13w.heap.size (some ⟨g13, 0, none⟩) [e4] := by rw [← hv13w, ← hg13]; exact ints_new v6w 3 [e4]
                  have hF := below_trans hF hF.size hb13
                  have R0 := rows_keep R0 hb13
                  have R9 := rows_keep R9 hb13
                  have R5 := rows_keep R5 hb13
                  have R6 := rows_keep R6 hb13
                  refine wpOp_valueL (i := 13) (d := some 39) (w' := v13w) (v := .slice (some ⟨g13, 0, none⟩) 1 1) rfl rfl (by kernel_rfl) (by go_simp) ⟨fun _ => hF, ?_⟩
                  go_frame
                  clear hv13w hg13 hb13
                  refine F_one (i := 10) (s' := #[true, true, true, true, true, true, true, true, true, true, true, true, true, true, false, false]) (by kernel_rfl) (by kernel_rfl) (wpOp_enterL (i := 10) (d := some 36) (f := 130) (args := #[.slice A6 M6.length c6, .int .i64 1, .slice (some ⟨g9, 0, none⟩) 2 2]) rfl rfl (by kernel_rfl) (by go_simp) ((quadPut A6 c6 M6 1 (by decide) (by decide) (some ⟨g9, 0, none⟩) 2 [e1, 0] v13w v13w.heap.size R6 R9 (Nat.le_refl _) (by rw [nM6]; omega) (by simp) M6.length 2 rfl rfl).mono ?_))
                  rintro r v10w ⟨v, rfl, hown, hb10⟩
                  obtain ⟨M10, hM10⟩ : ∃ M10, M6 ++ [e1, 0].flatMap (beL 1) = M10 := ⟨_, rfl⟩
                  rw [hM10] at hown
                  have nM10 : M10.length = 14 + 12 * j := by rw [← hM10]; simp [beL_len, nM6] <;> omega
                  obtain ⟨A10, c10, rfl⟩ := hown.shape
                  have R10 := (OwnR.rows (C := 1) (cells := bcell) (fun _ => rfl) hown).2
                  have hown10 := OwnR.lower hown hF.size
                  have hF := below_trans hF hF.size hb10
                  have R0 := rows_keep R0 hb10
                  have R9 := rows_keep R9 hb10
                  have R5 := rows_keep R5 hb10
                  have R6 := rows_keep R6 hb10
                  have R13 := rows_keep R13 hb10
                  refine ⟨_, rfl, fun _ => hF, ?_⟩
                  go_frame
                  clear hb10 hown
                  refine F_one (i := 14) (s' := #[true, true, true, true, true, true, true, true, true, true, true, true, true, true, true, false]) (by kernel_rfl) (by kernel_rfl) (wpOp_enterL (i := 14) (d := some 40) (f := 130) (args := #[.slice A10 M10.length c10, .int .i64 2, .slice (some ⟨g13, 0, none⟩) 1 1]) rfl rfl (by kernel_rfl) (by go_simp) ((quadPut A10 c10 M10 2 (by decide) (by decide) (some ⟨g13, 0, none⟩) 1 [e4] v10w v10w.heap.size R10 R13 (Nat.le_refl _) (by rw [nM10]; omega) (by simp) M10.length 1 rfl rfl).mono ?_))
                  rintro r v14w ⟨v, rfl, hown, hb14⟩
                  obtain ⟨M14, hM14⟩ : ∃ M14, M10 ++ [e4].flatMap (beL 2) = M14 := ⟨_, rfl⟩
                  rw [hM14] at hown
                  have nM14 : M14.length = 16 + 12 * j := by rw [← hM14]; simp [beL_len, nM10] <;> omega
                  obtain ⟨A14, c14, rfl⟩ := hown.shape
                  have R14 := (OwnR.rows (C := 1) (cells := bcell) (fun _ => rfl) hown).2
                  have hown14 := OwnR.lower hown hF.size
                  have hF := below_trans hF hF.size hb14
                  have R0 := rows_keep R0 hb14
                  have R9 := rows_keep R9 hb14
                  have R5 := rows_keep R5 hb14
                  have R6 := rows_keep R6 hb14
                  have R13 := rows_keep R13 hb14
                  have R10 := rows_keep R10 hb14
                  refine ⟨_, rfl, fun _ => hF, ?_⟩
                  go_frame
                  clear hb14 hown
                  refine F_one (i := 15) (s' := #[true, true, true, true, true, true, true, true, true, true, true, true, true, true, true, true]) (by kernel_rfl) (by kernel_rfl) (wpOp_valueL (i := 15) (d := some 3) (w' := v14w) (v := .slice A14 M14.length c14) rfl rfl (by kernel_rfl) (by go_simp) ⟨fun h => absurd h (by decide), ?_⟩)
                  go_frame
                  refine F_done (by kernel_rfl) ?_ _
                  have HE : Hid (M14 = M ++ lnkL ⟨e1, e2, e3, e4⟩) := Lib.hid (by rw [← hM14, ← hM10, ← hM6]; simp only [lnkL, List.append_assoc])
                  have HNl := Lib.hid nM14
                  have HF := Lib.hid hF
                  have HRn := Lib.hid R14
                  clear hM14 hM10 hM6 nM14 nM10 nM6 nM hF
                  go_wp2
                  go_roundw
                  case measure => have := HJ.out; simp [intOf]; omega
                  case rel => exact ⟨j + 1, M14, A14, c14, rfl, by go_num, HJ.out, by rw [HE.out, HMr.out, HS.out, List.flatMap_append, List.append_assoc]; simp, by rw [HNl.out]; omega, HRn.out, below_trans Hbr.out Hbr.out.size (below_trans Hb7.out Hb7.out.size HF.out)⟩
              · skip
                obtain ⟨g13, hg13⟩ : ∃ g13, v5w.heap.size = g13 := ⟨_, rfl⟩
                obtain ⟨v13w, hv13w⟩ : ∃ v13w, v5w.alloc (.cells #[.int .i64 e4] 3) = v13w := ⟨_, rfl⟩
                have hb13 : Below v5w.heap.size v5w v13w := by rw [← hv13w]; exact below_new _ _
                have R13 : RowsAt 1 icell v13w v13w.heap.size (some ⟨g13, 0, none⟩) [e4] := by rw [← hv13w, ← hg13]; exact ints_new v5w 3 [e4]
                have hF := below_trans hF hF.size hb13
                have R0 := rows_keep R0 hb13
                have R9 := rows_keep R9 hb13
                have R5 := rows_keep R5 hb13
                refine wpOp_valueL (i := 13) (d := some 39) (w' := v13w) (v := .slice (some ⟨g13, 0, none⟩) 1 1) rfl rfl (by kernel_rfl) (by go_simp) ⟨fun _ => hF, ?_⟩
                go_frame
                clear hv13w hg13 hb13
                refine F_one (i := 6) (s' := #[true, true, true, true, true, true, true, true, true, true, false, true, true, true, false, false]) (by kernel_rfl) (by kernel_rfl) (wpOp_enterL (i := 6) (d := some 32) (f := 130) (args := #[.slice A M.length c, .int .i64 4, .slice (some ⟨g5, 0, none⟩) 2 2]) rfl rfl (by kernel_rfl) (by go_simp) ((quadPut A c M 4 (by decide) (by decide) (some ⟨g5, 0, none⟩) 2 [e2, e3] v13w v13w.heap.size R0 R5 (Nat.le_refl _) (by omega) (by simp) M.length 2 rfl rfl).mono ?_))
                rintro r v6w ⟨v, rfl, hown, hb6⟩
                obtain ⟨M6, hM6⟩ : ∃ M6, M ++ [e2, e3].flatMap (beL 4) = M6 := ⟨_, rfl⟩
                rw [hM6] at hown
                have nM6 : M6.length = 12 + 12 * j := by rw [← hM6]; simp [beL_len, nM] <;> omega
                obtain ⟨A6, c6, rfl⟩ := hown.shape
                have R6 := (OwnR.rows (C := 1) (cells := bcell) (fun _ => rfl) hown).2
                have hown6 := OwnR.lower hown hF.size
                have hF := below_trans hF hF.size hb6
                have R0 := rows_keep R0 hb6
                have R9 := rows_keep R9 hb6
                have R5 := rows_keep R5 hb6
                have R13 := rows_keep R13 hb6
                refine ⟨_, rfl, fun _ => hF, ?_⟩
                go_frame
                clear hb6 hown
                refine F_one (i := 10) (s' := #[true, true, true, true, true, true, true, true, true, true, true, true, true, true, false, false]) (by kernel_rfl) (by kernel_rfl) (wpOp_enterL (i := 10) (d := some 36) (f := 130) (args := #[.slice A6 M6.length c6, .int .i64 1, .slice (some ⟨g9, 0, none⟩) 2 2]) rfl rfl (by kernel_rfl) (by go_simp) ((quadPut A6 c6 M6 1 (by decide) (by decide) (some ⟨g9, 0, none⟩) 2 [e1, 0] v6w v6w.heap.size R6 R9 (Nat.le_refl _) (by rw [nM6]; omega) (by simp) M6.length 2 rfl rfl).mono ?_))
                rintro r v10w ⟨v, rfl, hown, hb10⟩
                obtain ⟨M10, hM10⟩ : ∃ M10, M6 ++ [e1, 0].flatMap (beL 1) = M10 := ⟨_, rfl⟩
                rw [hM10] at hown
                have nM10 : M10.length = 14 + 12 * j := by rw [← hM10]; simp [beL_len, nM6] <;> omega
                obtain ⟨A10, c10, rfl⟩ := hown.shape
                have R10 := (OwnR.rows (C := 1) (cells := bcell) (fun _ => rfl) hown).2
                have hown10 := OwnR.lower hown hF.size
                have hF := below_trans hF hF.size hb10
                have R0 := rows_keep R0 hb10
                have R9 := rows_keep R9 hb10
                have R5 := rows_keep R5 hb10
                have R13 := rows_keep R13 hb10
                have R6 := rows_keep R6 hb10
                refine ⟨_, rfl, fun _ => hF, ?_⟩
                go_frame
                clear hb10 hown
                refine F_one (i := 14) (s' := #[true, true, true, true, true, true, true, true, true, true, true, true, true, true, true, false]) (by kernel_rfl) (by kernel_rfl) (wpOp_enterL (i := 14) (d := some 40) (f := 130) (args := #[.slice A10 M10.length c10, .int .i64 2, .slice (some ⟨g13, 0, none⟩) 1 1]) rfl rfl (by kernel_rfl) (by go_simp) ((quadPut A10 c10 M10 2 (by decide) (by decide) (some ⟨g13, 0, none⟩) 1 [e4] v10w v10w.heap.size R10 R13 (Nat.le_refl _) (by rw [nM10]; omega) (by simp) M10.length 1 rfl rfl).mono ?_))
                rintro r v14w ⟨v, rfl, hown, hb14⟩
                obtain ⟨M14, hM14⟩ : ∃ M14, M10 ++ [e4].flatMap (beL 2) = M14 := ⟨_, rfl⟩
                rw [hM14] at hown
                have nM14 : M14.length = 16 + 12 * j := by rw [← hM14]; simp [beL_len, nM10] <;> omega
                obtain ⟨A14, c14, rfl⟩ := hown.shape
                have R14 := (OwnR.rows (C := 1) (cells := bcell) (fun _ => rfl) hown).2
                have hown14 := OwnR.lower hown hF.size
                have hF := below_trans hF hF.size hb14
                have R0 := rows_keep R0 hb14
                have R9 := rows_keep R9 hb14
                have R5 := rows_keep R5 hb14
                have R13 := rows_keep R13 hb14
                have R6 := rows_keep R6 hb14
                have R10 := rows_keep R10 hb14
                refine ⟨_, rfl, fun _ => hF, ?_⟩
                go_frame
                clear hb14 hown
                refine F_one (i := 15) (s' := #[true, true, true, true, true, true, true, true, true, true, true, true, true, true, true, true]) (by kernel_rfl) (by kernel_rfl) (wpOp_valueL (i := 15) (d := some 3) (w' := v14w) (v := .slice A14 M14.length c14) rfl rfl (by kernel_rfl) (by go_simp) ⟨fun h => absurd h (by decide), ?_⟩)
                go_frame
                refine F_done (by kernel_rfl) ?_ _
                have HE : Hid (M14 = M ++ lnkL ⟨e1, e2, e3, e4⟩) := Lib.hid (by rw [← hM14, ← hM10, ← hM6]; simp only [lnkL, List.append_assoc])
                have HNl := Lib.hid nM14
                have HF := Lib.hid hF
                have HRn := Lib.hid R14
                clear hM14 hM10 hM6 nM14 nM10 nM6 nM hF
                go_wp2
                go_roundw
                case measure => have := HJ.out; simp [intOf]; omega
                case rel => exact ⟨j + 1, M14, A14, c14, rfl, by go_num, HJ.out, by rw [HE.out, HMr.out, HS.out, List.flatMap_append, List.append_assoc]; simp, by rw [HNl.out]; omega, HRn.out, below_trans Hbr.out Hbr.out.size (below_trans Hb7.out Hb7.out.size HF.out)⟩
            · skip
              obtain ⟨g13, hg13⟩ : ∃ g13, v9w.heap.size = g13 := ⟨_, rfl⟩
              obtain ⟨v13w, hv13w⟩ : ∃ v13w, v9w.alloc (.cells #[.int .i64 e4] 3) = v13w := ⟨_, rfl⟩
              have hb13 : Below v9w.heap.size v9w v13w := by rw [← hv13w]; exact below_new _ _
              have R13 : RowsAt 1 icell v13w v13w.heap.size (some ⟨g13, 0, none⟩) [e4] := by rw [← hv13w, ← hg13]; exact ints_new v9w 3 [e4]
              have hF := below_trans hF hF.size hb13
              have R0 := rows_keep R0 hb13
              have R9 := rows_keep R9 hb13
              refine wpOp_valueL (i := 13) (d := some 39) (w' := v13w) (v := .slice (some ⟨g13, 0, none⟩) 1 1) rfl rfl (by kernel_rfl) (by go_simp) ⟨fun _ => hF, ?_⟩
              go_frame
              clear hv13w hg13 hb13
              obtain ⟨g5, hg5⟩ : ∃ g5, v13w.heap.size = g5 := ⟨_, rfl⟩
              obtain ⟨v5w, hv5w⟩ : ∃ v5w, v13w.alloc (.cells #[.int .i64 e2, .int .i64 e3] 3) = v5w := ⟨_, rfl⟩
              have hb5 : Below v13w.heap.size v13w v5w := by rw [← hv5w]; exact below_new _ _
              have R5 : RowsAt 1 icell v5w v5w.heap.size (some ⟨g5, 0, none⟩) [e2, e3] := by rw [← hv5w, ← hg5]; exact ints_new v13w 3 [e2, e3]
              have hF := below_trans hF hF.size hb5
              have R0 := rows_keep R0 hb5
              have R9 := rows_keep R9 hb5
              have R13 := rows_keep R13 hb5
              refine F_one (i := 5) (s' := #[true, true, true, true, true, true, false, true, true, true, false, true, true, true, false, false]) (by kernel_rfl) (by kernel_rfl) (wpOp_valueL (i := 5) (d := some 31) (w' := v5w) (v := .slice (some ⟨g5, 0, none⟩) 2 2) rfl rfl (by kernel_rfl) (by go_simp) ⟨fun _ => hF, ?_⟩)
              go_frame
              clear hv5w hg5 hb5
              refine F_one (i := 6) (s' := #[true, true, true, true, true, true, true, true, true, true, false, true, true, true, false, false]) (by kernel_rfl) (by kernel_rfl) (wpOp_enterL (i := 6) (d := some 32) (f := 130) (args := #[.slice A M.length c, .int .i64 4, .slice (some ⟨g5, 0, none⟩) 2 2]) rfl rfl (by kernel_rfl) (by go_simp) ((quadPut A c M 4 (by decide) (by decide) (some ⟨g5, 0, none⟩) 2 [e2, e3] v5w v5w.heap.size R0 R5 (Nat.le_refl _) (by omega) (by simp) M.length 2 rfl rfl).mono ?_))
              rintro r v6w ⟨v, rfl, hown, hb6⟩
              obtain ⟨M6, hM6⟩ : ∃ M6, M ++ [e2, e3].flatMap (beL 4) = M6 := ⟨_, rfl⟩
              rw [hM6] at hown
              have nM6 : M6.length = 12 + 12 * j := by rw [← hM6]; simp [beL_len, nM] <;> omega
              obtain ⟨A6, c6, rfl⟩ := hown.shape
              have R6 := (OwnR.rows (C := 1) (cells := bcell) (fun _ => rfl) hown).2
              have hown6 := OwnR.lower hown hF.size
              have hF := below_trans hF hF.size hb6
              have R0 := rows_keep R0 hb6
              have R9 := rows_keep R9 hb6
              have R13 := rows_keep R13 hb6
              have R5 := rows_keep R5 hb6
              refine ⟨_, rfl, fun _ => hF, ?_⟩
              go_frame
              clear hb6 hown
              refine F_one (i := 10) (s' := #[true, true, true, true, true, true, true, true, true, true, true, true, true, true, false, false]) (by kernel_rfl) (by kernel_rfl) (wpOp_enterL (i := 10) (d := some 36) (f := 130) (args := #[.slice A6 M6.length c6, .int .i64 1, .slice (some ⟨g9, 0, none⟩) 2 2]) rfl rfl (by kernel_rfl) (by go_simp) ((quadPut A6 c6 M6 1 (by decide) (by decide) (some ⟨g9, 0, none⟩) 2 [e1, 0] v6w v6w.heap.size R6 R9 (Nat.le_refl _) (by rw [nM6]; omega) (by simp) M6.length 2 rfl rfl).mono ?_))
              rintro r v10w ⟨v, rfl, hown, hb10⟩
              obtain ⟨M10, hM10⟩ : ∃ M10, M6 ++ [e1, 0].flatMap (beL 1) = M10 := ⟨_, rfl⟩
              rw [hM10] at hown
              have nM10 : M10.length = 14 + 12 * j := by rw [← hM10]; simp [beL_len, nM6] <;> omega
              obtain ⟨A10, c10, rfl⟩ := hown.shape
              have R10 := (OwnR.rows (C := 1) (cells := bcell) (fun _ => rfl) hown).2
              have hown10 := OwnR.lower hown hF.size
              have hF := below_trans hF hF.size hb10
              have R0 := rows_keep R0 hb10
              have R9 := rows_keep R9 hb10
              have R13 := rows_keep R13 hb10
              have R5 := rows_keep R5 hb10
              have R6 := rows_keep R6 hb10
              refine ⟨_, rfl, fun _ => hF, ?_⟩
              go_frame
              clear hb10 hown
              refine F_one (i := 14) (s' := #[true, true, true, true, true, true, true, true, true, true, true, true, true, true, true, false]) (by kernel_rfl) (by kernel_rfl) (wpOp_enterL (i := 14) (d := some 40) (f := 130) (args := #[.slice A10 M10.length c10, .int .i64 2, .slice (some ⟨g13, 0, none⟩) 1 1]) rfl rfl (by kernel_rfl) (by go_simp) ((quadPut A10 c10 M10 2 (by decide) (by decide) (some ⟨g13, 0, none⟩) 1 [e4] v10w v10w.heap.size R10 R13 (Nat.le_refl _) (by rw [nM10]; omega) (by simp) M10.length 1 rfl rfl).mono ?_))
              rintro r v14w ⟨v, rfl, hown, hb14⟩
              obtain ⟨M14, hM14⟩ : ∃ M14, M10 ++ [e4].flatMap (beL 2) = M14 := ⟨_, rfl⟩
              rw [hM14] at hown
              have nM14 : M14.length = 16 + 12 * j := by rw [← hM14]; simp [beL_len, nM10] <;> omega
              obtain ⟨A14, c14, rfl⟩ := hown.shape
              have R14 := (OwnR.rows (C := 1) (cells := bcell) (fun _ => rfl) hown).2
              have hown14 := OwnR.lower hown hF.size
              have hF := below_trans hF hF.size hb14
              have R0 := rows_keep R0 hb14
              have R9 := rows_keep R9 hb14
              have R13 := rows_keep R13 hb14
              have R5 := rows_keep R5 hb14
              have R6 := rows_keep R6 hb14
              have R10 := rows_keep R10 hb14
              refine ⟨_, rfl, fun _ => hF, ?_⟩
              go_frame
              clear hb14 hown
              refine F_one (i := 15) (s' := #[true, true, true, true, true, true, true, true, true, true, true, true, true, true, true, true]) (by kernel_rfl) (by kernel_rfl) (wpOp_valueL (i := 15) (d := some 3) (w' := v14w) (v := .slice A14 M14.length c14) rfl rfl (by kernel_rfl) (by go_simp) ⟨fun h => absurd h (by decide), ?_⟩)
              go_frame
              refine F_done (by kernel_rfl) ?_ _
              have HE : Hid (M14 = M ++ lnkL ⟨e1, e2, e3, e4⟩) := Lib.hid (by rw [← hM14, ← hM10, ← hM6]; simp only [lnkL, List.append_assoc])
              have HNl := Lib.hid nM14
              have HF := Lib.hid hF
              have HRn := Lib.hid R14
              clear hM14 hM10 hM6 nM14 nM10 nM6 nM hF
              go_wp2
              go_roundw
              case measure => have := HJ.out; simp [intOf]; omega
              case rel => exact ⟨j + 1, M14, A14, c14, rfl, by go_num, HJ.out, by rw [HE.out, HMr.out, HS.out, List.flatMap_append, List.append_assoc]; simp, by rw [HNl.out]; omega, HRn.out, below_trans Hbr.out Hbr.out.size (below_trans Hb7.out Hb7.out.size HF.out)⟩
          · skip
            obtain ⟨g13, hg13⟩ : ∃ g13, wd.heap.size = g13 := ⟨_, rfl⟩
            obtain ⟨v13w, hv13w⟩ : ∃ v13w, wd.alloc (.cells #[.int .i64 e4] 3) = v13w := ⟨_, rfl⟩
            have hb13 : Below wd.heap.size wd v13w := by rw [← hv13w]; exact below_new _ _
            have R13 : RowsAt 1 icell v13w v13w.heap.size (some ⟨g13, 0, none⟩) [e4] := by rw [← hv13w, ← hg13]; exact ints_new wd 3 [e4]
            have hF := below_trans hF hF.size hb13
            have R0 := rows_keep R0 hb13
            refine wpOp_valueL (i := 13) (d := some 39) (w' := v13w) (v := .slice (some ⟨g13, 0, none⟩) 1 1) rfl rfl (by kernel_rfl) (by go_simp) ⟨fun _ => hF, ?_⟩
            go_frame
            clear hv13w hg13 hb13
            refine F_two (i := 5) (si := #[true, true, true, true, true, true, false, true, true, false, false, true, true, true, false, false]) (j := 9) (sj := #[true, true, true, true, true, false, false, true, true, true, false, true, true, true, false, false]) (by kernel_rfl) (by kernel_rfl) (by kernel_rfl) ?_ ?_
            · skip
              obtain ⟨g5, hg5⟩ : ∃ g5, v13w.heap.size = g5 := ⟨_, rfl⟩
              obtain ⟨v5w, hv5w⟩ : ∃ v5w, v13w.alloc (.cells #[.int .i64 e2, .int .i64 e3] 3) = v5w := ⟨_, rfl⟩
              have hb5 : Below v13w.heap.size v13w v5w := by rw [← hv5w]; exact below_new _ _
              have R5 : RowsAt 1 icell v5w v5w.heap.size (some ⟨g5, 0, none⟩) [e2, e3] := by rw [← hv5w, ← hg5]; exact ints_new v13w 3 [e2, e3]
              have hF := below_trans hF hF.size hb5
              have R0 := rows_keep R0 hb5
              have R13 := rows_keep R13 hb5
              refine wpOp_valueL (i := 5) (d := some 31) (w' := v5w) (v := .slice (some ⟨g5, 0, none⟩) 2 2) rfl rfl (by kernel_rfl) (by go_simp) ⟨fun _ => hF, ?_⟩
              go_frame
              clear hv5w hg5 hb5
              refine F_two (i := 6) (si := #[true, true, true, true, true, true, true, true, true, false, false, true, true, true, false, false]) (j := 9) (sj := #[true, true, true, true, true, true, false, true, true, true, false, true, true, true, false, false]) (by kernel_rfl) (by kernel_rfl) (by kernel_rfl) ?_ ?_
              · skip
                refine wpOp_enterL (i := 6) (d := some 32) (f := 130) (args := #[.slice A M.length c, .int .i64 4, .slice (some ⟨g5, 0, none⟩) 2 2]) rfl rfl (by kernel_rfl) (by go_simp) ((quadPut A c M 4 (by decide) (by decide) (some ⟨g5, 0, none⟩) 2 [e2, e3] v5w v5w.heap.size R0 R5 (Nat.le_refl _) (by omega) (by simp) M.length 2 rfl rfl).mono ?_)
                rintro r v6w ⟨v, rfl, hown, hb6⟩
                obtain ⟨M6, hM6⟩ : ∃ M6, M ++ [e2, e3].flatMap (beL 4) = M6 := ⟨_, rfl⟩
                rw [hM6] at hown
                have nM6 : M6.length = 12 + 12 * j := by rw [← hM6]; simp [beL_len, nM] <;> omega
                obtain ⟨A6, c6, rfl⟩ := hown.shape
                have R6 := (OwnR.rows (C := 1) (cells := bcell) (fun _ => rfl) hown).2
                have hown6 := OwnR.lower hown hF.size
                have hF := below_trans hF hF.size hb6
                have R0 := rows_keep R0 hb6
                have R13 := rows_keep R13 hb6
                have R5 := rows_keep R5 hb6
                refine ⟨_, rfl, fun _ => hF, ?_⟩
                go_frame
                clear hb6 hown
                obtain ⟨g9, hg9⟩ : ∃ g9, v6w.heap.size = g9 := ⟨_, rfl⟩
                obtain ⟨v9w, hv9w⟩ : ∃ v9w, v6w.alloc (.cells #[.int .i64 e1, .int .i64 0] 3) = v9w := ⟨_, rfl⟩
                have hb9 : Below v6w.heap.size v6w v9w := by rw [← hv9w]; exact below_new _ _
                have R9 : RowsAt 1 icell v9w v9w.heap.size (some ⟨g9, 0, none⟩) [e1, 0] := by rw [← hv9w, ← hg9]; exact ints_new v6w 3 [e1, 0]
                have hF := below_trans hF hF.size hb9
                have R0 := rows_keep R0 hb9
                have R13 := rows_keep R13 hb9
                have R5 := rows_keep R5 hb9
                have R6 := rows_keep R6 hb9
                refine F_one (i := 9) (s' := #[true, true, true, true, true, true, true, true, true, true, false, true, true, true, false, false]) (by kernel_rfl) (by kernel_rfl) (wpOp_valueL (i := 9) (d := some 35) (w' := v9w) (v := .slice (some ⟨g9, 0, none⟩) 2 2) rfl rfl (by kernel_rfl) (by go_simp) ⟨fun _ => hF, ?_⟩)
                go_frame
                clear hv9w hg9 hb9
                refine F_one (i := 10) (s' := #[true, true, true, true, true, true, true, true, true, true, true, true, true, true, false, false]) (by kernel_rfl) (by kernel_rfl) (wpOp_enterL (i := 10) (d := some 36) (f := 130) (args := #[.slice A6 M6.length c6, .int .i64 1, .slice (some ⟨g9, 0, none⟩) 2 2]) rfl rfl (by kernel_rfl) (by go_simp) ((quadPut A6 c6 M6 1 (by decide) (by decide) (some ⟨g9, 0, none⟩) 2 [e1, 0] v9w v9w.heap.size R6 R9 (Nat.le_refl _) (by rw [nM6]; omega) (by simp) M6.length 2 rfl rfl).mono ?_))
                rintro r v10w ⟨v, rfl, hown, hb10⟩
                obtain ⟨M10, hM10⟩ : ∃ M10, M6 ++ [e1, 0].flatMap (beL 1) = M10 := ⟨_, rfl⟩
                rw [hM10] at hown
                have nM10 : M10.length = 14 + 12 * j := by rw [← hM10]; simp [beL_len, nM6] <;> omega
                obtain ⟨A10, c10, rfl⟩ := hown.shape
                have R10 := (OwnR.rows (C := 1) (cells := bcell) (fun _ => rfl) hown).2
                have hown10 := OwnR.lower hown hF.size
                have hF := below_trans hF hF.size hb10
                have R0 := rows_keep R0 hb10
                have R13 := rows_keep R13 hb10
                have R5 := rows_keep R5 hb10
                have R6 := rows_keep R6 hb10
                have R9 := rows_keep R9 hb10
                refine ⟨_, rfl, fun _ => hF, ?_⟩
                go_frame
                clear hb10 hown
                refine F_one (i := 14) (s' := #[true, true, true, true, true, true, true, true, true, true, true, true, true, true, true, false]) (by kernel_rfl) (by kernel_rfl) (wpOp_enterL (i := 14) (d := some 40) (f := 130) (args := #[.slice A10 M10.length c10, .int .i64 2, .slice (some ⟨g13, 0, none⟩) 1 1]) rfl rfl (by kernel_rfl) (by go_simp) ((quadPut A10 c10 M10 2 (by decide) (by decide) (some ⟨g13, 0, none⟩) 1 [e4] v10w v10w.heap.size R10 R13 (Nat.le_refl _) (by rw [nM10]; omega) (by simp) M10.length 1 rfl rfl).mono ?_))
                rintro r v14w ⟨v, rfl, hown, hb14⟩
                obtain ⟨M14, hM14⟩ : ∃ M14, M10 ++ [e4].flatMap (beL 2) = M14 := ⟨_, rfl⟩
                rw [hM14] at hown
                have nM14 : M14.length = 16 + 12 * j := by rw [← hM14]; simp [beL_len, nM10] <;> omega
                obtain ⟨A14, c14, rfl⟩ := hown.shape
                have R14 := (OwnR.rows (C := 1) (cells := bcell) (fun _ => rfl) hown).2
                have hown14 := OwnR.lower hown hF.size
                have hF := below_trans hF hF.size hb14
                have R0 := rows_keep R0 hb14
                have R13 := rows_keep R13 hb14
                have R5 := rows_keep R5 hb14
                have R6 := rows_keep R6 hb14
                have R9 := rows_keep R9 hb14
                have R10 := rows_keep R10 hb14
                refine ⟨_, rfl, fun _ => hF, ?_⟩
                go_frame
                clear hb14 hown
                refine F_one (i := 15) (s' := #[true, true, true, true, true, true, true, true, true, true, true, true, true, true, true, true]) (by kernel_rfl) (by kernel_rfl) (wpOp_valueL (i := 15) (d := some 3) (w' := v14w) (v := .slice A14 M14.length c14) rfl rfl (by kernel_rfl) (by go_simp) ⟨fun h => absurd h (by decide), ?_⟩)
                go_frame
                refine F_done (by kernel_rfl) ?_ _
                have HE : Hid (M14 = M ++ lnkL ⟨e1, e2, e3, e4⟩) := Lib.hid (by rw [← hM14, ← hM10, ← hM6]; simp only [lnkL, List.append_assoc])
                have HNl := Lib.hid nM14
                have HF := Lib.hid hF
                have HRn := Lib.hid R14
                clear hM14 hM10 hM6 nM14 nM10 nM6 nM hF
                go_wp2
                go_roundw
                case measure => have := HJ.out; simp [intOf]; omega
                case rel => exact ⟨j + 1, M14, A14, c14, rfl, by go_num, HJ.out, by rw [HE.out, HMr.out, HS.out, List.flatMap_append, List.append_assoc]; simp, by rw [HNl.out]; omega, HRn.out, below_trans Hbr.out Hbr.out.size (below_trans Hb7.out Hb7.out.size HF.out)⟩
              · skip
                obtain ⟨g9, hg9⟩ : ∃ g9, v5w.heap.size = g9 := ⟨_, rfl⟩
                obtain ⟨v9w, hv9w⟩ : ∃ v9w, v5w.alloc (.cells #[.int .i64 e1, .int .i64 0] 3) = v9w := ⟨_, rfl⟩
                have hb9 : Below v5w.heap.size v5w v9w := by rw [← hv9w]; exact below_new _ _
                have R9 : RowsAt 1 icell v9w v9w.heap.size (some ⟨g9, 0, none⟩) [e1, 0] := by rw [← hv9w, ← hg9]; exact ints_new v5w 3 [e1, 0]
                have hF := below_trans hF hF.size hb9
                have R0 := rows_keep R0 hb9
                have R13 := rows_keep R13 hb9
                have R5 := rows_keep R5 hb9
                refine wpOp_valueL (i := 9) (d := some 35) (w' := v9w) (v := .slice (some ⟨g9, 0, none⟩) 2 2) rfl rfl (by kernel_rfl) (by go_simp) ⟨fun _ => hF, ?_⟩
                go_frame
                clear hv9w hg9 hb9
                refine F_one (i := 6) (s' := #[true, true, true, true, true, true, true, true, true, true, false, true, true, true, false, false]) (by kernel_rfl) (by kernel_rfl) (wpOp_enterL (i := 6) (d := some 32) (f := 130) (args := #[.slice A M.length c, .int .i64 4, .slice (some ⟨g5, 0, none⟩) 2 2]) rfl rfl (by kernel_rfl) (by go_simp) ((quadPut A c M 4 (by decide) (by decide) (some ⟨g5, 0, none⟩) 2 [e2, e3] v9w v9w.heap.size R0 R5 (Nat.le_refl _) (by omega) (by simp) M.length 2 rfl rfl).mono ?_))
                rintro r v6w ⟨v, rfl, hown, hb6⟩
                obtain ⟨M6, hM6⟩ : ∃ M6, M ++ [e2, e3].flatMap (beL 4) = M6 := ⟨_, rfl⟩
                rw [hM6] at hown
                have nM6 : M6.length = 12 + 12 * j := by rw [← hM6]; simp [beL_len, nM] <;> omega
                obtain ⟨A6, c6, rfl⟩ := hown.shape
                have R6 := (OwnR.rows (C := 1) (cells := bcell) (fun _ => rfl) hown).2
                have hown6 := OwnR.lower hown hF.size
                have hF := below_trans hF hF.size hb6
                have R0 := rows_keep R0 hb6
                have R13 := rows_keep R13 hb6
                have R5 := rows_keep R5 hb6
                have R9 := rows_keep R9 hb6
                refine ⟨_, rfl, fun _ => hF, ?_⟩
                go_frame
                clear hb6 hown
                refine F_one (i := 10) (s' := #[true, true, true, true, true, true, true, true, true, true, true, true, true, true, false, false]) (by kernel_rfl) (by kernel_rfl) (wpOp_enterL (i := 10) (d := some 36) (f := 130) (args := #[.slice A6 M6.length c6, .int .i64 1, .slice (some ⟨g9, 0, none⟩) 2 2]) rfl rfl (by kernel_rfl) (by go_simp) ((quadPut A6 c6 M6 1 (by decide) (by decide) (some ⟨g9, 0, none⟩) 2 [e1, 0] v6w v6w.heap.size R6 R9 (Nat.le_refl _) (by rw [nM6]; omega) (by simp) M6.length 2 rfl rfl).mono ?_))
                rintro r v10w ⟨v, rfl, hown, hb10⟩
                obtain ⟨M10, hM10⟩ : ∃ M10, M6 ++ [e1, 0].flatMap (beL 1) = M10 := ⟨_, rfl⟩
                rw [hM10] at hown
                have nM10 : M10.length = 14 + 12 * j := by rw [← hM10]; simp [beL_len, nM6] <;> omega
                obtain ⟨A10, c10, rfl⟩ := hown.shape
                have R10 := (OwnR.rows (C := 1) (cells := bcell) (fun _ => rfl) hown).2
                have hown10 := OwnR.lower hown hF.size
                have hF := below_trans hF hF.size hb10
                have R0 := rows_keep R0 hb10
                have R13 := rows_keep R13 hb10
                have R5 := rows_keep R5 hb10
                have R9 := rows_keep R9 hb10
                have R6 := rows_keep R6 hb10
                refine ⟨_, rfl, fun _ => hF, ?_⟩
                go_frame
                clear hb10 hown
                refine F_one (i := 14) (s' := #[true, true, true, true, true, true, true, true, true, true, true, true, true, true, true, false]) (by kernel_rfl) (by kernel_rfl) (wpOp_enterL (i := 14) (d := some 40) (f := 130) (args := #[.slice A10 M10.length c10, .int .i64 2, .slice (some ⟨g13, 0, none⟩) 1 1]) rfl rfl (by kernel_rfl) (by go_simp) ((quadPut A10 c10 M10 2 (by decide) (by decide) (some ⟨g13, 0, none⟩) 1 [e4] v10w v10w.heap.size R10 R13 (Nat.le_refl _) (by rw [nM10]; omega) (by simp) M10.length 1 rfl rfl).mono ?_))
                rintro r v14w ⟨v, rfl, hown, hb14⟩
                obtain ⟨M14, hM14⟩ : ∃ M14, M10 ++ [e4].flatMap (beL 2) = M14 := ⟨_, rfl⟩
                rw [hM14] at hown
                have nM14 : M14.length = 16 + 12 * j := by rw [← hM14]; simp [beL_len, nM10] <;> omega
                obtain ⟨A14, c14, rfl⟩ := hown.shape
                have R14 := (OwnR.rows (C := 1) (cells := bcell) (fun _ => rfl) hown).2
                have hown14 := OwnR.lower hown hF.size
                have hF := below_trans hF hF.size hb14
                have R0 := rows_keep R0 hb14
                have R13 := rows_keep R13 hb14
                have R5 := rows_keep R5 hb14
                have R9 := rows_keep R9 hb14
                have R6 := rows_keep R6 hb14
                have R10 := rows_keep R10 hb14
                refine ⟨_, rfl, fun _ => hF, ?_⟩
                go_frame
                clear hb14 hown
                refine F_one (i := 15) (s' := #[true, true, true, true, true, true, true, true, true, true, true, true, true, true, true, true]) (by kernel_rfl) (by kernel_rfl) (wpOp_valueL (i := 15) (d := some 3) (w' := v14w) (v := .slice A14 M14.length c14) rfl rfl (by kernel_rfl) (by go_simp) ⟨fun h => absurd h (by decide), ?_⟩)
                go_frame
                refine F_done (by kernel_rfl) ?_ _
                have HE : Hid (M14 = M ++ lnkL ⟨e1, e2, e3, e4⟩) := Lib.hid (by rw [← hM14, ← hM10, ← hM6]; simp only [lnkL, List.append_assoc])
                have HNl := Lib.hid nM14
                have HF := Lib.hid hF
                have HRn := Lib.hid R14
                clear hM14 hM10 hM6 nM14 nM10 nM6 nM hF
                go_wp2
                go_roundw
                case measure => have := HJ.out; simp [intOf]; omega
                case rel => exact ⟨j + 1, M14, A14, c14, rfl, by go_num, HJ.out, by rw [HE.out, HMr.out, HS.out, List.flatMap_append, List.append_assoc]; simp, by rw [HNl.out]; omega, HRn.out, below_trans Hbr.out Hbr.out.size (below_trans Hb7.out Hb7.out.size HF.out)⟩
            · skip
              obtain ⟨g9, hg9⟩ : ∃ g9, v13w.heap.size = g9 := ⟨_, rfl⟩
              obtain ⟨v9w, hv9w⟩ : ∃ v9w, v13w.alloc (.cells #[.int .i64 e1, .int .i64 0] 3) = v9w := ⟨_, rfl⟩
              have hb9 : Below v13w.heap.size v13w v9w := by rw [← hv9w]; exact below_new _ _
              have R9 : RowsAt 1 icell v9w v9w.heap.size (some ⟨g9, 0, none⟩) [e1, 0] := by rw [← hv9w, ← hg9]; exact ints_new v13w 3 [e1, 0]
              have hF := below_trans hF hF.size hb9
              have R0 := rows_keep R0 hb9
              have R13 := rows_keep R13 hb9
              refine wpOp_valueL (i := 9) (d := some 35) (w' := v9w) (v := .slice (some ⟨g9, 0, none⟩) 2 2) rfl rfl (by kernel_rfl) (by go_simp) ⟨fun _ => hF, ?_⟩
              go_frame
              clear hv9w hg9 hb9
              obtain ⟨g5, hg5⟩ : ∃ g5, v9w.heap.size = g5 := ⟨_, rfl⟩
              obtain ⟨v5w, hv5w⟩ : ∃ v5w, v9w.alloc (.cells #[.int .i64 e2, .int .i64 e3] 3) = v5w := ⟨_, rfl⟩
              have hb5 : Below v9w.heap.size v9w v5w := by rw [← hv5w]; exact below_new _ _
              have R5 : RowsAt 1 icell v5w v5w.heap.size (some ⟨g5, 0, none⟩) [e2, e3] := by rw [← hv5w, ← hg5]; exact ints_new v9w 3 [e2, e3]
              have hF := below_trans hF hF.size hb5
              have R0 := rows_keep R0 hb5
              have R13 := rows_keep R13 hb5
              have R9 := rows_keep R9 hb5
              refine F_one (i := 5) (s' := #[true, true, true, true, true, true, false, true, true, true, false, true, true, true, false, false]) (by kernel_rfl) (by kernel_rfl) (wpOp_valueL (i := 5) (d := some 31) (w' := v5w) (v := .slice (some ⟨g5, 0, none⟩) 2 2) rfl rfl (by kernel_rfl) (by go_simp) ⟨fun _ => hF, ?_⟩)
              go_frame
              clear hv5w hg5 hb5
              refine F_one (i := 6) (s' := #[true, true, true, true, true, true, true, true, true, true, false, true, true, true, false, false]) (by kernel_rfl) (by kernel_rfl) (wpOp_enterL (i := 6) (d := some 32) (f := 130) (args := #[.slice A M.length c, .int .i64 4, .slice (some ⟨g5, 0, none⟩) 2 2]) rfl rfl (by kernel_rfl) (by go_simp) ((quadPut A c M 4 (by decide) (by decide) (some ⟨g5, 0, none⟩) 2 [e2, e3] v5w v5w.heap.size R0 R5 (Nat.le_refl _) (by omega) (by simp) M.length 2 rfl rfl).mono ?_))
              rintro r v6w ⟨v, rfl, hown, hb6⟩
              obtain ⟨M6, hM6⟩ : ∃ M6, M ++ [e2, e3].flatMap (beL 4) = M6 := ⟨_, rfl⟩
              rw [hM6] at hown
              have nM6 : M6.length = 12 + 12 * j := by rw [← hM6]; simp [beL_len, nM] <;> omega
              obtain ⟨A6, c6, rfl⟩ := hown.shape
              have R6 := (OwnR.rows (C := 1) (cells := bcell) (fun _ => rfl) hown).2
              have hown6 := OwnR.lower hown hF.size
              have hF := below_trans hF hF.size hb6
              have R0 := rows_keep R0 hb6
              have R13 := rows_keep R13 hb6
              have R9 := rows_keep R9 hb6
              have R5 := rows_keep R5 hb6
              refine ⟨_, rfl, fun _ => hF, ?_⟩
              go_frame
              clear hb6 hown
              refine F_one (i := 10) (s' := #[true, true, true, true, true, true, true, true, true, true, true, true, true, true, false, false]) (by kernel_rfl) (by kernel_rfl) (wpOp_enterL (i := 10) (d := some 36) (f := 130) (args := #[.slice A6 M6.length c6, .int .i64 1, .slice (some ⟨g9, 0, none⟩) 2 2]) rfl rfl (by kernel_rfl) (by go_simp) ((quadPut A6 c6 M6 1 (by decide) (by decide) (some ⟨g9, 0, none⟩) 2 [e1, 0] v6w v6w.heap.size R6 R9 (Nat.le_refl _) (by rw [nM6]; omega) (by simp) M6.length 2 rfl rfl).mono ?_))
              rintro r v10w ⟨v, rfl, hown, hb10⟩
              obtain ⟨M10, hM10⟩ : ∃ M10, M6 ++ [e1, 0].flatMap (beL 1) = M10 := ⟨_, rfl⟩
              rw [hM10] at hown
              have nM10 : M10.length = 14 + 12 * j := by rw [← hM10]; simp [beL_len, nM6] <;> omega
              obtain ⟨A10, c10, rfl⟩ := hown.shape
              have R10 := (OwnR.rows (C := 1) (cells := bcell) (fun _ => rfl) hown).2
              have hown10 := OwnR.lower hown hF.size
              have hF := below_trans hF hF.size hb10
              have R0 := rows_keep R0 hb10
              have R13 := rows_keep R13 hb10
              have R9 := rows_keep R9 hb10
              have R5 := rows_keep R5 hb10
              have R6 := rows_keep R6 hb10
              refine ⟨_, rfl, fun _ => hF, ?_⟩
              go_frame
              clear hb10 hown
              refine F_one (i := 14) (s' := #[true, true, true, true, true, true, true, true, true, true, true, true, true, true, true, false]) (by kernel_rfl) (by kernel_rfl) (wpOp_enterL (i := 14) (d := some 40) (f := 130) (args := #[.slice A10 M10.length c10, .int .i64 2, .slice (some ⟨g13, 0, none⟩) 1 1]) rfl rfl (by kernel_rfl) (by go_simp) ((quadPut A10 c10 M10 2 (by decide) (by decide) (some ⟨g13, 0, none⟩) 1 [e4] v10w v10w.heap.size R10 R13 (Nat.le_refl _) (by rw [nM10]; omega) (by simp) M10.length 1 rfl rfl).mono ?_))
              rintro r v14w ⟨v, rfl, hown, hb14⟩
              obtain ⟨M14, hM14⟩ : ∃ M14, M10 ++ [e4].flatMap (beL 2) = M14 := ⟨_, rfl⟩
              rw [hM14] at hown
              have nM14 : M14.length = 16 + 12 * j := by rw [← hM14]; simp [beL_len, nM10] <;> omega
              obtain ⟨A14, c14, rfl⟩ := hown.shape
              have R14 := (OwnR.rows (C := 1) (cells := bcell) (fun _ => rfl) hown).2
              have hown14 := OwnR.lower hown hF.size
              have hF := below_trans hF hF.size hb14
              have R0 := rows_keep R0 hb14
              have R13 := rows_keep R13 hb14
              have R9 := rows_keep R9 hb14
              have R5 := rows_keep R5 hb14
              have R6 := rows_keep R6 hb14
              have R10 := rows_keep R10 hb14
              refine ⟨_, rfl, fun _ => hF, ?_⟩
              go_frame
              clear hb14 hown
              refine F_one (i := 15) (s' := #[true, true, true, true, true, true, true, true, true, true, true, true, true, true, true, true]) (by kernel_rfl) (by kernel_rfl) (wpOp_valueL (i := 15) (d := some 3) (w' := v14w) (v := .slice A14 M14.length c14) rfl rfl (by kernel_rfl) (by go_simp) ⟨fun h => absurd h (by decide), ?_⟩)
              go_frame
              refine F_done (by kernel_rfl) ?_ _
              have HE : Hid (M14 = M ++ lnkL ⟨e1, e2, e3, e4⟩) := Lib.hid (by rw [← hM14, ← hM10, ← hM6]; simp only [lnkL, List.append_assoc])
              have HNl := Lib.hid nM14
              have HF := Lib.hid hF
              have HRn := Lib.hid R14
              clear hM14 hM10 hM6 nM14 nM10 nM6 nM hF
              go_wp2
              go_roundw
              case measure => have := HJ.out; simp [intOf]; omega
              case rel => exact ⟨j + 1, M14, A14, c14, rfl, by go_num, HJ.out, by rw [HE.out, HMr.out, HS.out, List.flatMap_append, List.append_assoc]; simp, by rw [HNl.out]; omega, HRn.out, below_trans Hbr.out Hbr.out.size (below_trans Hb7.out Hb7.out.size HF.out)⟩
        · have hjl : ¬ (j : Int) < (nl : Int) := by have := Hnl.out; omega
          have hMM : M = bodyL 1 ls ms := by
            have hj' : j = ls.length := by omega
            rw [hM, hj', List.take_length, ← HM0.out, Hnl.out]
            simp [bodyL, routerL]
          have HMM := Lib.hid hMM
          clear hMM hM hR hbr hj hMl
          go_wp2
          go_meet
          case rel =>
            rw [← HMM.out]
            exact ⟨A, c, rfl, HR.out, Hbr.out⟩
    · have hQ := (quadPut none 0 ([] : List Int) 4 (by decide) (by decide) ma mc ms w1 w1.heap.size RowsAt.nil HM.out (Nat.le_refl _) (by simp) (by have := Hnm.out; omega) 0 nm rfl Hnm.out)
      have hbd : bodyL y2 ls ms = ms.flatMap (beL 4) := by unfold bodyL; rw [if_neg hk1]
      rw [List.nil_append] at hQ
      generalize ms.flatMap (beL 4) = mb at hQ hbd
      have HQ := Lib.hid hQ
      have Hbd := Lib.hid hbd
      clear hbd hQ
      go_wp2_with (go_at_call 130; (with_reducible refine Calls.mono HQ.out ?_); rintro r w2 ⟨v, rfl, hown, hb2⟩; obtain ⟨A0, c0, hv0⟩ := hown.shape; subst hv0; have Hb2 := Lib.hid hb2; have HR0 := Lib.hid (OwnR.rows (C := 1) (cells := bcell) (fun _ => rfl) hown).2; clear hown hb2)
      go_meet
      case rel =>
        rw [Hbd.out]
        exact ⟨A0, c0, rfl, HR0.out, Hb2.out⟩
  case rest =>
    obtain ⟨A, c, rfl, hR, hbx⟩ := hcut
    obtain ⟨b, hbb⟩ : ∃ b, bodyL y2 ls ms = b := ⟨_, rfl⟩
    have hbl : b.length ≤ 20000 := by rw [← hbb]; exact bodyL_len _ _ _ (by have := Hnl.out; omega) (by have := Hnm.out; omega)
    have hbo : ∀ x ∈ b, byteOk x := by rw [← hbb]; exact bodyL_ok _ _ _
    have Hgoal : Hid (bytesL ⟨y1, y2, y3, y4, y5, y6, y7⟩ ls ms = sealL (rawL ⟨y1, y2, y3, y4, y5, y6, y7⟩ b)) := Lib.hid (by unfold bytesL; rw [hbb])
    rw [hbb] at hR ⊢
    have Hbo := Lib.hid hbo
    have HR := Lib.hid hR
    have Hbx := Lib.hid hbx
    obtain ⟨z0, z1, z2, z3, z4, z5, z6, z7, z8, zf⟩ := FW.out _ hbx
    clear hbb hbo hR hbx
    go_upto_region 12 with fail
    obtain ⟨w12, hw12⟩ : ∃ w12, wc.alloc (.cells #[.int .i64 y1, .int .i64 y2, .int .i64 y3, .int .i64 y4, .int .i64 y5, .int .i64 0, .int .i64 (20 + (b.length : Int))] 27) = w12 := ⟨_, rfl⟩
    have hb12 := below_new wc (.cells #[.int .i64 y1, .int .i64 y2, .int .i64 y3, .int .i64 y4, .int .i64 y5, .int .i64 0, .int .i64 (20 + (b.length : Int))] 27)
    have hk12 := blk7c (Blk.new wc 27 #[.int .i64 y1, .int .i64 y2, .int .i64 y3, .int .i64 y4, .int .i64 y5, .int .i64 0, .int .i64 (20 + (b.length : Int))])
    rw [hw12] at hb12 hk12 ⊢
    obtain ⟨p0, p1, p2, p3, p4, p5, p6, -⟩ := hk12
    have hd0 : (headL ⟨y1, y2, y3, y4, y5, 0, 20 + (b.length : Int)⟩).length = 20 := headL_len _
    obtain ⟨hd, hhd⟩ : ∃ hd, headL ⟨y1, y2, y3, y4, y5, 0, 20 + (b.length : Int)⟩ = hd := ⟨_, rfl⟩
    obtain ⟨N, hN⟩ : ∃ N, N = 20 + b.length := ⟨_, rfl⟩
    have hPH := PutHead_any y1 y2 y3 y4 y5 0 (20 + (b.length : Int)) w12
    rw [hhd] at hd0 hPH
    have hraw : rawL ⟨y1, y2, y3, y4, y5, y6, y7⟩ b = hd ++ b := by rw [← hhd]; rfl
    have hrl : (hd ++ b).length = N := by rw [List.length_append, hd0, hN]
    have hro : ∀ x ∈ hd ++ b, byteOk x := by rw [← hraw]; exact rawL_ok _ _ Hbo.out
    have HPH := Lib.hid hPH
    have Hraw := Lib.hid hraw
    have Hrl := Lib.hid hrl
    have Hro := Lib.hid hro
    have Hd0 := Lib.hid hd0
    have Hb12 := Lib.hid (below_trans Hbx.out Hbx.out.size hb12)
    have HR12 := Lib.hid (rows_keep HR.out hb12)
    have hN1 : 20 ≤ N := by omega
    have hN2 : N ≤ 20020 := by omega
    clear hw12 hb12 hhd hd0 hPH hraw hrl hro hN z0 z1 z2 z3 z4 z5 z6 z7 z8 zf
    go_wp2_with (first
      | (go_at_call 131; (with_reducible refine Calls.mono HPH.out ?_); rintro r w2 ⟨v, rfl, hown, hb2⟩; obtain ⟨A2, c2, hv2⟩ := hown.shape; (rw [Hd0.out] at hv2); subst hv2; have Hb2 := Lib.hid hb2; have HR2 := Lib.hid (rows_keep HR12.out hb2); have Hown2 := Lib.hid hown; clear hown hb2)
      | (at_builtin; (refine app_rows (e := 5) bcell (fun _ => rfl) (by decide) (bytes := 1) (by decide) infoB rfl Tryz.underlying24 onesB (by rfl) _ _ (by rfl) w12.heap.size _ hd (by rfl) Hown2.out A c b.length b rfl (by rfl) HR2.out (by have := Hd0.out; omega) Hb2.out.size ?_); intro v5 w5 hown5 hg5 hor5; obtain ⟨g, c5, hc5, hv5⟩ := own_some hown5 Hrl.out (by omega); subst hv5; have Hb5 := Lib.hid (Hb2.out.grown hg5 Hb2.out.size (fun j hj => (Hown2.out.block j hj).1)); have Hown5 := Lib.hid hown5; clear hown5 hg5 hor5)
      | fail)
    have hO : OwnB w5 w12.heap.size (.slice (some ⟨g, 0, none⟩) N c5) (hd ++ b) := Hown5.out
    have hg5 := OwnB.lt hO
    have HO := Lib.hid hO
    clear hO
    have hF := Fill_any (some ⟨g, 2, none⟩) (c5 - 2) ((hd ++ b).drop 2) w5 w5.heap.size (by have := rows_drop (OwnR.rows (C := 1) (cells := bcell) (fun _ => rfl) Hown5.out).2 2 (by have := Hrl.out; omega) (by have := Hrl.out; omega); exact this) (Nat.le_refl _) (fun x hx => Hro.out x (List.mem_of_mem_drop hx)) (by have := Hrl.out; rw [List.length_drop]; omega) (by have := Hrl.out; rw [List.length_drop]; omega) (N - 2) (by have := Hrl.out; rw [List.length_drop]; omega)
    have HF := Lib.hid hF
    have hfl : (fillL ((hd ++ b).drop 2)).length = N - 2 := by have := Hrl.out; rw [fillL_len, List.length_drop]; omega
    have Hfl := Lib.hid hfl
    obtain ⟨r0, r1, hr01, k0, k1⟩ : ∃ r0 r1, (hd ++ b).take 2 = [r0, r1] ∧ w5.cell? ⟨g, 0, none⟩ = some (.int .u8 r0) ∧ w5.cell? ⟨g, 1, none⟩ = some (.int .u8 r1) := by
      have h2 := Hrl.out
      have q0 := OwnB.at_ HO.out 0 (by omega)
      have q1 := OwnB.at_ HO.out 1 (by omega)
      exact ⟨_, _, take_two _ (by omega), q0.1, q1.1⟩
    have Hr01 := Lib.hid hr01
    clear hF hfl hr01
    with_reducible refine Calls.mono HF.out ?_
    rintro r w6 ⟨v6, rfl, hown6, hb6⟩
    obtain ⟨A6, c6, hv6⟩ := hown6.shape
    rw [Hfl.out] at hv6
    subst hv6
    have e0 : w6.cell? ⟨g, 0, none⟩ = some (.int .u8 r0) := by rw [← k0]; exact hb6.cell (p := ⟨g, 0, none⟩) hg5.2
    have e1 : w6.cell? ⟨g, 1, none⟩ = some (.int .u8 r1) := by rw [← k1]; exact hb6.cell (p := ⟨g, 1, none⟩) hg5.2
    have Hown6 := Lib.hid hown6
    have Hb6 := Lib.hid hb6
    have HR6 := Lib.hid (OwnR.rows (C := 1) (cells := bcell) (fun _ => rfl) hown6).2
    clear hown6 hb6
    go_wp2_with (at_builtin; (refine app_two (by rfl) _ _ (by rfl) g r0 r1 (by rfl) e0 e1 A6 c6 (N - 2) _ Hfl.out.symm (by rfl) HR6.out (by have := Hfl.out; omega) (by have := Hfl.out; omega) ?_); intro v8 w8 hown8 hg8; have Hown8 := Lib.hid hown8; have Hb8 := Lib.hid ((Below.refl w6.heap.size w6).grown hg8 (Nat.le_refl _) (fun j hj => by cases hj)); clear hown8 hg8)
    go_ret
    have hbz := below_trans Hb12.out Hb12.out.size (below_trans Hb5.out Hb5.out.size (below_trans Hb6.out Hb6.out.size Hb8.out))
    refine ⟨v8, rfl, ?_, below_trans Hb.out hsz hbz⟩
    rw [Hgoal.out, Hraw.out]
    unfold sealL
    rw [Hr01.out]
    exact OwnR.lower Hown8.out (Nat.le_trans hsz (below_trans Hb12.out Hb12.out.size (below_trans Hb5.out Hb5.out.size Hb6.out)).size)

end Go.Proofs.YtpnbibokddhheaaGreat
