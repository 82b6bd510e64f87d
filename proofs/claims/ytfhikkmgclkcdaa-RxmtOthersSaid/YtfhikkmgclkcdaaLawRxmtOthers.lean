/-
  The law RxmtOthers: its walk.
-/
import Derived.Test.YtfhikkmgclkcdaaRxOthP
import Derived.Test.YtfhikkmgclkcdaaRxEq2
namespace Go.Proofs.Ytfhikkmgclkcdaa
open Go.RowKit

/-- what was handed in, in memory -/
structure OtB (w : World) (t0 t1 o0 o1 : Int) (A : Option Addr) (ks : List K3) (wr : World) : Prop where
  to : Blk wr w.heap.size 90 #[.int .i64 t0, .int .i64 t1]
  ot : Blk wr (w.heap.size + 1) 90 #[.int .i64 o0, .int .i64 o1]
  rows : RowsAt 3 K3.cells wr w.heap.size A ks
  bel : Below w.heap.size w wr
section
variable {w wr wr' : World} {t0 t1 o0 o1 : Int} {A : Option Addr} {ks : List K3} {b : Nat}
theorem OtB.turn (h : OtB w t0 t1 o0 o1 A ks wr) (hb : w.heap.size + 2 ≤ b) (hg : wr.grownBy wr' (some b)) : OtB w t0 t1 o0 o1 A ks wr' :=
  ⟨h.to.grown hg (fun e => by injection e with e; omega), h.ot.grown hg (fun e => by injection e with e; omega), rows_grown h.rows h.bel.size (fun g o _ hg => by omega) wr' hg,
    h.bel.grown hg h.bel.size (fun k hk => by injection hk with hk; omega)⟩
theorem OtB.keep (h : OtB w t0 t1 o0 o1 A ks wr) (hb : Below wr.heap.size wr wr') : OtB w t0 t1 o0 o1 A ks wr' :=
  ⟨h.to.below hb h.to.lt, h.ot.below hb h.ot.lt, h.rows.below (hb.mono h.bel.size), h.bel.trans (hb.mono h.bel.size)⟩
theorem OtB.cells (h : OtB w t0 t1 o0 o1 A ks wr) : wr.cell? ⟨w.heap.size, 0, none⟩ = some (.int .i64 t0) ∧ wr.cell? ⟨w.heap.size, 1, none⟩ = some (.int .i64 t1) ∧ wr.cell? ⟨w.heap.size + 1, 0, none⟩ = some (.int .i64 o0) ∧ wr.cell? ⟨w.heap.size + 1, 1, none⟩ = some (.int .i64 o1) :=
  ⟨h.to.cell 0, h.to.cell 1, h.ot.cell 0, h.ot.cell 1⟩
end

set_option maxHeartbeats 4000000 in
set_option maxRecDepth 100000 in
theorem rxmtOthers_any (t0 t1 o0 o1 : Int) (A : Option Addr) (cap : Nat) (ks : List K3) (w : World) (hks : RowsAt 3 K3.cells w w.heap.size A ks) (hm : ks.length ≤ maxLen) :
    Calls Try.prog 11 #[.agg #[.int .i64 t0, .int .i64 t1], .agg #[.int .i64 o0, .int .i64 o1], .slice A ks.length cap] w fun r w' => r = .returned (.bool true) ∧ Below w.heap.size w w' := by
  unfold maxLen at hm
  have hB0 : OtB w t0 t1 o0 o1 A ks ((w.alloc (.cells #[.int .i64 t0, .int .i64 t1] 90)).alloc (.cells #[.int .i64 o0, .int .i64 o1] 90)) := by
    have hb : Below w.heap.size w ((w.alloc (.cells #[.int .i64 t0, .int .i64 t1] 90)).alloc (.cells #[.int .i64 o0, .int .i64 o1] 90)) := ((Below.refl _ _).alloc (Nat.le_refl _) _).alloc (by simp) _
    exact ⟨(Blk.new w _ _).alloc _, Blk.size (by simp), hks.below hb, hb⟩
  have HB0 := Lib.hid hB0
  clear hB0 hks
  by_cases h60 : ks.length ≤ 60
  · by_cases he : o0 = t0 ∧ o1 = t1
    · obtain ⟨rfl, rfl⟩ := he
      have h60b : decide ((60 : Int) < (ks.length : Int)) = false := by simp; omega
      have heq2 := fun w => eqTwo o0 o1 o0 o1 w
      simp only [beq_self_eq_true, Bool.and_self] at heq2
      go_enter Try.func11, Try.ntmps11
      go_wp2_with fail
      with_reducible refine Calls.mono (wakes16 _) ?_
      rintro r w1 ⟨rfl, hb1⟩
      obtain ⟨x0, x1, x2, x3⟩ := (HB0.out.keep hb1).cells
      have Hb1 := Lib.hid (HB0.out.keep hb1).bel
      clear hb1
      go_wp2
      go_ret
      exact ⟨rfl, Hb1.out⟩
    · have h60b : decide ((60 : Int) < (ks.length : Int)) = false := by simp; omega
      have Hne := Lib.hid he
      have heq2 := fun w => eqTwo t0 t1 o0 o1 w
      rw [show (t0 == o0 && t1 == o1) = false by
        rw [Bool.eq_false_iff]; simp only [ne_eq, Bool.and_eq_true, beq_iff_eq]; exact fun ⟨h1, h2⟩ => he ⟨h1.symm, h2.symm⟩] at heq2
      clear he
      have Hst := Lib.hid (oth_start Hne.out h60)
      have ha : (listK (addAll [] t0 t1 ks) t0 t1).length = (addKs [] ks).length := by rw [listK_len2, keysOf_addAll]; rfl
      have hb : (listK (addAll (addAll [] t0 t1 ks) o0 o1 ks) o0 o1).length = (addKs [] ks).length := by rw [listK_len2, Hst.out.other]
      have hl1 := addAll_len [] t0 t1 ks
      simp only [List.length_nil, Nat.zero_add] at hl1
      have hdl := addKs_len ks []
      simp only [List.length_nil, Nat.zero_add] at hdl
      have Hend := Lib.hid (fun (R : List E5) (h : Oth t0 t1 o0 o1 ks ks.length R) => oth_end Hne.out h60 h)
      have Hstep := Lib.hid (fun (i : Nat) (R : List E5) (h : Oth t0 t1 o0 o1 ks i R) (hi : i < ks.length) => oth_step Hne.out h hi)
      generalize hR1 : addAll [] t0 t1 ks = R1 at *
      generalize hR2 : addAll R1 o0 o1 ks = R2 at *
      have HR1 := Lib.hid hR1
      have HR2 := Lib.hid hR2
      have Ha := Lib.hid ha
      have Hb := Lib.hid hb
      clear hR1 hR2 ha hb
      generalize hn : (addKs [] ks).length = n at *
      clear hn
      · go_enter Try.func11, Try.ntmps11
        go_wp2_with fail
        with_reducible refine Calls.mono (wakes16 _) ?_
        rintro r w1 ⟨rfl, hb1⟩
        have hB1 := HB0.out.keep hb1
        obtain ⟨x0, x1, x2, x3⟩ := hB1.cells
        have HB1 := Lib.hid hB1
        clear hB1 hb1
        go_wp2_with fail
        with_reducible refine Calls.mono (New16 w1) ?_
        rintro r w2 ⟨rfl, hR2, hb2⟩
        obtain ⟨p, hp⟩ : ∃ p, w1.heap.size + 1 = p := ⟨_, rfl⟩
        rw [hp] at hR2 ⊢
        obtain ⟨b, hb⟩ : ∃ b, w1.heap.size = b := ⟨_, rfl⟩
        rw [hb] at hR2
        have hbw : w.heap.size + 2 ≤ b := by have := HB1.out.ot.lt; omega
        have hB2 := HB1.out.keep hb2
        obtain ⟨y0, y1, y2, y3⟩ := hB2.cells
        have HB2 := Lib.hid hB2
        have HPut := Lib.hid (Put_of sortsK p b [] t0 t1 A cap ks w2 hR2 w.heap.size (rows_grown hB2.rows hB2.bel.size (fun g o _ hg => by omega)) (by simp; omega) ks.length rfl)
        rw [HR1.out, Ha.out] at HPut
        clear hR2 hb2 hp hb hB2 x0 x1 x2 x3
        go_wp2_with fail
        with_reducible refine Calls.mono HPut.out ?_
        rintro r w3 ⟨rfl, hR3, hg3⟩
        have hB3 := HB2.out.turn hbw hg3
        obtain ⟨x0, x1, x2, x3⟩ := hB3.cells
        have HB3 := Lib.hid hB3
        have HPut3 := Lib.hid (Put_of sortsK p b R1 o0 o1 A cap ks w3 hR3 w.heap.size (rows_grown hB3.rows hB3.bel.size (fun g o _ hg => by omega)) (by omega) ks.length rfl)
        rw [HR2.out, Hb.out] at HPut3
        clear hR3 hg3 hB3 y0 y1 y2 y3
        go_wp2_with fail
        with_reducible refine Calls.mono HPut3.out ?_
        rintro r w4 ⟨rfl, hR4, hg4⟩
        have hB4 := HB3.out.turn hbw hg4
        have HB4 := Lib.hid hB4
        have HR4 := Lib.hid hR4
        clear hR4 hg4 hB4 x0 x1 x2 x3
        go_wp2
        go_loopw [42] (fun iv wr => ∃ (i : Nat) (R : List E5), iv = .int .i64 i ∧ i ≤ ks.length ∧ RxAt wr p b R ∧ Oth t0 t1 o0 o1 ks i R ∧ OtB w t0 t1 o0 o1 A ks wr) (fun iv _ => ks.length - (intOf iv).toNat)
        case atStart => exact ⟨0, R2, rfl, Nat.zero_le _, HR4.out, Hst.out, HB4.out⟩
        case round =>
          obtain ⟨i, R, rfl, hi, hrx, hoth, hB⟩ := hrel
          by_cases hlt : i < ks.length
          · obtain ⟨s1, s2, s3⟩ := Hstep.out i R hoth hlt
            obtain ⟨g, o, rfl, z0, z1, z2⟩ := row_k3 hB.rows i hlt
            have hil : (i : Int) < (ks.length : Int) := by omega
            generalize ks[i] = x at *
            obtain ⟨k1, k2, k3⟩ := x
            have HAck := Lib.hid (Ack_any p b R t0 t1 k1 k2 k3 (wr.alloc (.cells #[.int .i64 k1, .int .i64 k2, .int .i64 k3] 61)) (hrx.alloc _))
            have hBa := hB.keep ((Below.refl wr.heap.size wr).alloc (Nat.le_refl _) (.cells #[.int .i64 k1, .int .i64 k2, .int .i64 k3] 61))
            obtain ⟨y0, y1, y2, y3⟩ := hBa.cells
            have HBa := Lib.hid hBa
            have Hblk := Lib.hid (Blk.new wr 61 #[.int .i64 k1, .int .i64 k2, .int .i64 k3])
            have Hs1 := Lib.hid s1
            have Hs2 := Lib.hid s2
            have Hs3 := Lib.hid s3
            have hbq0 : b < wr.heap.size := hrx.map.lt
            clear hrx hoth hB hBa s1 s2 s3
            go_wp2_with fail
            with_reducible refine Calls.mono HAck.out ?_
            rintro r w7 ⟨rfl, hR7, hg7⟩
            replace hR7 : RxAt w7 p b (ackR R t0 t1 ⟨k1, k2, k3⟩) := hR7
            have hblk7 := Hblk.out.grown hg7 (fun e => by injection e with e; omega)
            obtain ⟨v0, v1, v2⟩ : _ ∧ _ ∧ _ := ⟨hblk7.cell 0, hblk7.cell 1, hblk7.cell 2⟩
            simp only [List.getElem?_toArray, List.getElem?_cons_zero, List.getElem?_cons_succ] at v0 v1 v2
            have hB7 := HBa.out.turn hbw hg7
            obtain ⟨u0, u1, u2, u3⟩ := hB7.cells
            have HB7 := Lib.hid hB7
            have Hblk7 := Lib.hid hblk7
            have HR7 := Lib.hid hR7
            have HOn := Lib.hid (On_any p b _ t0 t1 k1 k2 k3 w7 hR7)
            rw [Hs2.out] at HOn
            clear hR7 hg7 hblk7 hB7 y0 y1 y2 y3
            go_wp2_with fail
            with_reducible refine Calls.mono HOn.out ?_
            rintro r w8 ⟨rfl, hb8⟩
            have hblk8 := Hblk7.out.below hb8 Hblk7.out.lt
            have hB8 := HB7.out.keep hb8
            clear v0 v1 v2 u0 u1 u2 u3
            obtain ⟨v0, v1, v2⟩ : _ ∧ _ ∧ _ := ⟨hblk8.cell 0, hblk8.cell 1, hblk8.cell 2⟩
            simp only [List.getElem?_toArray, List.getElem?_cons_zero, List.getElem?_cons_succ] at v0 v1 v2
            obtain ⟨u0, u1, u2, u3⟩ := hB8.cells
            have HB8 := Lib.hid hB8
            have HR8 := Lib.hid (HR7.out.keep hb8)
            have HOn8 := Lib.hid (On_any p b _ o0 o1 k1 k2 k3 w8 HR8.out)
            rw [Hs3.out] at HOn8
            clear hb8 hblk8 hB8
            go_wp2_with fail
            with_reducible refine Calls.mono HOn8.out ?_
            rintro r w9 ⟨rfl, hb9⟩
            have HB9 := Lib.hid (HB8.out.keep hb9)
            have HR9 := Lib.hid (HR8.out.keep hb9)
            clear hb9 v0 v1 v2 u0 u1 u2 u3
            go_wp2
            go_roundw
            case measure => simp [intOf]; omega
            case rel => exact ⟨i + 1, _, by go_num, by omega, HR9.out, Hs1.out, HB9.out⟩
          · have hil : i = ks.length := by omega
            subst hil
            obtain ⟨f1, f2, f3, f4⟩ := Hend.out R hoth
            obtain ⟨y0, y1, y2, y3⟩ := hB.cells
            have HPut5 := Lib.hid (Put_of sortsK p b R t0 t1 A cap ks wr hrx w.heap.size (rows_grown hB.rows hB.bel.size (fun g o _ hg => by omega)) (by have := hoth.len; omega) ks.length rfl)
            have HB := Lib.hid hB
            have Hf1 := Lib.hid f1
            have Hf2 := Lib.hid f2
            have Hf3 := Lib.hid f3
            have Hf4 := Lib.hid f4
            clear hrx hoth hB f1 f2 f3 f4
            go_wp2_with fail
            with_reducible refine Calls.mono HPut5.out ?_
            rintro r w6 ⟨rfl, hR6, hg6⟩
            have hB6 := HB.out.turn hbw hg6
            clear y0 y1 y2 y3
            obtain ⟨y0, y1, y2, y3⟩ := hB6.cells
            have HB6 := Lib.hid hB6
            have HFor := Lib.hid (Forget_of p b _ t0 t1 w6 hR6 Hf4.out)
            rw [Hf1.out] at HFor
            clear hR6 hg6 hB6
            go_wp2_with fail
            with_reducible refine Calls.mono HFor.out ?_
            rintro r w7 ⟨rfl, hR7, hg7⟩
            have hB7 := HB6.out.turn hbw hg7
            clear y0 y1 y2 y3
            obtain ⟨y0, y1, y2, y3⟩ := hB7.cells
            have HB7 := Lib.hid hB7
            have HR7 := Lib.hid hR7
            have HL7 := Lib.hid (Len_of sortsK p b _ t0 t1 w7 hR7 (Nat.le_trans (List.length_filter_le _ _) Hf4.out))
            rw [Hf2.out] at HL7
            clear hR7 hg7 hB7
            go_wp2_with fail
            with_reducible refine Calls.mono HL7.out ?_
            rintro r w8 ⟨rfl, hb8⟩
            have hB8 := HB7.out.keep hb8
            clear y0 y1 y2 y3
            obtain ⟨y0, y1, y2, y3⟩ := hB8.cells
            have HB8 := Lib.hid hB8
            have HL8 := Lib.hid (Len_of sortsK p b _ o0 o1 w8 (HR7.out.keep hb8) (Nat.le_trans (List.length_filter_le _ _) Hf4.out))
            rw [Hf3.out] at HL8
            clear hb8 hB8
            go_wp2_with fail
            with_reducible refine Calls.mono HL8.out ?_
            rintro r w9 ⟨rfl, hb9⟩
            have Hb9 := Lib.hid (HB8.out.keep hb9).bel
            clear hb9 y0 y1 y2 y3
            go_wp2
            go_ret
            exact ⟨rfl, Hb9.out⟩
  · have h60' : 60 < ks.length := by omega
    go_enter Try.func11, Try.ntmps11
    go_wp2_with fail
    with_reducible refine Calls.mono (wakes16 _) ?_
    rintro r w1 ⟨rfl, hb1⟩
    have Hb1 := Lib.hid (HB0.out.keep hb1).bel
    clear hb1
    go_wp2
    go_ret
    exact ⟨rfl, Hb1.out⟩

end Go.Proofs.Ytfhikkmgclkcdaa
