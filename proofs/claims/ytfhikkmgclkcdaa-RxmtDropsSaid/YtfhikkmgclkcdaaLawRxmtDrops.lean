/-
  The law RxmtDrops: its walk.
-/
import Derived.Test.YtfhikkmgclkcdaaRxDropP
namespace Go.Proofs.Ytfhikkmgclkcdaa
open Go.RowKit

def twoCells (x : Int × Int) : List Value := [.int .i64 x.1, .int .i64 x.2]
theorem row_two {w : World} {B : Nat} {A : Option Addr} {l : List (Int × Int)} (h : RowsAt 2 twoCells w B A l) (k : Nat) (hk : k < l.length) :
    ∃ b o, A = some ⟨b, o, none⟩ ∧ w.cell? ⟨b, o + k * 2, none⟩ = some (.int .i64 l[k].1) ∧ w.cell? ⟨b, o + k * 2 + 1, none⟩ = some (.int .i64 l[k].2) := by
  obtain ⟨b, o, e, _, hc⟩ := h (by omega)
  exact ⟨b, o, e, by simpa using hc k hk 0 _ (by omega) rfl, hc k hk 1 _ (by omega) rfl⟩
/-- what was handed in, in memory -/
structure DrB (w : World) (k o : K3) (A : Option Addr) (l : List (Int × Int)) (wr : World) : Prop where
  k : Blk wr w.heap.size 61 #[.int .i64 k.kind, .int .i64 k.id, .int .i64 k.adv]
  o : Blk wr (w.heap.size + 1) 61 #[.int .i64 o.kind, .int .i64 o.id, .int .i64 o.adv]
  rows : RowsAt 2 twoCells wr w.heap.size A l
  bel : Below w.heap.size w wr
section
variable {w wr wr' : World} {k o : K3} {A : Option Addr} {l : List (Int × Int)} {b : Nat}
theorem DrB.turn (h : DrB w k o A l wr) (hb : w.heap.size + 2 ≤ b) (hg : wr.grownBy wr' (some b)) : DrB w k o A l wr' :=
  ⟨h.k.grown hg (fun e => by injection e with e; omega), h.o.grown hg (fun e => by injection e with e; omega), rows_grown h.rows h.bel.size (fun g o _ hg => by omega) wr' hg,
    h.bel.grown hg h.bel.size (fun k hk => by injection hk with hk; omega)⟩
theorem DrB.keep (h : DrB w k o A l wr) (hb : Below wr.heap.size wr wr') : DrB w k o A l wr' :=
  ⟨h.k.below hb h.k.lt, h.o.below hb h.o.lt, h.rows.below (hb.mono h.bel.size), h.bel.trans (hb.mono h.bel.size)⟩
theorem DrB.cells (h : DrB w k o A l wr) : wr.cell? ⟨w.heap.size, 0, none⟩ = some (.int .i64 k.kind) ∧ wr.cell? ⟨w.heap.size, 1, none⟩ = some (.int .i64 k.id) ∧ wr.cell? ⟨w.heap.size, 2, none⟩ = some (.int .i64 k.adv) ∧
    wr.cell? ⟨w.heap.size + 1, 0, none⟩ = some (.int .i64 o.kind) ∧ wr.cell? ⟨w.heap.size + 1, 1, none⟩ = some (.int .i64 o.id) ∧ wr.cell? ⟨w.heap.size + 1, 2, none⟩ = some (.int .i64 o.adv) :=
  ⟨h.k.cell 0, h.k.cell 1, h.k.cell 2, h.o.cell 0, h.o.cell 1, h.o.cell 2⟩
end
theorem eqKey (a b c a' b' c' : Int) (w : World) : (Op.equalIn 10000 61 (.agg #[.int .i64 a, .int .i64 b, .int .i64 c]) (.agg #[.int .i64 a', .int .i64 b', .int .i64 c'])).run Try.prog w = .ok (decide ((⟨a, b, c⟩ : K3) = ⟨a', b', c'⟩)) w := eqK3 ⟨a, b, c⟩ ⟨a', b', c'⟩ w
set_option maxHeartbeats 4000000 in
set_option maxRecDepth 100000 in
theorem rxmtDrops_any (A : Option Addr) (cap : Nat) (l : List (Int × Int)) (k1 k2 k3 o1 o2 o3 : Int) (w : World) (hl : RowsAt 2 twoCells w w.heap.size A l) (hm : l.length ≤ maxLen) :
    Calls Try.prog 12 #[.slice A l.length cap, .agg #[.int .i64 k1, .int .i64 k2, .int .i64 k3], .agg #[.int .i64 o1, .int .i64 o2, .int .i64 o3]] w fun r w' => r = .returned (.bool true) ∧ Below w.heap.size w w' := by
  unfold maxLen at hm
  have hB0 : DrB w ⟨k1, k2, k3⟩ ⟨o1, o2, o3⟩ A l ((w.alloc (.cells #[.int .i64 k1, .int .i64 k2, .int .i64 k3] 61)).alloc (.cells #[.int .i64 o1, .int .i64 o2, .int .i64 o3] 61)) := by
    have hb : Below w.heap.size w ((w.alloc (.cells #[.int .i64 k1, .int .i64 k2, .int .i64 k3] 61)).alloc (.cells #[.int .i64 o1, .int .i64 o2, .int .i64 o3] 61)) := ((Below.refl _ _).alloc (Nat.le_refl _) _).alloc (by simp) _
    exact ⟨(Blk.new w _ _).alloc _, Blk.size (by simp), hl.below hb, hb⟩
  have HB0 := Lib.hid hB0
  clear hB0 hl
  by_cases h40 : l.length ≤ 40
  · have h40b : decide ((40 : Int) < (l.length : Int)) = false := by simp; omega
    by_cases he : (⟨k1, k2, k3⟩ : K3) = ⟨o1, o2, o3⟩
    · simp only [K3.mk.injEq] at he
      obtain ⟨rfl, rfl, rfl⟩ := he
      go_enter Try.func12, Try.ntmps12
      go_wp2_with fail
      with_reducible refine Calls.mono (wakes16 _) ?_
      rintro r w1 ⟨rfl, hb1⟩
      obtain ⟨x0, x1, x2, x3, x4, x5⟩ := (HB0.out.keep hb1).cells
      simp only at x0 x1 x2 x3 x4 x5
      have Hb1 := Lib.hid (HB0.out.keep hb1).bel
      clear hb1
      go_wp2
      go_ret
      exact ⟨rfl, Hb1.out⟩
    · have heq := fun w => eqKey k1 k2 k3 o1 o2 o3 w
      rw [decide_eq_false he] at heq
      have Hne := Lib.hid he
      clear he
      go_enter Try.func12, Try.ntmps12
      go_wp2_with fail
      with_reducible refine Calls.mono (wakes16 _) ?_
      rintro r w1 ⟨rfl, hb1⟩
      have hB1 := HB0.out.keep hb1
      obtain ⟨x0, x1, x2, x3, x4, x5⟩ := hB1.cells
      simp only at x0 x1 x2 x3 x4 x5
      have HB1 := Lib.hid hB1
      clear hB1 hb1
      go_wp2_with fail
      with_reducible refine Calls.mono (New16 w1) ?_
      rintro r w2 ⟨rfl, hR2, hb2⟩
      obtain ⟨p, hp⟩ : ∃ p, w1.heap.size + 1 = p := ⟨_, rfl⟩
      rw [hp] at hR2 ⊢
      obtain ⟨b, hb⟩ : ∃ b, w1.heap.size = b := ⟨_, rfl⟩
      rw [hb] at hR2
      have hbw : w.heap.size + 2 ≤ b := by have := HB1.out.o.lt; omega
      have HB2 := Lib.hid (HB1.out.keep hb2)
      have HR2 := Lib.hid hR2
      clear hR2 hb2 hp hb x0 x1 x2 x3 x4 x5
      go_wp2
      go_loopw [8, 26] (fun nv iv wr => ∃ i : Nat, iv = .int .i64 i ∧ i ≤ l.length ∧ nv = .int .i64 ((tosK l i).length : Nat) ∧ RxAt wr p b (both (tosK l i) ⟨k1, k2, k3⟩ ⟨o1, o2, o3⟩) ∧ DrB w ⟨k1, k2, k3⟩ ⟨o1, o2, o3⟩ A l wr) (fun _ iv _ => l.length - (intOf iv).toNat)
      case atStart => exact ⟨0, rfl, Nat.zero_le _, rfl, HR2.out, HB2.out⟩
      case round =>
        obtain ⟨i, rfl, hi, rfl, hrx, hB⟩ := hrel
        have htl := tosK_len l i hi
        have htn := tosK_nodup l i hi
        by_cases hlt : i < l.length
        · have hsucc := tosK_succ l i hlt
          obtain ⟨g, o, rfl, z0, z1⟩ := row_two hB.rows i hlt
          have hil : (i : Int) < (l.length : Int) := by omega
          generalize l[i] = x at *
          obtain ⟨t0, t1⟩ := x
          simp only at z0 z1
          generalize tosK l i = T at *
          have Hsucc := Lib.hid hsucc
          have Htn := Lib.hid htn
          have hbb := both_len T ⟨k1, k2, k3⟩ ⟨o1, o2, o3⟩
          have hbl : (both T ⟨k1, k2, k3⟩ ⟨o1, o2, o3⟩).length + 2 ≤ 2 ^ 20 := by omega
          have Hbl := Lib.hid hbl
          have hB' := hB.keep ((Below.refl wr.heap.size wr).alloc (Nat.le_refl _) (.cells #[.int .i64 t0, .int .i64 t1] 90))
          obtain ⟨x0, x1, x2, x3, x4, x5⟩ := hB'.cells
          simp only at x0 x1 x2 x3 x4 x5
          have HB := Lib.hid hB'
          have hon := both_on T (t0, t1) ⟨k1, k2, k3⟩ ⟨o1, o2, o3⟩
          have HOn := Lib.hid (On_any p b _ t0 t1 k1 k2 k3 (wr.alloc (.cells #[.int .i64 t0, .int .i64 t1] 90)) (hrx.alloc _))
          simp only at hon
          rw [hon] at HOn
          have Hrx := Lib.hid hrx
          have Hblk := Lib.hid (Blk.new wr 90 #[.int .i64 t0, .int .i64 t1])
          have hrl : wr.heap.size < (wr.alloc (.cells #[.int .i64 t0, .int .i64 t1] 90)).heap.size := by simp
          have Hrl := Lib.hid hrl
          have Hbr := Lib.hid (show b < wr.heap.size from hrx.map.lt)
          clear hsucc htn hbb hbl hB hB' hon hrx hrl
          have hput : ∀ W : World, RxAt W p b (both T ⟨k1, k2, k3⟩ ⟨o1, o2, o3⟩) → ∀ ob, ob = Obj.cells #[.int .i64 k1, .int .i64 k2, .int .i64 k3, .int .i64 o1, .int .i64 o2, .int .i64 o3] 61 →
              Calls Try.prog 43 #[.pointer (some ⟨p, 0, none⟩), .int .i64 t0, .int .i64 t1, .slice (some ⟨W.heap.size, 0, none⟩) 2 2] (W.alloc ob) fun r w' => (∃ n : Int, r = .returned (.int .i64 n)) ∧ RxAt w' p b (both (addT T (t0, t1)) ⟨k1, k2, k3⟩ ⟨o1, o2, o3⟩) ∧ (W.alloc ob).grownBy w' (some b) := by
            intro W hR ob hob
            subst hob
            have hbW := hR.map.lt
            have hrow : RowsAt 3 K3.cells (W.alloc (.cells #[.int .i64 k1, .int .i64 k2, .int .i64 k3, .int .i64 o1, .int .i64 o2, .int .i64 o3] 61)) (W.heap.size + 1) (some ⟨W.heap.size, 0, none⟩) [⟨k1, k2, k3⟩, ⟨o1, o2, o3⟩] := by
              have := rows_blk (C := 3) (cells := K3.cells) (M := [⟨k1, k2, k3⟩, ⟨o1, o2, o3⟩]) (fun _ => rfl) (Blk.new W 61 #[.int .i64 k1, .int .i64 k2, .int .i64 k3, .int .i64 o1, .int .i64 o2, .int .i64 o3])
              simpa using this
            refine (Put_of sortsK p b _ t0 t1 (some ⟨W.heap.size, 0, none⟩) 2 [⟨k1, k2, k3⟩, ⟨o1, o2, o3⟩] _ (hR.alloc _) (W.heap.size + 1) (rows_grown hrow (by simp) (fun g o e _ => by injection e with e; injection e with e; omega)) Hbl.out 2 rfl).mono ?_
            rintro r w' ⟨rfl, h1, h2⟩
            rw [both_step T (t0, t1) Hne.out] at h1
            exact ⟨⟨_, rfl⟩, h1, h2⟩
          have HPut := Lib.hid hput
          clear hput
          by_cases hmem : (t0, t1) ∈ T
          all_goals
            have Hsl := Lib.hid (show (addT T (t0, t1)).length = if (t0, t1) ∈ T then T.length else T.length + 1 by unfold addT; split <;> simp)
            have Hmem := Lib.hid hmem
            rw [show decide ((t0, t1) ∈ T) = _ from (by first | exact decide_eq_true hmem | exact decide_eq_false hmem)] at HOn
            clear hmem
            go_wp2_with fail
            with_reducible refine Calls.mono HOn.out ?_
            rintro r w7 ⟨rfl, hb7⟩
            have hB7 := HB.out.keep hb7
            clear x0 x1 x2 x3 x4 x5
            obtain ⟨x0, x1, x2, x3, x4, x5⟩ := hB7.cells
            simp only at x0 x1 x2 x3 x4 x5
            have hblk7 := Hblk.out.below hb7 Hrl.out
            obtain ⟨v0, v1⟩ : _ ∧ _ := ⟨hblk7.cell 0, hblk7.cell 1⟩
            simp only [List.getElem?_toArray, List.getElem?_cons_zero, List.getElem?_cons_succ] at v0 v1
            have HB7 := Lib.hid hB7
            have HR7 := Lib.hid ((Hrx.out.alloc (.cells #[.int .i64 t0, .int .i64 t1] 90)).keep hb7)
            clear hb7 hB7 hblk7
            go_wp2_with fail
            with_reducible refine Calls.mono (HPut.out w7 HR7.out _ rfl) ?_
            rintro r w8 ⟨⟨n8, rfl⟩, hR8, hg8⟩
            have HR8 := Lib.hid hR8
            have HB8 := Lib.hid ((HB7.out.keep ((Below.refl _ _).alloc (Nat.le_refl _) _)).turn hbw hg8)
            clear hR8 hg8 x0 x1 x2 x3 x4 x5 v0 v1
            go_wp2
            go_roundw
            case measure => simp [intOf]; omega
            case rel =>
              refine ⟨i + 1, by go_num, by omega, ?_, by rw [Hsucc.out]; exact HR8.out, HB8.out⟩
              rw [Hsucc.out, Hsl.out]
              first
                | rw [if_pos Hmem.out]
                | (rw [if_neg Hmem.out]; go_num)
        · have hil : i = l.length := by omega
          subst hil
          have hmemT := fun y => mem_tosK l l.length y (Nat.le_refl _)
          rw [List.take_length] at hmemT
          have HmemT := Lib.hid hmemT
          have Htn := Lib.hid htn
          clear hmemT htn
          generalize tosK l l.length = T at *
          have Hhk := Lib.hid (both_has_k T ⟨k1, k2, k3⟩ ⟨o1, o2, o3⟩)
          have Hdr := Lib.hid (both_drop T Hne.out)
          have Hbl := Lib.hid (show (both T ⟨k1, k2, k3⟩ ⟨o1, o2, o3⟩).length ≤ 2 ^ 20 by rw [both_len]; omega)
          have Hll := Lib.hid (show (lone T ⟨o1, o2, o3⟩).length ≤ 2 ^ 20 by unfold lone; rw [List.length_map]; omega)
          have Hlk := Lib.hid (show hasB16 (lone T ⟨o1, o2, o3⟩) ⟨k1, k2, k3⟩ = false by rw [lone_has, decide_eq_false (show ¬((⟨o1, o2, o3⟩ : K3) = ⟨k1, k2, k3⟩) from fun e => Hne.out e.symm), Bool.and_false])
          have Hlo := Lib.hid (show hasB16 (lone T ⟨o1, o2, o3⟩) ⟨o1, o2, o3⟩ = decide (0 < T.length) by rw [lone_has]; simp)
          have Hld := Lib.hid (lone_drop T Hne.out)
          have hB1 := hB
          obtain ⟨x0, x1, x2, x3, x4, x5⟩ := hB1.cells
          simp only at x0 x1 x2 x3 x4 x5
          have HB := Lib.hid hB
          have Hrx := Lib.hid hrx
          clear hB hrx hB1
          have hpos : decide (0 < T.length) = true ∨ decide (0 < T.length) = false := by cases decide (0 < T.length) <;> simp
          rcases hpos with hpos | hpos
          all_goals
            have Hh := Lib.hid (Has_any p b _ k1 k2 k3 wr Hrx.out (Hhk.out.trans hpos))
            have Hlo' := Lib.hid (Hlo.out.trans hpos)
            go_wp2_with fail
            with_reducible refine Calls.mono Hh.out ?_
            rintro r w5 ⟨rfl, hb5⟩
            have hB5 := HB.out.keep hb5
            clear x0 x1 x2 x3 x4 x5
            obtain ⟨x0, x1, x2, x3, x4, x5⟩ := hB5.cells
            simp only at x0 x1 x2 x3 x4 x5
            have HB5 := Lib.hid hB5
            have HD := Lib.hid (Drop_of p b _ k1 k2 k3 w5 (Hrx.out.keep hb5) Hbl.out)
            rw [Hdr.out.1, Hdr.out.2] at HD
            clear hb5 hB5
            go_wp2_with fail
            with_reducible refine Calls.mono HD.out ?_
            rintro r w6 ⟨rfl, hR6, hg6⟩
            have hB6 := HB5.out.turn hbw hg6
            clear x0 x1 x2 x3 x4 x5
            obtain ⟨x0, x1, x2, x3, x4, x5⟩ := hB6.cells
            simp only at x0 x1 x2 x3 x4 x5
            have HB6 := Lib.hid hB6
            have HR6 := Lib.hid hR6
            have Hh6 := Lib.hid (Has_any p b _ k1 k2 k3 w6 hR6 Hlk.out)
            clear hR6 hg6 hB6
            go_wp2_with fail
            with_reducible refine Calls.mono Hh6.out ?_
            rintro r w7 ⟨rfl, hb7⟩
            have hB7 := HB6.out.keep hb7
            clear x0 x1 x2 x3 x4 x5
            obtain ⟨x0, x1, x2, x3, x4, x5⟩ := hB7.cells
            simp only at x0 x1 x2 x3 x4 x5
            have HB7 := Lib.hid hB7
            have HR7 := Lib.hid (HR6.out.keep hb7)
            have Hh7 := Lib.hid (Has_any p b _ o1 o2 o3 w7 HR7.out Hlo'.out)
            clear hb7 hB7
            go_wp2_with fail
            with_reducible refine Calls.mono Hh7.out ?_
            rintro r w8 ⟨rfl, hb8⟩
            have hB8 := HB7.out.keep hb8
            clear x0 x1 x2 x3 x4 x5
            obtain ⟨x0, x1, x2, x3, x4, x5⟩ := hB8.cells
            simp only at x0 x1 x2 x3 x4 x5
            have HB8 := Lib.hid hB8
            have HD8 := Lib.hid (Drop_of p b _ k1 k2 k3 w8 (HR7.out.keep hb8) Hll.out)
            rw [Hld.out.1, Hld.out.2] at HD8
            clear hb8 hB8
            go_wp2_with fail
            with_reducible refine Calls.mono HD8.out ?_
            rintro r w9 ⟨rfl, hR9, hg9⟩
            have HB9 := Lib.hid (HB8.out.turn hbw hg9)
            have HR9 := Lib.hid hR9
            clear hR9 hg9 x0 x1 x2 x3 x4 x5
            go_wp2
            go_loopw [84] (fun iv wr => ∃ i : Nat, iv = .int .i64 i ∧ i ≤ l.length ∧ RxAt wr p b (lone T ⟨o1, o2, o3⟩) ∧ DrB w ⟨k1, k2, k3⟩ ⟨o1, o2, o3⟩ A l wr) (fun iv _ => l.length - (intOf iv).toNat)
            case atStart => exact ⟨0, rfl, Nat.zero_le _, HR9.out, HB9.out⟩
            case round =>
              obtain ⟨i, rfl, hi, hrx, hB⟩ := hrel
              by_cases hlt : i < l.length
              · have hxT := (HmemT.out l[i]).2 (List.getElem_mem hlt)
                obtain ⟨g, o, rfl, z0, z1⟩ := row_two hB.rows i hlt
                have hil : (i : Int) < (l.length : Int) := by omega
                generalize l[i] = x at *
                obtain ⟨t0, t1⟩ := x
                simp only at z0 z1
                have s1 := lone_on T (t0, t1) ⟨o1, o2, o3⟩ ⟨k1, k2, k3⟩
                have s2 := lone_on T (t0, t1) ⟨o1, o2, o3⟩ ⟨o1, o2, o3⟩
                have s3 := lone_list Htn.out hxT ⟨o1, o2, o3⟩
                rw [decide_eq_false (show ¬((⟨o1, o2, o3⟩ : K3) = ⟨k1, k2, k3⟩) from fun e => Hne.out e.symm), Bool.and_false] at s1
                rw [decide_eq_true hxT, decide_eq_true rfl, Bool.and_self] at s2
                simp only at s1 s2 s3
                have Hs2 := Lib.hid s2
                have Hs3 := Lib.hid s3
                have hB' := hB.keep ((Below.refl wr.heap.size wr).alloc (Nat.le_refl _) (.cells #[.int .i64 t0, .int .i64 t1] 90))
                obtain ⟨x0, x1, x2, x3, x4, x5⟩ := hB'.cells
                simp only at x0 x1 x2 x3 x4 x5
                have HB := Lib.hid hB'
                have HOn := Lib.hid (On_any p b _ t0 t1 k1 k2 k3 (wr.alloc (.cells #[.int .i64 t0, .int .i64 t1] 90)) (hrx.alloc _))
                rw [s1] at HOn
                have Hrx := Lib.hid (hrx.alloc (.cells #[.int .i64 t0, .int .i64 t1] 90))
                have Hblk := Lib.hid (Blk.new wr 90 #[.int .i64 t0, .int .i64 t1])
                clear hxT s1 s2 s3 hB hB' hrx
                go_wp2_with fail
                with_reducible refine Calls.mono HOn.out ?_
                rintro r w7 ⟨rfl, hb7⟩
                have hB7 := HB.out.keep hb7
                clear x0 x1 x2 x3 x4 x5
                obtain ⟨x0, x1, x2, x3, x4, x5⟩ := hB7.cells
                simp only at x0 x1 x2 x3 x4 x5
                have hblk7 := Hblk.out.below hb7 Hblk.out.lt
                obtain ⟨v0, v1⟩ : _ ∧ _ := ⟨hblk7.cell 0, hblk7.cell 1⟩
                simp only [List.getElem?_toArray, List.getElem?_cons_zero, List.getElem?_cons_succ] at v0 v1
                have HB7 := Lib.hid hB7
                have HR7 := Lib.hid (Hrx.out.keep hb7)
                have Hblk7 := Lib.hid hblk7
                have HOn7 := Lib.hid (On_any p b _ t0 t1 o1 o2 o3 w7 HR7.out)
                rw [Hs2.out] at HOn7
                clear hb7 hB7 hblk7
                go_wp2_with fail
                with_reducible refine Calls.mono HOn7.out ?_
                rintro r w8 ⟨rfl, hb8⟩
                have hB8 := HB7.out.keep hb8
                have hblk8 := Hblk7.out.below hb8 Hblk7.out.lt
                clear x0 x1 x2 x3 x4 x5 v0 v1
                obtain ⟨v0, v1⟩ : _ ∧ _ := ⟨hblk8.cell 0, hblk8.cell 1⟩
                simp only [List.getElem?_toArray, List.getElem?_cons_zero, List.getElem?_cons_succ] at v0 v1
                have HB8 := Lib.hid hB8
                have HR8 := Lib.hid (HR7.out.keep hb8)
                have HLen := Lib.hid (Len_of sortsK p b _ t0 t1 w8 HR8.out Hll.out)
                rw [Hs3.out] at HLen
                clear hb8 hB8 hblk8
                go_wp2_with fail
                with_reducible refine Calls.mono HLen.out ?_
                rintro r w9 ⟨rfl, hb9⟩
                have HB9 := Lib.hid (HB8.out.keep hb9)
                have HR9 := Lib.hid (HR8.out.keep hb9)
                clear hb9 v0 v1
                go_wp2
                go_roundw
                case measure => simp [intOf]; omega
                case rel => exact ⟨i + 1, by go_num, by omega, HR9.out, HB9.out⟩
              · have hil : i = l.length := by omega
                subst hil
                have Hb := Lib.hid hB.bel
                clear hrx hB
                go_wp2
                go_ret
                exact ⟨rfl, Hb.out⟩
  · have h40' : 40 < l.length := by omega
    go_enter Try.func12, Try.ntmps12
    go_wp2_with fail
    with_reducible refine Calls.mono (wakes16 _) ?_
    rintro r w1 ⟨rfl, hb1⟩
    have Hb1 := Lib.hid (HB0.out.keep hb1).bel
    clear hb1
    go_wp2
    go_ret
    exact ⟨rfl, Hb1.out⟩

end Go.Proofs.Ytfhikkmgclkcdaa
