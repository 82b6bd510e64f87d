/-
  Layer 15: the document's list: a head is added.
-/
import Derived.Test.YtannngcdphafdaaRwBase
namespace Go.Proofs.Ytannngcdphafdaa
open Go.RowKit Go.Sort

theorem set_flatH (l : List Hd) (k : Nat) (c : Hd) (hk : k < l.length) :
    (l.set k c).flatMap Hd.cells = (((((((l.flatMap Hd.cells).set (k * 7) (.int .i64 c.age)).set (k * 7 + 1) (.int .i64 c.kind)).set (k * 7 + 2) (.int .i64 c.id)).set (k * 7 + 3) (.int .i64 c.adv)).set (k * 7 + 4) (.int .i64 c.seq)).set (k * 7 + 5) (.int .i64 c.sum)).set (k * 7 + 6) (.int .i64 c.long) := by
  induction l generalizing k with
  | nil => simp at hk
  | cons d l ih =>
    cases k with
    | zero => simp [Hd.cells]
    | succ k =>
      have h := ih k (by simpa using hk)
      simp only [List.set_cons_succ, List.flatMap_cons, h]
      have h4 : d.cells.length = 7 := rfl
      rw [List.set_append_right _ _ (by omega), List.set_append_right _ _ (by omega), List.set_append_right _ _ (by omega), List.set_append_right _ _ (by omega), List.set_append_right _ _ (by omega), List.set_append_right _ _ (by omega), List.set_append_right _ _ (by omega)]
      simp only [h4, show (k + 1) * 7 - 7 = k * 7 by omega, show (k + 1) * 7 + 1 - 7 = k * 7 + 1 by omega, show (k + 1) * 7 + 2 - 7 = k * 7 + 2 by omega, show (k + 1) * 7 + 3 - 7 = k * 7 + 3 by omega, show (k + 1) * 7 + 4 - 7 = k * 7 + 4 by omega, show (k + 1) * 7 + 5 - 7 = k * 7 + 5 by omega, show (k + 1) * 7 + 6 - 7 = k * 7 + 6 by omega]
section
variable {w : World} {B g cap n : Nat} {l : List Hd}
theorem OwnH.set7 (h : OwnH w B (.slice (some ⟨g, 0, none⟩) n cap) l) (hn : n = l.length) (k : Nat) (hk : k < l.length) (c : Hd) :
    OwnH (((((((w.setCell ⟨g, k * 7, none⟩ (.int .i64 c.age)).setCell ⟨g, k * 7 + 1, none⟩ (.int .i64 c.kind)).setCell ⟨g, k * 7 + 2, none⟩ (.int .i64 c.id)).setCell ⟨g, k * 7 + 3, none⟩ (.int .i64 c.adv)).setCell ⟨g, k * 7 + 4, none⟩ (.int .i64 c.seq)).setCell ⟨g, k * 7 + 5, none⟩ (.int .i64 c.sum)).setCell ⟨g, k * 7 + 6, none⟩ (.int .i64 c.long)) B (.slice (some ⟨g, 0, none⟩) n cap) (l.set k c) := by
  subst hn
  unfold OwnH OwnR
  rw [set_flatH l k c hk, List.length_set]
  exact (((((((World.ownsRow.stored h (k * 7) (.int .i64 c.age)).1.stored (k * 7 + 1) (.int .i64 c.kind)).1.stored (k * 7 + 2) (.int .i64 c.id)).1.stored (k * 7 + 3) (.int .i64 c.adv)).1.stored (k * 7 + 4) (.int .i64 c.seq)).1.stored (k * 7 + 5) (.int .i64 c.sum)).1.stored (k * 7 + 6) (.int .i64 c.long)).1
theorem OwnR.frozen {α : Type} {e : TypeId} {C : Nat} {cells : α → List Value} {l : List α} (h : OwnR e C cells w B (.slice (some ⟨g, 0, none⟩) n cap) l) (i : Nat) : w.frozen? ⟨g, i, none⟩ = false := by
  rcases h.2 with ⟨hv, -⟩ | ⟨g', cap', cur, hv, -, hb, -⟩
  · cases hv
  · simp only [Value.slice.injEq, Option.some.injEq, Addr.mk.injEq, and_true] at hv
    obtain ⟨rfl, -, -⟩ := hv
    simp [World.frozen?, hb]
end
theorem Kept2.set7 {w w' : World} {q g j : Nat} (h : Kept2 w w' q (some g)) (a b c d e f x : Value) :
    Kept2 w (((((((w'.setCell ⟨g, j, none⟩ a).setCell ⟨g, j + 1, none⟩ b).setCell ⟨g, j + 2, none⟩ c).setCell ⟨g, j + 3, none⟩ d).setCell ⟨g, j + 4, none⟩ e).setCell ⟨g, j + 5, none⟩ f).setCell ⟨g, j + 6, none⟩ x) q (some g) := by
  have one : ∀ {W : World} (_ : Kept2 w W q (some g)) (p : Addr) (_ : p.block = g) (u : Value), Kept2 w (W.setCell p u) q (some g) := fun {W} h p hp u =>
    ⟨h.os, h.tape, h.output, by simpa [World.setCell] using h.size, fun i hi h1 h2 => (Below.heap_setCell W p u i (by rintro rfl; exact h2 (by rw [hp]))).trans (h.block i hi h1 h2)⟩
  exact one (one (one (one (one (one (one h _ rfl _) _ rfl _) _ rfl _) _ rfl _) _ rfl _) _ rfl _) _ rfl _

theorem addD_found {L : List Hd} {h : Hd} {j : Nat} (hj : j < L.length) (hg : getH (keyH h) L = some L[j]) (hs : setH h L = L.set j h) : addD newerI L h = if decide (0 < newerI h L[j]) = true then L.set j h else L := by
  unfold addD
  rw [hg]
  simp only [hs, decide_eq_true_eq]
theorem addD_none {L : List Hd} {h : Hd} (hg : getH (keyH h) L = none) : addD newerI L h = insH h L := by
  unfold addD
  rw [hg]
/-- what is to come of the list -/
def insRest (h : Hd) (d : Bool) (R : List Hd) : List Hd := if d = true then R else insH h R
theorem insRest_end (h : Hd) (d : Bool) : insRest h d [] = if d = true then [] else [h] := by
  cases d <;> rfl
theorem insRest_cons (h x : Hd) (d : Bool) (R : List Hd) : (d = true ∧ insRest h d (x :: R) = [x] ++ insRest h true R) ∨ (d = false ∧ lessK (keyH h) (keyH x) = true ∧ insRest h d (x :: R) = [h] ++ [x] ++ insRest h true R) ∨ (d = false ∧ lessK (keyH h) (keyH x) = false ∧ insRest h d (x :: R) = [x] ++ insRest h false R) := by
  cases d with
  | true => exact .inl ⟨rfl, rfl⟩
  | false =>
    right
    cases hl : lessK (keyH h) (keyH x) with
    | true => left; simp [insRest, insH, hl]
    | false => right; simp [insRest, insH, hl]

theorem RwAt.set7 {w : World} {q g n c : Nat} {L : List Hd} (h : RwAt w q (.slice (some ⟨g, 0, none⟩) n c) L) (hn : n = L.length) (j : Nat) (hj : j < L.length) (x : Hd) :
    RwAt (((((((w.setCell ⟨g, j * 7, none⟩ (.int .i64 x.age)).setCell ⟨g, j * 7 + 1, none⟩ (.int .i64 x.kind)).setCell ⟨g, j * 7 + 2, none⟩ (.int .i64 x.id)).setCell ⟨g, j * 7 + 3, none⟩ (.int .i64 x.adv)).setCell ⟨g, j * 7 + 4, none⟩ (.int .i64 x.seq)).setCell ⟨g, j * 7 + 5, none⟩ (.int .i64 x.sum)).setCell ⟨g, j * 7 + 6, none⟩ (.int .i64 x.long)) q (.slice (some ⟨g, 0, none⟩) n c) (L.set j x) := by
  have hb := (h.own.block g rfl).1
  have hne : q ≠ g := by omega
  exact ⟨((((((h.ptr.far hne _).far hne _).far hne _).far hne _).far hne _).far hne _).far hne _, h.own.set7 hn j hj x⟩
def RwPost (w w' : World) (q : Nat) (v : Value) (N : List Hd) : Prop := ∃ u, RwAt w' q u N ∧ Kept2 w w' q v.ownBlock ∧ ∀ g, u.ownBlock = some g → v.ownBlock = some g ∨ w.heap.size ≤ g

set_option maxHeartbeats 4000000 in
set_option maxRecDepth 100000 in
theorem rwAdd_found (q : Nat) (v : Value) (L : List Hd) (y1 y2 y3 y4 y5 y6 y7 : Int) (w : World) (hR : RwAt w q v L) (hlen : L.length ≤ 2 ^ 20) (hy1 : 0 ≤ y1) (hy2 : y1 ≤ 60) (j : Nat) (hj : j < L.length) (hf : findI ⟨y2, y3, y4⟩ L = j) (hage : ageOk L[j]) {t : Bool} (ht : decide (0 < newerI ⟨y1, y2, y3, y4, y5, y6, y7⟩ L[j]) = t) :
    Calls Try.prog 81 #[.pointer (some ⟨q, 0, none⟩), .agg #[.int .i64 y1, .int .i64 y2, .int .i64 y3, .int .i64 y4, .int .i64 y5, .int .i64 y6, .int .i64 y7]] w fun r w' => r = .returned (.tuple #[]) ∧ RwPost w w' q v (if t = true then L.set j ⟨y1, y2, y3, y4, y5, y6, y7⟩ else L) := by
  obtain ⟨g, c, hv, -⟩ := hR.row j hj
  subst hv
  have HR := Lib.hid hR
  have Hf := Lib.hid hf
  have Hage := Lib.hid hage
  have Ht := Lib.hid ht
  have HF := Lib.hid (fun W (h : RwAt W q (.slice (some ⟨g, 0, none⟩) L.length c) L) => rwFind q _ L y2 y3 y4 W h hlen hf)
  clear hR hf hage ht
  go_enter Try.func81, Try.ntmps81
  go_wp2_with fail
  with_reducible refine Calls.mono (key_any _ _ _ _ _ _ _ _) ?_
  rintro r w2 ⟨rfl, hb2⟩
  obtain ⟨w3, hW3, hh3, hk3, hR3, hb3⟩ : ∃ w3, w2.alloc (.cells #[.int .i64 y2, .int .i64 y3, .int .i64 y4] 63) = w3 ∧ Blk w3 w.heap.size 58 #[.int .i64 y1, .int .i64 y2, .int .i64 y3, .int .i64 y4, .int .i64 y5, .int .i64 y6, .int .i64 y7] ∧ Blk w3 w2.heap.size 63 #[.int .i64 y2, .int .i64 y3, .int .i64 y4] ∧ RwAt w3 q (.slice (some ⟨g, 0, none⟩) L.length c) L ∧ Below w.heap.size w w3 :=
    ⟨_, rfl, ((Blk.new w _ _).below hb2 (by simp)).alloc _, Blk.new _ _ _, ((HR.out.alloc _).keep hb2).alloc _, below_two hb2 _⟩
  obtain ⟨q0, q1, q2⟩ : _ ∧ _ ∧ _ := ⟨hk3.cell 0, hk3.cell 1, hk3.cell 2⟩
  simp only [List.getElem?_toArray, List.getElem?_cons_zero, List.getElem?_cons_succ] at q0 q1 q2
  have Hh3 := Lib.hid hh3
  have HR3 := Lib.hid hR3
  have Hb3 := Lib.hid hb3
  clear hb2 hh3 hk3 hR3 hb3
  go_wp2_with fail
  with_reducible refine Calls.mono (HF.out _ HR3.out) ?_
  rintro r w4 ⟨rfl, hb4⟩
  have hh4 := Hh3.out.below hb4 Hh3.out.lt
  have hR4 := HR3.out.keep hb4
  have hb04 := Hb3.out.trans (hb4.mono Hb3.out.size)
  obtain ⟨a0, a1, a2, a3, a4, a5, a6⟩ : _ ∧ _ ∧ _ ∧ _ ∧ _ ∧ _ ∧ _ := ⟨cell_regrown (hh4.cell 0), cell_regrown (hh4.cell 1), cell_regrown (hh4.cell 2), cell_regrown (hh4.cell 3), cell_regrown (hh4.cell 4), cell_regrown (hh4.cell 5), cell_regrown (hh4.cell 6)⟩
  obtain ⟨g', c', hv, z0, z1, z2, z3, z4, z5, z6⟩ := hR4.row j hj
  injection hv with hA hn hcap
  injection hA with hA
  injection hA with hA
  subst hA hcap
  clear hn
  have cp := cell_regrown hR4.cell
  have z0 := cell_regrown z0
  have z1 := cell_regrown z1
  have z2 := cell_regrown z2
  have z3 := cell_regrown z3
  have z4 := cell_regrown z4
  have z5 := cell_regrown z5
  have z6 := cell_regrown z6
  have Hh4 := Lib.hid hh4
  have HR4 := Lib.hid hR4
  have Hb4 := Lib.hid hb04
  clear hb4 hh4 hR4 hb04 q0 q1 q2
  have hjl : (j : Int) < (L.length : Int) := by omega
  generalize L[j] = e at *
  obtain ⟨e1, e2, e3, e4, e5, e6, e7⟩ := e
  simp only at z0 z1 z2 z3 z4 z5 z6
  obtain ⟨m, hm⟩ : ∃ m, newerI ⟨y1, y2, y3, y4, y5, y6, y7⟩ ⟨e1, e2, e3, e4, e5, e6, e7⟩ = m := ⟨_, rfl⟩
  have ht := Ht.out
  rw [hm] at ht
  have Hm := Lib.hid hm
  have He := Lib.hid (show 0 ≤ e1 ∧ e1 ≤ 60 from ⟨Hage.out.lo, Hage.out.hi⟩)
  clear hm
  have CN := Lib.hid (fun dd os => Calls.regrown_of (w := w4) (d := dd) (os := os) (refNewer_any _ _ _ _ _ _ _ _ _ _ _ _ _ _ _ hy1 hy2 He.out.1 He.out.2 Hm.out))
  go_wp2_with fail
  refine wp_below_tail 9 (by kernel_rfl) (by kernel_rfl) ?_
  simp only [List.take_succ_cons, List.take_zero, List.drop_succ_cons, List.drop_zero]
  repeat (go_big_quiet_step (exact CN.out _ _))
  refine wpQuiet_nil ?_
  rintro w5 ⟨⟨dq, osq⟩, rfl⟩
  have hb5 := below_regrown w4 dq osq
  generalize grow (redrawn w4 dq) osq = w5 at *
  have hh5 := Hh4.out.below hb5 Hh4.out.lt
  have hR5 := HR4.out.keep hb5
  have Hb5 := Lib.hid (Hb4.out.trans (hb5.mono Hb4.out.size))
  clear a0 a1 a2 a3 a4 a5 a6 z0 z1 z2 z3 z4 z5 z6 cp hb5
  cases t
  · have HR5 := Lib.hid hR5
    clear hh5 hR5
    go_wp2
    refine bodyPost_ret (results_none rfl _ _ _) rfl ?_
    exact ⟨rfl, _, HR5.out, (Kept2.refl _ _ _).keep Hb5.out, fun g h => .inl h⟩
  · obtain ⟨a0, a1, a2, a3, a4, a5, a6, -⟩ := hh5.both7
    have cp := hR5.cell
    obtain ⟨g', c', hv, z0, z1, z2, z3, z4, z5, z6⟩ := hR5.row j hj
    injection hv with hA hn hcap
    injection hA with hA
    injection hA with hA
    subst hA hcap
    have hfz := fun i => hR5.own.frozen i
    have HR5 := Lib.hid hR5
    have hgb := (hR5.own.block g rfl)
    clear hh5 hR5 hn
    go_wp2_with fail
    refine wp_drew_tail 7 (by kernel_rfl) (by kernel_rfl) ?_
    simp only [List.take_succ_cons, List.take_zero, List.drop_succ_cons, List.drop_zero]
    repeat (go_big_quiet_step (fail))
    refine wpQuiet_nil ?_
    rintro w7 ⟨dq, rfl⟩
    go_wp2
    refine bodyPost_ret (results_none rfl _ _ _) rfl ?_
    exact ⟨rfl, _, (HR5.out.keep (below_drewN (Below.refl _ _) dq)).set7 rfl j hj ⟨y1, y2, y3, y4, y5, y6, y7⟩, (((Kept2.refl w q _).keep Hb5.out).keep (below_drewN (Below.refl _ _) dq)).set7 _ _ _ _ _ _ _, fun g h => .inl h⟩

theorem rw_end {w w4 w' : World} {q : Nat} {v u : Value} {L N : List Hd} (hR : RwAt w4 q v L) (hb4 : Below w.heap.size w w4) (hown : OwnH w' w4.heap.size u N) (hb : Below w4.heap.size w4 w') : RwPost w (w'.setCell ⟨q, 0, none⟩ u) q v N := by
  have hq := hR.ptr.lt
  refine ⟨u, ⟨by simpa using (hR.ptr.below hb hq).set_ 0 u, (hown.lower (B' := q + 1) (by omega)).set_ (by simp) u⟩, (((Kept2.refl w q _).keep hb4).keep hb).set_ rfl u, fun g hg => .inr (Nat.le_trans hb4.size (hown.block g hg).1)⟩
theorem less_row {a b : K3} {z : Bool} (h : lessK a b = z) : lessK ⟨a.kind, a.id, a.adv⟩ ⟨b.kind, b.id, b.adv⟩ = z := h
set_option maxHeartbeats 8000000 in
set_option maxRecDepth 100000 in
theorem rwAdd_new (q : Nat) (v : Value) (L : List Hd) (y1 y2 y3 y4 y5 y6 y7 : Int) (w : World) (hR : RwAt w q v L) (hlen : L.length ≤ 2 ^ 20) (z : Int) (hf : findI ⟨y2, y3, y4⟩ L = z) (hz : z < 0) :
    Calls Try.prog 81 #[.pointer (some ⟨q, 0, none⟩), .agg #[.int .i64 y1, .int .i64 y2, .int .i64 y3, .int .i64 y4, .int .i64 y5, .int .i64 y6, .int .i64 y7]] w fun r w' => r = .returned (.tuple #[]) ∧ RwPost w w' q v (insH ⟨y1, y2, y3, y4, y5, y6, y7⟩ L) := by
  obtain ⟨A, c, hv⟩ := hR.own.shape
  subst hv
  have HR := Lib.hid hR
  have HF := Lib.hid (fun W (h : RwAt W q (.slice A L.length c) L) => rwFind q _ L y2 y3 y4 W h hlen hf)
  clear hR hf
  go_enter Try.func81, Try.ntmps81
  go_wp2_with fail
  with_reducible refine Calls.mono (key_any _ _ _ _ _ _ _ _) ?_
  rintro r w2 ⟨rfl, hb2⟩
  obtain ⟨w3, hW3, hh3, hk3, hR3, hb3⟩ : ∃ w3, w2.alloc (.cells #[.int .i64 y2, .int .i64 y3, .int .i64 y4] 63) = w3 ∧ Blk w3 w.heap.size 58 #[.int .i64 y1, .int .i64 y2, .int .i64 y3, .int .i64 y4, .int .i64 y5, .int .i64 y6, .int .i64 y7] ∧ Blk w3 w2.heap.size 63 #[.int .i64 y2, .int .i64 y3, .int .i64 y4] ∧ RwAt w3 q (.slice A L.length c) L ∧ Below w.heap.size w w3 :=
    ⟨_, rfl, ((Blk.new w _ _).below hb2 (by simp)).alloc _, Blk.new _ _ _, ((HR.out.alloc _).keep hb2).alloc _, below_two hb2 _⟩
  obtain ⟨q0, q1, q2⟩ : _ ∧ _ ∧ _ := ⟨hk3.cell 0, hk3.cell 1, hk3.cell 2⟩
  simp only [List.getElem?_toArray, List.getElem?_cons_zero, List.getElem?_cons_succ] at q0 q1 q2
  have Hh3 := Lib.hid hh3
  have Hk3 := Lib.hid hk3
  have HR3 := Lib.hid hR3
  have Hb3 := Lib.hid hb3
  clear hb2 hh3 hk3 hR3 hb3
  go_wp2_with fail
  with_reducible refine Calls.mono (HF.out _ HR3.out) ?_
  rintro r w4 ⟨rfl, hb4⟩
  have Hh4 := Lib.hid (Hh3.out.below hb4 Hh3.out.lt)
  have Hk4 := Lib.hid (Hk3.out.below hb4 Hk3.out.lt)
  have HR4 := Lib.hid (HR3.out.keep hb4)
  have Hb4 := Lib.hid (Hb3.out.trans (hb4.mono Hb3.out.size))
  clear hb4 q0 q1 q2
  have hz0 : decide (0 ≤ z) = false := by simpa using hz
  have CK := Lib.hid (fun w0 a b c d e f g dd os => Calls.regrown_of (w := w0) (d := dd) (os := os) (key_any a b c d e f g _))
  go_wp2
  go_loopw [6, 7, 8] (fun o d i wr => ∃ (k : Nat) (O : List Hd) (D : Bool), i = .int .i64 k ∧ d = .bool D ∧ k ≤ L.length ∧ O.length ≤ k + (if D = true then 1 else 0) ∧ insH ⟨y1, y2, y3, y4, y5, y6, y7⟩ L = O ++ insRest ⟨y1, y2, y3, y4, y5, y6, y7⟩ D (L.drop k) ∧ OwnH wr w4.heap.size o O ∧ Below w4.heap.size w4 wr) (fun _ _ i _ => L.length - (intOf i).toNat)
  case atStart => exact ⟨0, [], false, rfl, rfl, Nat.zero_le _, Nat.zero_le _, rfl, OwnR.nil _ _, Below.refl _ _⟩
  case round =>
    obtain ⟨k, O, D, rfl, rfl, hk, hO, hins, hown, hb⟩ := hrel
    obtain ⟨A6, c6, hv6⟩ := hown.shape
    subst hv6
    have hR4 := HR4.out.keep hb
    have hh4 := Hh4.out.below hb Hh4.out.lt
    have hk4 := Hk4.out.below hb Hk4.out.lt
    have hcp := hR4.cell
    have Hins := Lib.hid hins
    have Hown := Lib.hid hown
    have Hb := Lib.hid hb
    have HO := Lib.hid hO
    by_cases hlt : k < L.length
    · obtain ⟨g, c', hv, z0, z1, z2, z3, z4, z5, z6⟩ := hR4.row k hlt
      injection hv with hA hn hcap
      subst hA hcap
      have hkl : (k : Int) < (L.length : Int) := by omega
      have hdrop : L.drop k = L[k] :: L.drop (k + 1) := List.drop_eq_getElem_cons hlt
      generalize hX : L[k] = x at *
      have HX := Lib.hid hX
      clear hX
      have hcons := insRest_cons ⟨y1, y2, y3, y4, y5, y6, y7⟩ x D (L.drop (k + 1))
      rw [hdrop] at hins
      have Hins := Lib.hid hins
      obtain ⟨x1, x2, x3, x4, x5, x6, x7⟩ := x
      simp only at z0 z1 z2 z3 z4 z5 z6
      clear hn hown hb hins hdrop hO
      have CL := Lib.hid (fun (t : Bool) (h : lessK ⟨y2, y3, y4⟩ ⟨x2, x3, x4⟩ = t) dd os => Calls.regrown_of (w := wr) (d := dd) (os := os) (Less07 y2 y3 y4 x2 x3 x4 _ h))
      have HhR := Lib.hid hh4
      have HRR := Lib.hid hR4
      have hcp := cell_regrown hcp
      obtain ⟨k0, k1, k2⟩ : _ ∧ _ ∧ _ := ⟨cell_regrown (hk4.cell 0), cell_regrown (hk4.cell 1), cell_regrown (hk4.cell 2)⟩
      have z0 := cell_regrown z0
      have z1 := cell_regrown z1
      have z2 := cell_regrown z2
      have z3 := cell_regrown z3
      have z4 := cell_regrown z4
      have z5 := cell_regrown z5
      have z6 := cell_regrown z6
      clear hh4 hR4 hk4
      rcases hcons with ⟨rfl, he⟩ | ⟨rfl, hl, he⟩ | ⟨rfl, hl, he⟩
      · have HE := Lib.hid he
        clear he
        go_wp2_with fail
        refine wp_below_tail 13 (by kernel_rfl) (by kernel_rfl) ?_
        simp only [List.take_succ_cons, List.take_zero, List.drop_succ_cons, List.drop_zero]
        repeat (go_big_quiet_step (first | exact CK.out _ _ _ _ _ _ _ _ _ _ | exact CL.out _ _))
        refine wpQuiet_nil ?_
        rintro w5 ⟨⟨dq, osq⟩, rfl⟩
        have hb5 := below_regrown wr dq osq
        generalize grow (redrawn wr dq) osq = w5 at *
        have hh5 := HhR.out.below hb5 HhR.out.lt
        have hR5 := HRR.out.keep hb5
        have Hown5 := Lib.hid (Hown.out.below hb5)
        have Hb5 := Lib.hid (Hb.out.trans (hb5.mono Hb.out.size))
        have hcp := hR5.cell
        obtain ⟨g', c', hv, z0, z1, z2, z3, z4, z5, z6⟩ := hR5.row k hlt
        rw [HX.out] at z0 z1 z2 z3 z4 z5 z6
        injection hv with hA hn hcap
        injection hA with hA
        injection hA with hA
        subst hA hcap
        simp only at z0 z1 z2 z3 z4 z5 z6
        obtain ⟨a0, a1, a2, a3, a4, a5, a6, -⟩ := hh5.both7
        have HR5 := Lib.hid hR5
        clear hn hb5 hR5 hh5
        go_wp2_with (at_builtin; (refine app_row Hd.cells (fun _ => rfl) (by decide) (bytes := 56) (by decide) infoHd rfl Try.underlying34 onesH (by rfl) _ _ (by rfl) w4.heap.size _ (O) (by rfl) (Hown5.out.alloc _) w5.heap.size ⟨x1, x2, x3, x4, x5, x6, x7⟩ (by rfl) (Blk.new _ _ _) (by have := HO.out; simp at this ⊢; omega) (by have := Hb5.out.size; simp; omega) ?_); intro v6 w6 hown6 hg6 hor6; have Hown6 := Lib.hid hown6; have Hb6 := Lib.hid ((Hb5.out.alloc Hb5.out.size _).grown hg6 (by have := Hb5.out.size; simp; omega) (fun j hj => (Hown5.out.block j hj).1)); clear hown6 hg6 hor6)
        go_roundw
        case measure => simp [intOf]; omega
        case rel => exact ⟨k + 1, O ++ [⟨x1, x2, x3, x4, x5, x6, x7⟩], true, by go_num, rfl, hlt, by have := HO.out; simp at this ⊢; omega, by rw [Hins.out, HE.out, List.append_assoc], Hown6.out, Hb6.out⟩
      · have hl2 : lessK ⟨y2, y3, y4⟩ ⟨x2, x3, x4⟩ = true := hl
        have CL := Lib.hid (CL.out _ hl2)
        have HE := Lib.hid he
        clear he hl hl2
        go_wp2_with fail
        refine wp_below_tail 13 (by kernel_rfl) (by kernel_rfl) ?_
        simp only [List.take_succ_cons, List.take_zero, List.drop_succ_cons, List.drop_zero]
        repeat (go_big_quiet_step (first | exact CK.out _ _ _ _ _ _ _ _ _ _ | exact CL.out _ _))
        refine wpQuiet_nil ?_
        rintro w5 ⟨⟨dq, osq⟩, rfl⟩
        have hb5 := below_regrown wr dq osq
        generalize grow (redrawn wr dq) osq = w5 at *
        have hh5 := HhR.out.below hb5 HhR.out.lt
        have hR5 := HRR.out.keep hb5
        have Hown5 := Lib.hid (Hown.out.below hb5)
        have Hb5 := Lib.hid (Hb.out.trans (hb5.mono Hb.out.size))
        have hcp := hR5.cell
        obtain ⟨g', c', hv, z0, z1, z2, z3, z4, z5, z6⟩ := hR5.row k hlt
        rw [HX.out] at z0 z1 z2 z3 z4 z5 z6
        injection hv with hA hn hcap
        injection hA with hA
        injection hA with hA
        subst hA hcap
        simp only at z0 z1 z2 z3 z4 z5 z6
        obtain ⟨a0, a1, a2, a3, a4, a5, a6, -⟩ := hh5.both7
        have HR5 := Lib.hid hR5
        clear hn hb5 hR5 hh5
        go_wp2_with (first | (at_builtin; (refine app_row Hd.cells (fun _ => rfl) (by decide) (bytes := 56) (by decide) infoHd rfl Try.underlying34 onesH (by rfl) _ _ (by rfl) w4.heap.size _ (O ++ [⟨y1, y2, y3, y4, y5, y6, y7⟩]) (by rfl) (Hown6.out.alloc _) w6.heap.size ⟨x1, x2, x3, x4, x5, x6, x7⟩ (by rfl) (Blk.new _ _ _) (by have := HO.out; simp at this ⊢; omega) (by have := Hb6.out.size; simp; omega) ?_); intro v7 w7 hown7 hg7 hor7; have Hown7 := Lib.hid hown7; have Hb7 := Lib.hid ((Hb6.out.alloc Hb6.out.size _).grown hg7 (by have := Hb6.out.size; simp; omega) (fun j hj => (Hown6.out.block j hj).1)); clear hown7 hg7 hor7) | (at_builtin; (refine app_row Hd.cells (fun _ => rfl) (by decide) (bytes := 56) (by decide) infoHd rfl Try.underlying34 onesH (by rfl) _ _ (by rfl) w4.heap.size _ (O) (by rfl) (Hown5.out.alloc _) w5.heap.size ⟨y1, y2, y3, y4, y5, y6, y7⟩ (by rfl) (Blk.new _ _ _) (by have := HO.out; simp at this ⊢; omega) (by have := Hb5.out.size; simp; omega) ?_); intro v6 w6 hown6 hg6 hor6; have Hown6 := Lib.hid hown6; have Hb6 := Lib.hid ((Hb5.out.alloc Hb5.out.size _).grown hg6 (by have := Hb5.out.size; simp; omega) (fun j hj => (Hown5.out.block j hj).1)); have hR6 := HR4.out.keep Hb6.out; have hcp6 := hR6.cell; obtain ⟨g6, c6', hv6, u0, u1, u2, u3, u4, u5, u6⟩ := hR6.row k hlt; rw [HX.out] at u0 u1 u2 u3 u4 u5 u6; injection hv6 with hA6 hn6 hcap6; injection hA6 with hA6; injection hA6 with hA6; subst hA6 hcap6; simp only at u0 u1 u2 u3 u4 u5 u6; clear hn6 hR6 z0 z1 z2 z3 z4 z5 z6 hcp; clear hown6 hg6 hor6))
        go_roundw
        case measure => simp [intOf]; omega
        case rel => exact ⟨k + 1, O ++ [⟨y1, y2, y3, y4, y5, y6, y7⟩] ++ [⟨x1, x2, x3, x4, x5, x6, x7⟩], true, by go_num, rfl, hlt, by have := HO.out; simp at this ⊢; omega, by rw [Hins.out, HE.out]; simp only [List.append_assoc], Hown7.out, Hb7.out⟩
      · have hl2 : lessK ⟨y2, y3, y4⟩ ⟨x2, x3, x4⟩ = false := hl
        have CL := Lib.hid (CL.out _ hl2)
        have HE := Lib.hid he
        clear he hl hl2
        go_wp2_with fail
        refine wp_below_tail 13 (by kernel_rfl) (by kernel_rfl) ?_
        simp only [List.take_succ_cons, List.take_zero, List.drop_succ_cons, List.drop_zero]
        repeat (go_big_quiet_step (first | exact CK.out _ _ _ _ _ _ _ _ _ _ | exact CL.out _ _))
        refine wpQuiet_nil ?_
        rintro w5 ⟨⟨dq, osq⟩, rfl⟩
        have hb5 := below_regrown wr dq osq
        generalize grow (redrawn wr dq) osq = w5 at *
        have hh5 := HhR.out.below hb5 HhR.out.lt
        have hR5 := HRR.out.keep hb5
        have Hown5 := Lib.hid (Hown.out.below hb5)
        have Hb5 := Lib.hid (Hb.out.trans (hb5.mono Hb.out.size))
        have hcp := hR5.cell
        obtain ⟨g', c', hv, z0, z1, z2, z3, z4, z5, z6⟩ := hR5.row k hlt
        rw [HX.out] at z0 z1 z2 z3 z4 z5 z6
        injection hv with hA hn hcap
        injection hA with hA
        injection hA with hA
        subst hA hcap
        simp only at z0 z1 z2 z3 z4 z5 z6
        obtain ⟨a0, a1, a2, a3, a4, a5, a6, -⟩ := hh5.both7
        have HR5 := Lib.hid hR5
        clear hn hb5 hR5 hh5
        go_wp2_with (at_builtin; (refine app_row Hd.cells (fun _ => rfl) (by decide) (bytes := 56) (by decide) infoHd rfl Try.underlying34 onesH (by rfl) _ _ (by rfl) w4.heap.size _ (O) (by rfl) (Hown5.out.alloc _) w5.heap.size ⟨x1, x2, x3, x4, x5, x6, x7⟩ (by rfl) (Blk.new _ _ _) (by have := HO.out; simp at this ⊢; omega) (by have := Hb5.out.size; simp; omega) ?_); intro v6 w6 hown6 hg6 hor6; have Hown6 := Lib.hid hown6; have Hb6 := Lib.hid ((Hb5.out.alloc Hb5.out.size _).grown hg6 (by have := Hb5.out.size; simp; omega) (fun j hj => (Hown5.out.block j hj).1)); clear hown6 hg6 hor6)
        go_roundw
        case measure => simp [intOf]; omega
        case rel => exact ⟨k + 1, O ++ [⟨x1, x2, x3, x4, x5, x6, x7⟩], false, by go_num, rfl, hlt, by have := HO.out; simp at this ⊢; omega, by rw [Hins.out, HE.out, List.append_assoc], Hown6.out, Hb6.out⟩
    · have hkk : k = L.length := by omega
      subst hkk
      rw [List.drop_length, insRest_end] at hins
      have hh4 := hh4.both7
      obtain ⟨a0, a1, a2, a3, a4, a5, a6, -⟩ := hh4
      have HRR := Lib.hid hR4
      have hfz := hR4.ptr.frozen 0
      have Hb0 := Lib.hid (Hb4.out.trans (Hb.out.mono Hb4.out.size))
      cases D
      · simp only [Bool.false_eq_true, if_false] at hins
        have Hins := Lib.hid hins
        clear hins hown hb hO hR4 hk4
        go_wp2_with (at_builtin; (refine app_row Hd.cells (fun _ => rfl) (by decide) (bytes := 56) (by decide) infoHd rfl Try.underlying34 onesH (by rfl) _ _ (by rfl) w4.heap.size _ O (by rfl) (Hown.out.alloc _) wr.heap.size ⟨y1, y2, y3, y4, y5, y6, y7⟩ (by rfl) (Blk.new _ _ _) (by have := HO.out; simp at this; omega) (by have := Hb.out.size; simp; omega) ?_); intro v6 w6 hown6 hg6 hor6; obtain ⟨A9, c9, hv9⟩ := hown6.shape; rw [List.length_append, List.length_singleton] at hv9; subst hv9; have Hown6 := Lib.hid hown6; have Hb6 := Lib.hid ((Hb.out.alloc Hb.out.size _).grown hg6 (by have := Hb.out.size; simp; omega) (fun j hj => (Hown.out.block j hj).1)); have hR6 := HR4.out.keep Hb6.out; have hcp6 := hR6.cell; have hfz6 := hR6.ptr.frozen 0; have HR6 := Lib.hid hR6; clear hown6 hg6 hor6 hR6 hcp hfz)
        refine bodyPost_end (results_none rfl _ _ _) rfl ?_
        rw [Hins.out]
        exact ⟨rfl, rw_end HR4.out Hb4.out Hown6.out Hb6.out⟩
      · simp only [if_true, List.append_nil] at hins
        have Hins := Lib.hid hins
        clear hins hown hb hO hR4 hk4
        go_wp2
        refine bodyPost_end (results_none rfl _ _ _) rfl ?_
        rw [Hins.out]
        exact ⟨rfl, rw_end HR4.out Hb4.out Hown.out Hb.out⟩

end Go.Proofs.Ytannngcdphafdaa
