/-
  Layer 16: keys are put on a list, and acknowledged.
-/
import Derived.Test.YtfhikkmgclkcdaaRxOps
namespace Go.Proofs.Ytfhikkmgclkcdaa
open Go.RowKit

def addAll (R : List E5) (lan id : Int) (ks : List K3) : List E5 := ks.foldl (fun R k => addR R ⟨lan, id, k⟩) R
theorem addR_len (R : List E5) (e : E5) : (addR R e).length ≤ R.length + 1 := by unfold addR; split <;> simp
theorem addAll_len (R : List E5) (lan id : Int) (ks : List K3) : (addAll R lan id ks).length ≤ R.length + ks.length := by
  induction ks generalizing R with
  | nil => exact Nat.le_refl _
  | cons k ks ih =>
    have h1 := ih (addR R ⟨lan, id, k⟩)
    have h2 := addR_len R ⟨lan, id, k⟩
    simp only [addAll, List.foldl_cons, List.length_cons] at h1 ⊢
    omega
theorem addAll_take (R : List E5) (lan id : Int) (ks : List K3) (k : Nat) (hk : k < ks.length) : addAll R lan id (ks.take (k + 1)) = addR (addAll R lan id (ks.take k)) ⟨lan, id, ks[k]⟩ := by
  unfold addAll
  rw [List.take_succ_eq_append_getElem hk, List.foldl_append]
  rfl
theorem RxAt.drew {w : World} {p b : Nat} {R : List E5} (h : RxAt w p b R) : RxAt w.drew p b R := ⟨h.ptr, h.map⟩
theorem RxAt.drewN {w : World} {p b : Nat} {R : List E5} (h : RxAt w p b R) (n : Nat) : RxAt (w.drewN n) p b R := ⟨h.ptr, h.map⟩
theorem RxAt.alloc {w : World} {p b : Nat} {R : List E5} (h : RxAt w p b R) (o : Obj) : RxAt (w.alloc o) p b R := ⟨h.ptr.alloc o, h.map.alloc o⟩
theorem RxAt.ne {w : World} {p b : Nat} {R : List E5} (h : RxAt w p b R) : p ≠ b := by
  intro e
  obtain ⟨es, clock, hb, -⟩ := h.map
  have hp := h.ptr
  unfold Blk at hp
  rw [e, hb] at hp
  cases hp
theorem RxAt.turned {w w' : World} {p b : Nat} {R R' : List E5} (h : RxAt w p b R) (hg : w.grownBy w' (some b)) (hm : MapAt E5.enc w' b (rxL R')) : RxAt w' p b R' :=
  ⟨h.ptr.grown hg (fun e => h.ne (by injection e)), hm⟩
/-- what grew behind draws -/
theorem grown_drewN {w w' : World} {n : Nat} {row : Option Nat} (h : (w.drewN n).grownBy w' row) : w.grownBy w' row := ⟨h.os, h.tape, h.output, h.size, h.block⟩
theorem grown_alloc {w w' : World} {o : Obj} {row : Option Nat} (h : (w.alloc o).grownBy w' row) : w.grownBy w' row :=
  ⟨h.os, h.tape, h.output, by have := h.size; simp at this; omega, fun i hi hne => (h.block i (by simp; omega) hne).trans (Below.heap_alloc w o i hi)⟩
theorem grown_below {w w' w'' : World} {row : Option Nat} (h : w.grownBy w' row) (hb : Below w'.heap.size w' w'') : w.grownBy w'' row := only_below h hb h.size
theorem below_grown {w w' w'' : World} {row : Option Nat} (hb : Below w.heap.size w w') (h : w'.grownBy w'' row) : w.grownBy w'' row :=
  ⟨h.os.trans hb.os, h.tape.trans hb.tape, h.output.trans hb.output, Nat.le_trans hb.size h.size, fun i hi hne => (h.block i (Nat.lt_of_lt_of_le hi hb.size) hne).trans (hb.block i hi)⟩
theorem grown_trans {a c d : World} {row : Option Nat} (h : a.grownBy c row) (k : c.grownBy d row) : a.grownBy d row :=
  ⟨k.os.trans h.os, k.tape.trans h.tape, k.output.trans h.output, Nat.le_trans h.size k.size, fun i hi hne => (k.block i (Nat.lt_of_lt_of_le hi h.size) hne).trans (h.block i hi hne)⟩

theorem row_k3 {w : World} {B : Nat} {A : Option Addr} {l : List K3} (h : RowsAt 3 K3.cells w B A l) (k : Nat) (hk : k < l.length) :
    ∃ b o, A = some ⟨b, o, none⟩ ∧ w.cell? ⟨b, o + k * 3, none⟩ = some (.int .i64 l[k].kind) ∧ w.cell? ⟨b, o + k * 3 + 1, none⟩ = some (.int .i64 l[k].id) ∧ w.cell? ⟨b, o + k * 3 + 2, none⟩ = some (.int .i64 l[k].adv) := by
  obtain ⟨b, o, e, _, hc⟩ := h (by omega)
  exact ⟨b, o, e, by simpa using hc k hk 0 _ (by omega) rfl, hc k hk 1 _ (by omega) rfl, hc k hk 2 _ (by omega) rfl⟩

theorem row_k3_at {w : World} {B g o : Nat} {l : List K3} (h : RowsAt 3 K3.cells w B (some ⟨g, o, none⟩) l) (k : Nat) (hk : k < l.length) :
    w.cell? ⟨g, o + k * 3, none⟩ = some (.int .i64 l[k].kind) ∧ w.cell? ⟨g, o + k * 3 + 1, none⟩ = some (.int .i64 l[k].id) ∧ w.cell? ⟨g, o + k * 3 + 2, none⟩ = some (.int .i64 l[k].adv) := by
  obtain ⟨b0, o0, e, h1⟩ := row_k3 h k hk
  injection e with e
  injection e with e1 e2
  subst e1 e2
  exact h1
theorem rows_grown {α : Type} {C : Nat} {cells : α → List Value} {w : World} {B b : Nat} {A : Option Addr} {M : List α} (h : RowsAt C cells w B A M) (hB : B ≤ w.heap.size) (hne : ∀ g o, A = some ⟨g, o, none⟩ → g < B → g ≠ b) : ∀ W, w.grownBy W (some b) → RowsAt C cells W B A M := by
  intro W hg h0
  obtain ⟨b1, o1, e, hb1, hc⟩ := h h0
  refine ⟨b1, o1, e, hb1, fun k hk i u hi hu => ?_⟩
  have := hg.block b1 (by omega) (fun e2 => hne b1 o1 e hb1 (by injection e2))
  rw [← hc k hk i u hi hu]
  simp [World.cell?, this]
set_option maxHeartbeats 2000000 in
set_option maxRecDepth 100000 in
theorem Put_of (hS : SortsK) (p b : Nat) (R : List E5) (lan id : Int) (A : Option Addr) (cap : Nat) (ks : List K3) (w : World) (hR : RxAt w p b R) (B : Nat) (hks : ∀ W, w.grownBy W (some b) → RowsAt 3 K3.cells W B A ks) (hlen : R.length + ks.length ≤ 2 ^ 20) (n : Nat) (hn : n = ks.length) :
    Calls Try.prog 43 #[.pointer (some ⟨p, 0, none⟩), .int .i64 lan, .int .i64 id, .slice A n cap] w fun r w' =>
      r = .returned (.int .i64 (listK (addAll R lan id ks) lan id).length) ∧ RxAt w' p b (addAll R lan id ks) ∧ w.grownBy w' (some b) := by
  subst hn
  have HR := Lib.hid hR
  have Hks := Lib.hid hks
  have hall := addAll_len R lan id ks
  have Hall := Lib.hid hall
  have HS := Lib.hid hS
  clear hR hks hall hS
  go_enter Try.func43, Try.ntmps43
  go_wp2
  go_loopw [15] (fun i wr => ∃ k : Nat, k ≤ ks.length ∧ i = .int .i64 k ∧ RxAt wr p b (addAll R lan id (ks.take k)) ∧ w.grownBy wr (some b)) (fun i _ => ks.length - (intOf i).toNat)
  case atStart => exact ⟨0, Nat.zero_le _, rfl, HR.out, World.grownBy.refl _ _⟩
  case round =>
    obtain ⟨k, hk, rfl, hrx, hg⟩ := hrel
    by_cases hlt : k < ks.length
    · have hkeep := Hks.out wr hg
      obtain ⟨b1, o1, rfl, x0, x1, x2⟩ := row_k3 hkeep k hlt
      have hz := addAll_take R lan id ks k hlt
      have HZ := Lib.hid hz
      have hkl : (k : Int) < (ks.length : Int) := by omega
      clear hkeep hz
      generalize ks[k] = c at *
      obtain ⟨c1, c2, c3⟩ := c
      have hcell := hrx.ptr.cell 0
      simp only [List.getElem?_toArray, List.getElem?_cons_zero] at hcell x0 x1 x2
      have hplt := hrx.ptr.lt
      have Hrx := Lib.hid hrx
      have Hg := Lib.hid hg
      clear hrx hg
      go_wp2_with fail
      refine wp_drew_tail 8 (by kernel_rfl) (by kernel_rfl) ?_
      simp only [List.take_succ_cons, List.take_zero, List.drop_succ_cons, List.drop_zero]
      repeat (go_big_quiet_step (fail))
      refine wpQuiet_nil ?_
      rintro w3 ⟨dq, rfl⟩
      have HM := Lib.hid (((Hrx.out.alloc (.cells #[.int .i64 c1, .int .i64 c2, .int .i64 c3] 61)).drewN dq).map)
      go_wp2_with (at_mapUpdate; (refine wpList_update_st _ (by rfl) _ _ _ 160 (by rfl) 164 3 keyE5 Try.underlying160 (by rfl) HM.out ⟨lan, id, ⟨c1, c2, c3⟩⟩ (by rfl) (.int .i64 1) (by rfl) ?_); intro w4 hm4 hg4 hs4; have Hm4 := Lib.hid hm4; have Hg4 := Lib.hid hg4; clear hm4 hg4 hs4)
      have hm4 := Hm4.out
      rw [setL_rx] at hm4
      have Hrx4 := Lib.hid (((Hrx.out.alloc (.cells #[.int .i64 c1, .int .i64 c2, .int .i64 c3] 61)).drewN dq).turned Hg4.out hm4)
      have Hg5 := Lib.hid (grown_trans Hg.out (grown_alloc (grown_drewN Hg4.out)))
      clear hm4
      go_wp2
      go_roundw
      case measure => simp [intOf]; omega
      case rel => exact ⟨k + 1, hlt, by go_num, by rw [HZ.out]; exact Hrx4.out, Hg5.out⟩
    · have hkk : k = ks.length := by omega
      subst hkk
      rw [List.take_length] at hrx
      have Hrx := Lib.hid hrx
      have Hg := Lib.hid hg
      clear hrx hg
      go_wp2_with (go_at_call 47; (with_reducible refine Calls.mono (Len_of HS.out p b _ lan id _ Hrx.out (Nat.le_trans Hall.out hlen)) ?_); rintro r w2 ⟨rfl, hb2⟩; have Hb2 := Lib.hid hb2; clear hb2)
      go_ret
      exact ⟨rfl, Hrx.out.keep Hb2.out, grown_below Hg.out Hb2.out⟩
set_option maxHeartbeats 1000000 in
theorem Put_nil (lan id : Int) (x : Value) (w : World) :
    Calls Try.prog 43 #[.pointer none, .int .i64 lan, .int .i64 id, x] w fun r w' => r = .returned (.int .i64 0) ∧ Below w.heap.size w w' := by
  go_enter Try.func43, Try.ntmps43
  go_wp2
  go_ret
  exact ⟨rfl, Below.refl _ _⟩

set_option maxHeartbeats 2000000 in
set_option maxRecDepth 100000 in
theorem Ack_any (p b : Nat) (R : List E5) (lan id k1 k2 k3 : Int) (w : World) (hR : RxAt w p b R) :
    Calls Try.prog 45 #[.pointer (some ⟨p, 0, none⟩), .int .i64 lan, .int .i64 id, .agg #[.int .i64 k1, .int .i64 k2, .int .i64 k3]] w fun r w' =>
      r = .returned (.bool (onB16 R ⟨lan, id, ⟨k1, k2, k3⟩⟩)) ∧ RxAt w' p b (R.filter fun x => decide (x ≠ ⟨lan, id, ⟨k1, k2, k3⟩⟩)) ∧ w.grownBy w' (some b) := by
  have hk : Blk (w.alloc (.cells #[.int .i64 k1, .int .i64 k2, .int .i64 k3] 61)) w.heap.size 61 #[.int .i64 k1, .int .i64 k2, .int .i64 k3] := Blk.new w _ _
  have hR1 := hR.alloc (.cells #[.int .i64 k1, .int .i64 k2, .int .i64 k3] 61)
  have Hon := Lib.hid (On_any p b R lan id k1 k2 k3 _ hR1)
  have Hk := Lib.hid hk
  have HR1 := Lib.hid hR1
  have hplt := hR.ptr.lt
  clear hk hR1 hR
  have Hno := Lib.hid (fun (h : onB16 R ⟨lan, id, ⟨k1, k2, k3⟩⟩ = false) => show R.filter (fun x => decide (x ≠ ⟨lan, id, ⟨k1, k2, k3⟩⟩)) = R from List.filter_eq_self.2 fun x hx => by
    have : (⟨lan, id, ⟨k1, k2, k3⟩⟩ : E5) ∉ R := by simpa [onB16] using h
    simpa using fun e => this (by rw [← e]; exact hx))
  have Hb1 := Lib.hid ((Below.refl w.heap.size w).alloc (Nat.le_refl _) (.cells #[.int .i64 k1, .int .i64 k2, .int .i64 k3] 61))
  cases hon : onB16 R ⟨lan, id, ⟨k1, k2, k3⟩⟩
  · rw [Hno.out hon]
    have Hon' := Lib.hid hon
    clear hon
    go_enter Try.func45, Try.ntmps45
    go_wp2_with (go_at_call 48; (with_reducible refine Calls.mono Hon.out ?_); rw [Hon'.out]; rintro r w2 ⟨rfl, hb2⟩; have Hb2 := Lib.hid hb2; clear hb2)
    go_ret
    exact ⟨rfl, HR1.out.keep Hb2.out, below_grown Hb1.out (grown_below (World.grownBy.refl _ _) Hb2.out)⟩
  · have Hon' := Lib.hid hon
    clear hon
    go_enter Try.func45, Try.ntmps45
    go_wp2_with (go_at_call 48; (with_reducible refine Calls.mono Hon.out ?_); rw [Hon'.out]; rintro r w2 ⟨rfl, hb2⟩; have Hb2 := Lib.hid hb2; have hk2 := Hk.out.below hb2 (by simp); have hR2 := HR1.out.keep hb2; have z3 := hR2.ptr.cell 0; obtain ⟨z0, z1, z2⟩ : _ ∧ _ ∧ _ := ⟨hk2.cell 0, hk2.cell 1, hk2.cell 2⟩; simp only [List.getElem?_toArray, List.getElem?_cons_zero, List.getElem?_cons_succ] at z0 z1 z2 z3; have HR2 := Lib.hid hR2; clear hb2 hk2 hR2)
    refine wp_drew_tail 8 (by kernel_rfl) (by kernel_rfl) ?_
    simp only [List.take_succ_cons, List.take_zero, List.drop_succ_cons, List.drop_zero]
    repeat (go_big_quiet_step (fail))
    refine wpQuiet_nil ?_
    rintro w3 ⟨dq, rfl⟩
    have HM := Lib.hid (HR2.out.drewN dq).map
    go_wp2_with (at_delete; (refine wpList_delete_st _ (by rfl) _ _ 160 164 (by rfl) 3 keyE5 Try.underlying160 (by rfl) HM.out ⟨lan, id, ⟨k1, k2, k3⟩⟩ (by rfl) ?_); intro w4 hm4 hg4 hs4; have Hm4 := Lib.hid hm4; have Hg4 := Lib.hid hg4; clear hm4 hg4 hs4)
    go_ret
    have hm4 := Hm4.out
    rw [dropL_rx] at hm4
    exact ⟨rfl, (HR2.out.drewN dq).turned Hg4.out hm4, below_grown (Hb1.out.trans (Hb2.out.mono (by simp))) (grown_drewN Hg4.out)⟩

end Go.Proofs.Ytfhikkmgclkcdaa
