/-
  Layer 16: lists are emptied; a key is dropped; whether it is on a list.
-/
import Derived.Test.YtfhikkmgclkcdaaRxRem
namespace Go.Proofs.Ytfhikkmgclkcdaa
open Go.RowKit

def dropB (k : K3) (e : E5) : Bool := decide (e.k = k)
theorem call_forget1 (xs : Array Value) (w : World) : (callFunc 96 xs).run Try.prog w = .ok (.enter 96 xs) w := callOf Try.func96 rfl (by kernel_rfl) xs w
theorem call_drop1 (xs : Array Value) (w : World) : (callFunc 97 xs).run Try.prog w = .ok (.enter 97 xs) w := callOf Try.func97 rfl (by kernel_rfl) xs w
set_option maxHeartbeats 1000000 in
theorem forget1_any (e1 e2 k1 k2 k3 lan id : Int) (g : Nat) (w : World) (h1 : Blk w g 3 #[.int .i64 lan]) (h2 : Blk w (g + 1) 3 #[.int .i64 id]) :
    Calls Try.prog 96 #[.agg #[.int .i64 e1, .int .i64 e2, .int .i64 k1, .int .i64 k2, .int .i64 k3], .pointer (some ⟨g, 0, none⟩), .pointer (some ⟨g + 1, 0, none⟩)] w fun e w' => e = .returned (.bool (hereB lan id ⟨e1, e2, ⟨k1, k2, k3⟩⟩)) ∧ Below w.heap.size w w' := by
  have z1 := fun o => (h1.alloc o).cell 0
  have z2 := fun o => (h2.alloc o).cell 0
  simp only [List.getElem?_toArray, List.getElem?_cons_zero] at z1 z2
  have Hb := Lib.hid (fun o => (Below.refl w.heap.size w).alloc (Nat.le_refl _) o)
  have l1 := h1.lt
  have l2 := h2.lt
  clear h1 h2
  rcases here_cases lan id ⟨e1, e2, ⟨k1, k2, k3⟩⟩ with ⟨t0, t1⟩ | ⟨t0, t1, t2⟩ | ⟨t0, t1, t2⟩
  all_goals
    rw [t0]
    clear t0
    simp only at t1
    try simp only at t2
    go_enter Try.func96, Try.ntmps96
    go_wp2
    go_ret
    exact ⟨rfl, Hb.out _⟩
set_option maxHeartbeats 1000000 in
theorem drop1_any (e1 e2 k1 k2 k3 x1 x2 x3 : Int) (g : Nat) (w : World) (h1 : Blk w g 61 #[.int .i64 x1, .int .i64 x2, .int .i64 x3]) :
    Calls Try.prog 97 #[.agg #[.int .i64 e1, .int .i64 e2, .int .i64 k1, .int .i64 k2, .int .i64 k3], .pointer (some ⟨g, 0, none⟩)] w fun e w' => e = .returned (.bool (dropB ⟨x1, x2, x3⟩ ⟨e1, e2, ⟨k1, k2, k3⟩⟩)) ∧ Below w.heap.size w w' := by
  have z0 := fun o => (h1.alloc o).cell 0
  have z1 := fun o => (h1.alloc o).cell 1
  have z2 := fun o => (h1.alloc o).cell 2
  simp only [List.getElem?_toArray, List.getElem?_cons_zero, List.getElem?_cons_succ] at z0 z1 z2
  have Hb := Lib.hid (fun o => (Below.refl w.heap.size w).alloc (Nat.le_refl _) o)
  have l1 := h1.lt
  clear h1
  go_enter Try.func97, Try.ntmps97
  go_wp2
  all_goals
    go_ret
    refine ⟨?_, Hb.out _⟩
    simp [dropB, *]
set_option maxHeartbeats 1000000 in
theorem Forget_of (p b : Nat) (R : List E5) (lan id : Int) (w : World) (hR : RxAt w p b R) (hlen : R.length ≤ 2 ^ 20) :
    Calls Try.prog 49 #[.pointer (some ⟨p, 0, none⟩), .int .i64 lan, .int .i64 id] w fun r w' => r = .returned (.int .i64 (R.filter (hereB lan id)).length) ∧ RxAt w' p b (R.filter fun x => !hereB lan id x) ∧ w.grownBy w' (some b) := by
  obtain ⟨w0, hW0⟩ : ∃ w0, (w.alloc (.cells #[.int .i64 lan] 3)).alloc (.cells #[.int .i64 id] 3) = w0 := ⟨_, rfl⟩
  have hR0 : RxAt w0 p b R := by rw [← hW0]; exact (hR.alloc _).alloc _
  have h1 : Blk w0 w.heap.size 3 #[.int .i64 lan] := by rw [← hW0]; exact (Blk.new w _ _).alloc _
  have h2 : Blk w0 (w.heap.size + 1) 3 #[.int .i64 id] := by rw [← hW0]; exact Blk.size (by simp)
  have hb0 : Below w.heap.size w w0 := by rw [← hW0]; exact ((Below.refl _ _).alloc (Nat.le_refl _) _).alloc (by simp) _
  have hbl := hR.map.lt
  have H := remove_of 96 #[.pointer (some ⟨w.heap.size, 0, none⟩), .pointer (some ⟨w.heap.size + 1, 0, none⟩)] call_forget1 (hereB lan id) p b R w0 hR0 hlen (fun W hW e1 e2 k1 k2 k3 => forget1_any e1 e2 k1 k2 k3 lan id w.heap.size W (h1.grown hW (fun e => by injection e with e; omega)) (h2.grown hW (fun e => by injection e with e; omega)))
  have H := Lib.hid H
  have Hb0 := Lib.hid hb0
  clear hR0 h1 h2 hb0 hR
  go_enter Try.func49, Try.ntmps49
  go_wp2_with (go_at_call 95; (with_reducible refine Calls.mono H.out ?_); rintro r w2 ⟨rfl, hR2, hg2⟩; have HR2 := Lib.hid hR2; have Hg2 := Lib.hid (below_grown Hb0.out hg2); clear hR2 hg2)
  go_ret
  exact ⟨rfl, HR2.out, Hg2.out⟩
set_option maxHeartbeats 1000000 in
theorem Drop_of (p b : Nat) (R : List E5) (k1 k2 k3 : Int) (w : World) (hR : RxAt w p b R) (hlen : R.length ≤ 2 ^ 20) :
    Calls Try.prog 50 #[.pointer (some ⟨p, 0, none⟩), .agg #[.int .i64 k1, .int .i64 k2, .int .i64 k3]] w fun r w' => r = .returned (.int .i64 (R.filter (dropB ⟨k1, k2, k3⟩)).length) ∧ RxAt w' p b (R.filter fun x => !dropB ⟨k1, k2, k3⟩ x) ∧ w.grownBy w' (some b) := by
  obtain ⟨w0, hW0⟩ : ∃ w0, w.alloc (.cells #[.int .i64 k1, .int .i64 k2, .int .i64 k3] 61) = w0 := ⟨_, rfl⟩
  have hR0 : RxAt w0 p b R := by rw [← hW0]; exact hR.alloc _
  have h1 : Blk w0 w.heap.size 61 #[.int .i64 k1, .int .i64 k2, .int .i64 k3] := by rw [← hW0]; exact Blk.new w _ _
  have hb0 : Below w.heap.size w w0 := by rw [← hW0]; exact (Below.refl _ _).alloc (Nat.le_refl _) _
  have hbl := hR.map.lt
  have H := remove_of 97 #[.pointer (some ⟨w.heap.size, 0, none⟩)] call_drop1 (dropB ⟨k1, k2, k3⟩) p b R w0 hR0 hlen (fun W hW e1 e2 y1 y2 y3 => drop1_any e1 e2 y1 y2 y3 k1 k2 k3 w.heap.size W (h1.grown hW (fun e => by injection e with e; omega)))
  have H := Lib.hid H
  have Hb0 := Lib.hid hb0
  clear hR0 h1 hb0 hR
  go_enter Try.func50, Try.ntmps50
  go_wp2_with (go_at_call 95; (with_reducible refine Calls.mono H.out ?_); rintro r w2 ⟨rfl, hR2, hg2⟩; have HR2 := Lib.hid hR2; have Hg2 := Lib.hid (below_grown Hb0.out hg2); clear hR2 hg2)
  go_ret
  exact ⟨rfl, HR2.out, Hg2.out⟩
def hasB16 (R : List E5) (k : K3) : Bool := R.any (dropB k)
set_option maxHeartbeats 2000000 in
set_option maxRecDepth 100000 in
theorem Has_any (p b : Nat) (R : List E5) (x1 x2 x3 : Int) (w : World) (hR : RxAt w p b R) {r0 : Bool} (hr0 : hasB16 R ⟨x1, x2, x3⟩ = r0) :
    Calls Try.prog 46 #[.pointer (some ⟨p, 0, none⟩), .agg #[.int .i64 x1, .int .i64 x2, .int .i64 x3]] w fun r w' => r = .returned (.bool r0) ∧ Below w.heap.size w w' := by
  obtain ⟨w0, hW0⟩ : ∃ w0, w.alloc (.cells #[.int .i64 x1, .int .i64 x2, .int .i64 x3] 61) = w0 := ⟨_, rfl⟩
  have hR0 : RxAt w0 p b R := by rw [← hW0]; exact hR.alloc _
  have h1 : Blk w0 w.heap.size 61 #[.int .i64 x1, .int .i64 x2, .int .i64 x3] := by rw [← hW0]; exact Blk.new w _ _
  have hb0 : Below w.heap.size w w0 := by rw [← hW0]; exact (Below.refl _ _).alloc (Nat.le_refl _) _
  have hcell := hR0.ptr.cell 0
  simp only [List.getElem?_toArray, List.getElem?_cons_zero] at hcell
  have hplt := hR0.ptr.lt
  have hblt := hR.map.lt
  have hs0 : w.heap.size < w0.heap.size := h1.lt
  have HM := Lib.hid hR0.map
  have H1 := Lib.hid h1
  have Hb0 := Lib.hid hb0
  have Hr0 := Lib.hid hr0
  have Hfst := Lib.hid (fst_rxL R)
  clear hR hR0 h1 hb0 hr0
  go_enter Try.func46, Try.ntmps46
  go_wp2_with (at_range; refine wpList_range_st _ rfl _ 160 rfl 164 3 Try.underlying160 rfl HM.out ?_; intro w1 hr1 hb1 hs1; have HR := Lib.hid hr1; have Hb1 := Lib.hid hb1; clear hr1 hb1 hs1)
  go_frame
  go_loopw [4] (fun f wr => ∃ D rest, f = .bool false ∧ RangeAt E5.enc wr b w0.heap.size (rxL R) rest ∧ (D ++ fstL rest).Perm R ∧ D.any (dropB ⟨x1, x2, x3⟩) = false ∧ Below w0.heap.size w0 wr) (fun _ wr => wr.rangeLeft b w0.heap.size)
  case atStart => exact ⟨[], rxL R, rfl, HR.out, by rw [Hfst.out]; exact List.Perm.refl _, rfl, Hb1.out⟩
  case round =>
    obtain ⟨D, rest, rfl, hrg, hperm, hno, hb⟩ := hrel
    have hc1 := H1.out.below hb hs0
    obtain ⟨z0, z1, z2⟩ : _ ∧ _ ∧ _ := ⟨hc1.cell 0, hc1.cell 1, hc1.cell 2⟩
    have Hc1 := Lib.hid hc1
    have Hrg := Lib.hid hrg
    have Hperm := Lib.hid hperm
    have Hno := Lib.hid hno
    have Hb := Lib.hid hb
    clear hrg hperm hno hb z0 z1 z2 hc1
    go_wp2_with (at_next; refine wpList_next_st _ rfl _ rfl E5.enc_inj rfl Hrg.out ?_ ?_)
    · intro h0
      subst h0
      have hperm := Hperm.out
      rw [show fstL ([] : List (E5 × Value)) = [] from rfl, List.append_nil] at hperm
      have hr : r0 = false := by
        rw [← Hr0.out, ← Hno.out]
        exact (hperm.any_eq).symm
      subst hr
      clear hperm
      go_wp2
      go_ret
      exact ⟨rfl, Hb0.out.trans (Hb.out.mono Hb0.out.size)⟩
    · intro pre e ev post w2 hsplit hrg2 hg2 hs2 hen
      obtain ⟨e1, e2, k1, k2, k3⟩ := e
      have hperm2 : (D ++ [(⟨e1, e2, ⟨k1, k2, k3⟩⟩ : E5)] ++ fstL (pre ++ post)).Perm R := by
        refine List.Perm.trans ?_ Hperm.out
        rw [hsplit, List.append_assoc]
        refine List.Perm.append_left D ?_
        simp only [fstL, List.map_append, List.map_cons, List.singleton_append]
        exact List.perm_middle.symm
      have hmeas : (pre ++ post).length < rest.length := by rw [hsplit]; simp
      have hb2 : Below w0.heap.size w0 w2 := Hb.out.grown hg2 Hb.out.size (fun k hk => by injection hk with hk; omega)
      have hc2 := fun o => (H1.out.below hb2 hs0).alloc o
      have z0 := fun o => (hc2 o).cell 0
      have z1 := fun o => (hc2 o).cell 1
      have z2 := fun o => (hc2 o).cell 2
      simp only [List.getElem?_toArray, List.getElem?_cons_zero, List.getElem?_cons_succ] at z0 z1 z2
      have Hrg2 := Lib.hid hrg2
      have Hmeas := Lib.hid hmeas
      have Hperm2 := Lib.hid hperm2
      have Hb2 := Lib.hid (hb2.alloc hb2.size (.cells #[.int .i64 e1, .int .i64 e2, .int .i64 k1, .int .i64 k2, .int .i64 k3] 164))
      have hlt2 : w.heap.size < w2.heap.size := by have := hb2.size; omega
      clear hsplit hrg2 hg2 hs2 hperm2 hmeas hb2 hc2
      unfold E5.enc at hen
      by_cases hk : (⟨k1, k2, k3⟩ : K3) = ⟨x1, x2, x3⟩
      · have hr : r0 = true := by
          rw [← Hr0.out]
          unfold hasB16
          rw [List.any_eq_true]
          exact ⟨⟨e1, e2, ⟨k1, k2, k3⟩⟩, Hperm2.out.subset (by simp), by simp [dropB, hk]⟩
        subst hr
        simp only [K3.mk.injEq] at hk
        obtain ⟨rfl, rfl, rfl⟩ := hk
        go_wp2
        go_ret
        exact ⟨rfl, Hb0.out.trans (Hb2.out.mono Hb0.out.size)⟩
      · have Hno2 := Lib.hid (show (D ++ [(⟨e1, e2, ⟨k1, k2, k3⟩⟩ : E5)]).any (dropB ⟨x1, x2, x3⟩) = false by
          rw [List.any_append, Hno.out]; simpa [dropB] using hk)
        have hk3 : ¬k1 = x1 ∨ (k1 = x1 ∧ ¬k2 = x2) ∨ (k1 = x1 ∧ k2 = x2 ∧ ¬k3 = x3) := by
          simp only [K3.mk.injEq] at hk
          by_cases h1 : k1 = x1 <;> by_cases h2 : k2 = x2 <;> simp_all
        clear hk
        rcases hk3 with h | ⟨rfl, h⟩ | ⟨rfl, rfl, h⟩
        all_goals
          go_wp2
          go_roundw
          case measure => rw [(Hrg2.out.alloc _).left_eq, Hrg.out.left_eq]; exact Hmeas.out
          case rel => exact ⟨_, pre ++ post, rfl, Hrg2.out.alloc _, Hperm2.out, Hno2.out, Hb2.out⟩
set_option maxHeartbeats 1000000 in
theorem Has_nil (x1 x2 x3 : Int) (w : World) : Calls Try.prog 46 #[.pointer none, .agg #[.int .i64 x1, .int .i64 x2, .int .i64 x3]] w fun r w' => r = .returned (.bool false) ∧ Below w.heap.size w w' := by
  have Hb := Lib.hid (fun o => (Below.refl w.heap.size w).alloc (Nat.le_refl _) o)
  go_enter Try.func46, Try.ntmps46
  go_wp2
  go_ret
  exact ⟨rfl, Hb.out _⟩

end Go.Proofs.Ytfhikkmgclkcdaa
