/-
  Layer 16: a neighbor's list.
-/
import Derived.Test.YtfhikkmgclkcdaaRxPlain
import Derived.Test.YtfhikkmgclkcdaaOwnR
namespace Go.Proofs.Ytfhikkmgclkcdaa
open Go.RowKit

/-- lists in memory: the pointer's block, the map's block, the entries -/
structure RxAt (w : World) (p b : Nat) (R : List E5) : Prop where
  ptr : Blk w p 162 #[.map (some b)]
  map : MapAt E5.enc w b (rxL R)
section
variable {w w' : World} {p b : Nat} {R : List E5}
theorem RxAt.below {B : Nat} (h : RxAt w p b R) (hb : Below B w w') (h1 : p < B) (h2 : b < B) : RxAt w' p b R := ⟨h.ptr.below hb h1, h.map.below hb h2⟩
theorem RxAt.keep (h : RxAt w p b R) (hb : Below w.heap.size w w') : RxAt w' p b R := h.below hb h.ptr.lt h.map.lt
theorem RxAt.nodup (h : RxAt w p b R) : R.Nodup := by
  have := h.map.nodup
  have e : (rxL R).map (·.1) = R := fst_rxL R
  rwa [e] at this
end
def SortsK : Prop := ∀ (v : Value) (L : List K3) (B : Nat) (w : World), OwnR 61 3 K3.cells w B v L → L.length ≤ 2 ^ 20 →
  Calls Try.prog 126 #[v, .func (.func 127) #[] #[]] w fun r w' => r = .returned (.tuple #[]) ∧ OwnR 61 3 K3.cells w' B v (sortK L) ∧ w.grownBy w' v.ownBlock

theorem infoKey : (Try.prog.info? 61).map (fun i => (i.zero, i.size, i.bytes)) = some (some (.agg #[.int .i64 0, .int .i64 0, .int .i64 0]), 3, 24) := by kernel_rfl
theorem onesK (x : K3) : ∀ u ∈ K3.cells x, u.oneCell' = true := by
  intro u hu
  simp [K3.cells] at hu
  rcases hu with rfl | rfl | rfl <;> rfl
def hereB (lan id : Int) (e : E5) : Bool := e.lan == lan && e.id == id
theorem here_cases (lan id : Int) (e : E5) : (hereB lan id e = false ∧ (e.lan == lan) = false) ∨ (hereB lan id e = false ∧ (e.lan == lan) = true ∧ (e.id == id) = false) ∨ (hereB lan id e = true ∧ (e.lan == lan) = true ∧ (e.id == id) = true) := by
  unfold hereB
  cases (e.lan == lan) <;> cases (e.id == id) <;> simp
theorem keys_snoc (R : List E5) (e : E5) (lan id : Int) : keysOf (R ++ [e]) lan id = if hereB lan id e = true then keysOf R lan id ++ [e.k] else keysOf R lan id := by
  unfold keysOf hereB
  rw [List.filter_append, List.map_append]
  cases h : (e.lan == lan && e.id == id) <;> simp [h]
theorem keysOf_len (R : List E5) (lan id : Int) : (keysOf R lan id).length ≤ R.length := by
  unfold keysOf
  rw [List.length_map]
  exact List.length_filter_le _ _
theorem keys_len {D : List E5} {rest L : List (E5 × Value)} (h : (D ++ fstL rest).Perm (fstL L)) (lan id : Int) : (keysOf D lan id).length ≤ L.length := by
  have := h.length_eq
  have h2 := keysOf_len D lan id
  simp [fstL] at this
  omega

set_option maxHeartbeats 2000000 in
set_option maxRecDepth 100000 in
theorem list_of (hS : SortsK) (p b : Nat) (R : List E5) (lan id : Int) (w : World) (hR : RxAt w p b R) (hlen : R.length ≤ 2 ^ 20) :
    Calls Try.prog 94 #[.pointer (some ⟨p, 0, none⟩), .int .i64 lan, .int .i64 id] w fun r w' => ∃ v, r = .returned v ∧ OwnR 61 3 K3.cells w' w.heap.size v (listK R lan id) ∧ Below w.heap.size w w' := by
  have hcell := hR.ptr.cell 0
  simp only [List.getElem?_toArray, List.getElem?_cons_zero] at hcell
  have hplt := hR.ptr.lt
  have hblt := hR.map.lt
  have HM := Lib.hid hR.map
  have hLlen : (rxL R).length = R.length := by simp [rxL]
  have HLlen := Lib.hid hLlen
  have hfst : fstL (rxL R) = R := fst_rxL R
  have Hfst := Lib.hid hfst
  unfold SortsK at hS
  have HS := Lib.hid hS
  clear hR hLlen hfst hS
  go_enter Try.func94, Try.ntmps94
  go_wp2_with (at_range; refine wpList_range_st _ rfl _ 160 rfl 164 3 Try.underlying160 rfl HM.out ?_; intro w1 hr1 hb1 hs1; have HR := Lib.hid hr1; have Hb1 := Lib.hid hb1; clear hr1 hb1 hs1)
  go_frame
  go_loopw [7] (fun v wr => ∃ D rest, RangeAt E5.enc wr b w.heap.size (rxL R) rest ∧ (D ++ fstL rest).Perm R ∧ OwnR 61 3 K3.cells wr (w.heap.size + 1) v (keysOf D lan id) ∧ Below w.heap.size w wr) (fun _ wr => wr.rangeLeft b w.heap.size)
  case atStart => exact ⟨[], rxL R, HR.out, by rw [Hfst.out]; exact List.Perm.refl _, OwnR.nil _ _, Hb1.out⟩
  case round =>
    obtain ⟨D, rest, hrg, hperm, hown, hb⟩ := hrel
    obtain ⟨A7, c7, hv7⟩ := hown.shape
    subst hv7
    have Hrg := Lib.hid hrg
    have Hperm := Lib.hid hperm
    have Hown := Lib.hid hown
    have Hb := Lib.hid hb
    clear hrg hperm hown hb
    go_wp2_with (at_next; refine wpList_next_st _ rfl _ rfl E5.enc_inj rfl Hrg.out ?_ ?_)
    · intro h0
      subst h0
      have hperm := Hperm.out
      rw [show fstL ([] : List (E5 × Value)) = [] from rfl, List.append_nil] at hperm
      have Hl := Lib.hid (listK_perm hperm lan id)
      have hkl : (keysOf D lan id).length ≤ 2 ^ 20 := by
        have h1 := keysOf_len D lan id
        have h2 := hperm.length_eq
        omega
      have Hkl := Lib.hid hkl
      clear hperm hkl
      go_wp2_with (go_at_call 126; (with_reducible refine Calls.mono (HS.out _ _ _ _ Hown.out Hkl.out) ?_); rintro r w3 ⟨rfl, hown3, hg3⟩; have Hown3 := Lib.hid hown3; have Hg3 := Lib.hid hg3; clear hown3 hg3)
      go_ret
      refine ⟨_, rfl, ?_, ?_⟩
      · rw [← Hl.out]
        exact Hown3.out.lower (by omega)
      · exact Hb.out.grown Hg3.out Hb.out.size (fun k hk => by have := (Hown.out.block k hk).1; omega)
    · intro pre e ev post w2 hsplit hrg2 hg2 hs2 hen
      obtain ⟨e1, e2, k1, k2, k3⟩ := e
      have Hsplit := Lib.hid hsplit
      have Hrg2 := Lib.hid hrg2
      have Hown2 := Lib.hid (Hown.out.kept hg2 (by
        cases hv : (Value.slice A7 (keysOf D lan id).length c7).ownBlock with
        | none => exact .inl rfl
        | some k => right; intro e; have := (Hown.out.block k hv).1; injection e with e; omega))
      have Hb2 := Lib.hid (Hb.out.grown hg2 Hb.out.size (fun k hk => by injection hk with hk; omega))
      clear hsplit hrg2 hg2 hs2
      unfold E5.enc at hen
      have hkeys := keys_snoc D ⟨e1, e2, ⟨k1, k2, k3⟩⟩ lan id
      have hperm2 : (D ++ [(⟨e1, e2, ⟨k1, k2, k3⟩⟩ : E5)] ++ fstL (pre ++ post)).Perm R := by
        refine List.Perm.trans ?_ Hperm.out
        rw [Hsplit.out, List.append_assoc]
        refine List.Perm.append_left D ?_
        simp only [fstL, List.map_append, List.map_cons, List.singleton_append]
        exact List.perm_middle.symm
      have hmeas : (pre ++ post).length < rest.length := by rw [Hsplit.out]; simp
      have hD : (keysOf D lan id).length + 1 ≤ 2 ^ 30 := by
        have h1 := keysOf_len D lan id
        have h2 := Hperm.out.length_eq
        rw [List.length_append] at h2
        omega
      have HD := Lib.hid hD
      have Hmeas := Lib.hid hmeas
      have Hperm2 := Lib.hid hperm2
      clear hperm2 hmeas hD
      rcases here_cases lan id ⟨e1, e2, ⟨k1, k2, k3⟩⟩ with ⟨t0, t1⟩ | ⟨t0, t1, t2⟩ | ⟨t0, t1, t2⟩
      · rw [t0] at hkeys
        have Hkeys := Lib.hid hkeys
        clear hkeys t0
        simp only at t1
        go_wp2
        go_roundw
        case measure => rw [(Hrg2.out.alloc _).left_eq, Hrg.out.left_eq]; exact Hmeas.out
        case rel =>
          refine ⟨D ++ [⟨e1, e2, ⟨k1, k2, k3⟩⟩], pre ++ post, Hrg2.out.alloc _, Hperm2.out, ?_, Hb2.out.alloc Hb2.out.size _⟩
          rw [Hkeys.out]; exact Hown2.out.alloc _
      · rw [t0] at hkeys
        have Hkeys := Lib.hid hkeys
        clear hkeys t0
        simp only at t1 t2
        go_wp2
        go_roundw
        case measure => rw [(Hrg2.out.alloc _).left_eq, Hrg.out.left_eq]; exact Hmeas.out
        case rel =>
          refine ⟨D ++ [⟨e1, e2, ⟨k1, k2, k3⟩⟩], pre ++ post, Hrg2.out.alloc _, Hperm2.out, ?_, Hb2.out.alloc Hb2.out.size _⟩
          rw [Hkeys.out]; exact Hown2.out.alloc _
      · rw [t0] at hkeys
        have Hkeys := Lib.hid hkeys
        clear hkeys t0
        simp only at t1 t2
        have Hbk := Lib.hid (show ∀ o, Blk ((w2.alloc o).alloc (.cells #[.int .i64 k1, .int .i64 k2, .int .i64 k3] 61)) (w2.heap.size + 1) 61 (K3.cells ⟨k1, k2, k3⟩).toArray from fun o => by
          exact Blk.size (w := w2.alloc o) (by simp))
        have Hsz2 := Lib.hid (show ∀ o o', w.heap.size + 1 ≤ ((w2.alloc o).alloc o').heap.size from fun o o' => by
          have h2 := Hrg2.out.lt
          simp
          omega)
        go_wp2_with (at_builtin; refine app_row K3.cells (fun _ => rfl) (by decide) (bytes := 24) (by decide) infoKey rfl Try.underlying81 onesK rfl _ _ rfl (w.heap.size + 1) _ (keysOf D lan id) rfl ((Hown2.out.alloc _).alloc _) (w2.heap.size + 1) ⟨k1, k2, k3⟩ rfl (Hbk.out _) HD.out (Hsz2.out _ _) ?_; intro v5 w5 hown5 hg5 hor5; have Hown5 := Lib.hid hown5; have Hg5 := Lib.hid hg5; clear hown5 hg5 hor5)
        have hne : ∀ j, (Value.slice A7 (keysOf D lan id).length c7).ownBlock = some j → w.heap.size + 1 ≤ j := fun j hj => (Hown2.out.block j hj).1
        have hrg5 : RangeAt E5.enc w5 b w.heap.size (rxL R) (pre ++ post) := ((Hrg2.out.alloc _).alloc _).grown Hg5.out (fun e => by have := hne b e.symm; omega) (fun e => by have := hne _ e.symm; omega)
        have Hrg5 := Lib.hid hrg5
        have hb5 : Below w.heap.size w w5 := ((Hb2.out.alloc Hb2.out.size _).alloc (by have := Hb2.out.size; simp; omega) _).grown Hg5.out (by have := Hb2.out.size; simp; omega) (fun j hj => by have := hne j hj; omega)
        have Hb5 := Lib.hid hb5
        clear hne hrg5 hb5
        go_wp2
        go_roundw
        case measure => rw [Hrg5.out.left_eq, Hrg.out.left_eq]; exact Hmeas.out
        case rel =>
          refine ⟨D ++ [⟨e1, e2, ⟨k1, k2, k3⟩⟩], pre ++ post, Hrg5.out, Hperm2.out, ?_, Hb5.out⟩
          rw [Hkeys.out]; exact Hown5.out

end Go.Proofs.Ytfhikkmgclkcdaa
