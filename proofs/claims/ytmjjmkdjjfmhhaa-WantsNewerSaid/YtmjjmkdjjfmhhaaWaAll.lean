/-
  Layer 15: all that is wanted, in order, and what is asked for.
-/
import Derived.Test.YtmjjmkdjjfmhhaaGenSort
import Derived.Test.YtmjjmkdjjfmhhaaLaySortHead
import Derived.Test.YtmjjmkdjjfmhhaaWaCmp
import Derived.Test.YtmjjmkdjjfmhhaaWaAdd
namespace Go.Proofs.Ytmjjmkdjjfmhhaa
open Go.RowKit Go.Sort Go.Proofs

instance : Inhabited Hd := ⟨zeroHd⟩
theorem infoHd : (Try.prog.info? 23).map (fun i => (i.zero, i.size, i.bytes)) = some (some (.agg #[.int .i64 0, .int .i64 0, .int .i64 0, .int .i64 0, .int .i64 0, .int .i64 0, .int .i64 0]), 7, 56) := by kernel_rfl
theorem onesH (x : Hd) : ∀ u ∈ Hd.cells x, u.oneCell' = true := by
  intro u hu
  simp [Hd.cells] at hu
  rcases hu with rfl | rfl | rfl | rfl | rfl | rfl | rfl <;> rfl
abbrev OwnH (w : World) (B : Nat) (v : Value) (L : List Hd) : Prop := OwnR 23 7 Hd.cells w B v L
theorem ltOf_H : ltOf cmpH = fun a b => lessK (keyH a) (keyH b) := by
  funext a b
  exact cmpK_less _ _
theorem swoH : SWO (ltOf cmpH) := by
  rw [ltOf_H]
  exact { irrefl := fun _ => lessK_irr _, trans := fun _ _ _ h1 h2 => lessK_trans h1 h2, ntrans := fun _ _ _ h1 h2 => lessK_ntrans h1 h2 }
theorem call_allCmp (xs : Array Value) (w : World) : (callFunc 112 xs).run Try.prog w = .ok (.enter 112 xs) w := callOf Try.func112 rfl (by kernel_rfl) xs w
theorem sortH_of (v : Value) (M L : List Hd) (B : Nat) (w : World) (hown : OwnH w B v M) (hlen : M.length ≤ 2 ^ 20) (hp : M.Perm L) (hs : sortedH L) :
    Calls Try.prog 111 #[v, .func (.func 112) #[] #[]] w fun r w' => r = .returned (.tuple #[]) ∧ OwnH w' B v L ∧ w.grownBy w' v.ownBlock := by
  have h := sort_row Try.sortHead (C := 7) Try.isAgg23 Try.sizeOf23 Hd.cells (fun _ => rfl) onesH cmpH swoH 112 call_allCmp (fun x y w => allCmp_any x y w) v M B w hown hlen
  change Calls Try.prog 111 _ _ _ at h
  refine h.mono ?_
  rintro r w' ⟨rfl, N, hN, hpN, hsN, hg⟩
  rw [ltOf_H] at hsN
  have hkeys : (N.map keyH).Nodup := ((hpN.trans hp).map keyH).nodup_iff.2 hs.keys
  have hNs : sortedH N := by
    unfold sortedH
    rw [List.Nodup, List.pairwise_map] at hkeys
    refine (hsN.and hkeys).imp fun {a b} ⟨h1, h2⟩ => ?_
    cases h3 : lessK (keyH a) (keyH b) with
    | true => rfl
    | false => exact absurd (lessK_tot h3 h1) h2
  rw [sortedH_one (hpN.trans hp) hNs hs] at hN
  exact ⟨rfl, hN, hg⟩

theorem waL_split {R : List Hd} {pre post : List (K3 × Value)} {e : K3 × Value} (h : waL R = pre ++ e :: post) : ∃ P h' Q, R = P ++ h' :: Q ∧ pre = waL P ∧ post = waL Q ∧ e = (keyH h', aggH h') := by
  unfold waL at h
  obtain ⟨P, q, rfl, h1, h2⟩ := List.map_eq_append_iff.1 h
  obtain ⟨h', Q, rfl, h3, h4⟩ := List.map_eq_cons_iff.1 h2
  exact ⟨P, h', Q, rfl, h1.symm, h4.symm, h3.symm⟩
theorem waL_append (P Q : List Hd) : waL P ++ waL Q = waL (P ++ Q) := by simp [waL]

set_option maxHeartbeats 4000000 in
set_option maxRecDepth 100000 in
theorem WaAll_of (p b : Nat) (M L : List Hd) (w : World) (h : WaAt w p b M) (hL : WEq M L) (hlen : M.length ≤ 2 ^ 20) :
    Calls Try.prog 82 #[.pointer (some ⟨p, 0, none⟩)] w fun r w' => ∃ v, r = .returned v ∧ OwnH w' w.heap.size v L ∧ Below w.heap.size w w' := by
  have hcell := h.ptr.cell 0
  simp only [List.getElem?_toArray, List.getElem?_cons_zero] at hcell
  have hplt := h.ptr.lt
  have hblt := h.map.lt
  have HM := Lib.hid h.map
  have HL := Lib.hid hL
  clear h hL
  go_enter Try.func82, Try.ntmps82
  go_wp2_with (at_range; refine wpList_range_st _ rfl _ 123 rfl 39 23 Try.underlying123 rfl HM.out ?_; intro w1 hr1 hb1 hs1; have HR := Lib.hid hr1; have Hb1 := Lib.hid hb1; clear hr1 hb1 hs1)
  go_frame
  go_loopw [3] (fun v wr => ∃ D R, RangeAt K3.enc wr b w.heap.size (waL M) (waL R) ∧ (D ++ R).Perm M ∧ OwnH wr (w.heap.size + 1) v D ∧ Below w.heap.size w wr) (fun _ wr => wr.rangeLeft b w.heap.size)
  case atStart => exact ⟨[], M, HR.out, by rw [List.nil_append], OwnR.nil _ _, Hb1.out⟩
  case round =>
    obtain ⟨D, R, hrg, hperm, hown, hb⟩ := hrel
    obtain ⟨A7, c7, hv7⟩ := hown.shape
    subst hv7
    have hDl : D.length ≤ 2 ^ 20 := by
      have := hperm.length_eq
      rw [List.length_append] at this
      omega
    have Hrg := Lib.hid hrg
    have Hperm := Lib.hid hperm
    have Hown := Lib.hid hown
    have Hb := Lib.hid hb
    clear hrg hperm hown hb
    go_wp2_with (at_next; refine wpList_next_st _ rfl _ rfl keyK3.inj rfl Hrg.out ?_ ?_)
    · intro h0
      have hR0 : R = [] := by simpa [waL] using h0
      subst hR0
      clear h0
      have hperm := Hperm.out
      rw [List.append_nil] at hperm
      have HS := Lib.hid (fun W hO => sortH_of (.slice A7 D.length c7) D L (w.heap.size + 1) W hO hDl (hperm.trans HL.out.perm) HL.out.sorted)
      clear hperm
      go_wp2_with (go_at_call 111; (with_reducible refine Calls.mono (HS.out _ Hown.out) ?_); rintro r w3 ⟨rfl, hown3, hg3⟩; have Hown3 := Lib.hid hown3; have Hg3 := Lib.hid hg3; clear hown3 hg3)
      go_ret
      exact ⟨_, rfl, Hown3.out.lower (by omega), Hb.out.grown Hg3.out Hb.out.size (fun k hk => by have := (Hown.out.block k hk).1; omega)⟩
    · intro pre e ev post w2 hsplit hrg2 hg2 hs2 hen
      obtain ⟨P, x, Q, hR, rfl, rfl, he⟩ := waL_split hsplit
      injection he with he1 he2
      subst he1 he2
      rw [waL_append] at hrg2
      have HRP := Lib.hid hR
      have hmeas : (waL (P ++ Q)).length < (waL R).length := by rw [hR]; simp [waL]
      have hperm2 : (D ++ [x] ++ (P ++ Q)).Perm M := by
        refine List.Perm.trans ?_ Hperm.out
        rw [hR, List.append_assoc]
        refine List.Perm.append_left D ?_
        rw [List.singleton_append]
        exact List.perm_middle.symm
      have Hmeas := Lib.hid hmeas
      have Hperm2 := Lib.hid hperm2
      have Hrg2 := Lib.hid hrg2
      have Hown2 := Lib.hid (Hown.out.kept hg2 (by
        cases hv : (Value.slice A7 D.length c7).ownBlock with
        | none => exact .inl rfl
        | some k => right; intro e; have := (Hown.out.block k hv).1; injection e with e; omega))
      have Hb2 := Lib.hid (Hb.out.grown hg2 Hb.out.size (fun k hk => by injection hk with hk; omega))
      clear hsplit hrg2 hg2 hs2 hR hmeas hperm2
      obtain ⟨y1, y2, y3, y4, y5, y6, y7⟩ := x
      unfold aggH Hd.cells keyH at hen
      simp only at hen
      have Hbk := Lib.hid (show ∀ o, Blk ((w2.alloc o).alloc (.cells #[.int .i64 y1, .int .i64 y2, .int .i64 y3, .int .i64 y4, .int .i64 y5, .int .i64 y6, .int .i64 y7] 23)) (w2.heap.size + 1) 23 (Hd.cells ⟨y1, y2, y3, y4, y5, y6, y7⟩).toArray from fun o => by
        exact Blk.size (w := w2.alloc o) (by simp))
      have Hsz2 := Lib.hid (show ∀ o o', w.heap.size + 1 ≤ ((w2.alloc o).alloc o').heap.size from fun o o' => by
        have h2 := Hrg2.out.lt
        simp
        omega)
      go_wp2_with (at_builtin; refine app_row Hd.cells (fun _ => rfl) (by decide) (bytes := 56) (by decide) infoHd rfl Try.underlying37 onesH rfl _ _ rfl (w.heap.size + 1) _ D rfl ((Hown2.out.alloc _).alloc _) (w2.heap.size + 1) ⟨y1, y2, y3, y4, y5, y6, y7⟩ rfl (Hbk.out _) (by omega) (Hsz2.out _ _) ?_; intro v5 w5 hown5 hg5 hor5; have Hown5 := Lib.hid hown5; have Hg5 := Lib.hid hg5; clear hown5 hg5 hor5)
      have hne : ∀ j, (Value.slice A7 D.length c7).ownBlock = some j → w.heap.size + 1 ≤ j := fun j hj => (Hown2.out.block j hj).1
      have hrg5 : RangeAt K3.enc w5 b w.heap.size (waL M) (waL (P ++ Q)) := ((Hrg2.out.alloc _).alloc _).grown Hg5.out (fun e => by have := hne b e.symm; omega) (fun e => by have := hne _ e.symm; omega)
      have Hrg5 := Lib.hid hrg5
      have hb5 : Below w.heap.size w w5 := ((Hb2.out.alloc Hb2.out.size _).alloc (by have := Hb2.out.size; simp; omega) _).grown Hg5.out (by have := Hb2.out.size; simp; omega) (fun j hj => by have := hne j hj; omega)
      have Hb5 := Lib.hid hb5
      clear hne hrg5 hb5
      go_wp2
      go_roundw
      case measure => rw [Hrg5.out.left_eq, Hrg.out.left_eq]; exact Hmeas.out
      case rel => exact ⟨D ++ [⟨y1, y2, y3, y4, y5, y6, y7⟩], P ++ Q, Hrg5.out, Hperm2.out, Hown5.out, Hb5.out⟩

end Go.Proofs.Ytmjjmkdjjfmhhaa
