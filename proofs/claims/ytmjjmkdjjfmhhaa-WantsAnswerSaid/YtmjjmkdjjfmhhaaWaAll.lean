/-
  Layer 15: all that is wanted, in order, and what is asked for.
-/
import Derived.Test.YtmjjmkdjjfmhhaaGenSort
import Derived.Test.YtmjjmkdjjfmhhaaLaySortHead
import Derived.Test.YtmjjmkdjjfmhhaaWaCmp
import Derived.Test.YtmjjmkdjjfmhhaaWaAdd
namespace Go.Proofs.Ytmjjmkdjjfmhhaa
open Go.RowKit Go.Sort Go.Proofs

instance : Inhabited Hd := ⟨zeroHd⟩
theorem infoHd : (Try.prog.info? 23).map (fun i => (i.zero, i.size, i.bytes)) = some (some (.agg #[.int .i64 0, .int .i64 0, .int .i64 0, .int .i64 0, .int .i64 0, .int .i64 0, .int .i64 0]), 7, 56) := by kernel_rfl
theorem onesH (x : Hd) : ∀ u ∈ Hd.cells x, u.oneCell' = true := by
  intro u hu
  simp [Hd.cells] at hu
  rcases hu with rfl | rfl | rfl | rfl | rfl | rfl | rfl <;> rfl
abbrev OwnH (w : World) (B : Nat) (v : Value) (L : List Hd) : Prop := OwnR 23 7 Hd.cells w B v L
theorem ltOf_H : ltOf cmpH = fun a b => lessK (keyH a) (keyH b) := by
  funext a b
  exact cmpK_less _ _
theorem swoH : SWO (ltOf cmpH) := by
  rw [ltOf_H]
  exact { irrefl := fun _ => lessK_irr _, trans := fun _ _ _ h1 h2 => lessK_trans h1 h2, ntrans := fun _ _ _ h1 h2 => lessK_ntrans h1 h2 }
theorem call_allCmp (xs : Array Value) (w : World) : (callFunc 112 xs).run Try.prog w = .ok (.enter 112 xs) w := callOf Try.func112 rfl (by kernel_rfl) xs w
theorem sortH_of (v : Value) (M L : List Hd) (B : Nat) (w : World) (hown : OwnH w B v M) (hlen : M.length ≤ 2 ^ 20) (hp : M.Perm L) (hs : sortedH L) :
    Calls Try.prog 111 #[v, .func (.func 112) #[] #[]] w fun r w' => r = .returned (.tuple #[]) ∧ OwnH w' B v L ∧ w.grownBy w' v.ownBlock := by
  have h := sort_row Try.sortHead (C := 7) Try.isAgg23 Try.sizeOf23 Hd.cells (fun _ => rfl) onesH cmpH swoH 112 call_allCmp (fun x y w => allCmp_any x y w) v M B w hown hlen
  change Calls Try.prog 111 _ _ _ at h
  refine h.mono ?_
  rintro r w' ⟨rfl, N, hN, hpN, hsN, hg⟩
  rw [ltOf_H] at hsN
  have hkeys : (N.map keyH).Nodup := ((hpN.trans hp).map keyH).nodup_iff.2 hs.keys
  have hNs : sortedH N := by
    unfold sortedH
    rw [List.Nodup, List.pairwise_map] at hkeys
    refine (hsN.and hkeys).imp fun {a b} ⟨h1, h2⟩ => ?_
    cases h3 : lessK (keyH a) (keyH b) with
    | true => rfl
    | false => exact absurd (lessK_tot h3 h1) h2
  rw [sortedH_one (hpN.trans hp) hNs hs] at hN
  exact ⟨rfl, hN, hg⟩

theorem waL_split {R : List Hd} {pre post : List (K3 × Value)} {e : K3 × Value} (h : waL R = pre ++ e :: post) : ∃ P h' Q, R = P ++ h' :: Q ∧ pre = waL P ∧ post = waL Q ∧ e = (keyH h', aggH h') := by
  unfold waL at h
  obtain ⟨P, q, rfl, h1, h2⟩ := List.map_eq_append_iff.1 h
  obtain ⟨h', Q, rfl, h3, h4⟩ := List.map_eq_cons_iff.1 h2
  exact ⟨P, h', Q, rfl, h1.symm, h4.symm, h3.symm⟩
theorem waL_append (P Q : List Hd) : waL P ++ waL Q = waL (P ++ Q) := by simp [waL]

set_option maxHeartbeats 4000000 in
set_option maxRecDepth 100000 in
theorem WaAll_of (p b : Nat) (M L : List Hd) (w : World) (h : WaAt w p b M) (hL : WEq M L) (hlen : M.length ≤ 2 ^ 20) :
    Calls Try.prog 82 #[.pointer (some ⟨p, 0, none⟩)] w fun r w' => ∃ v, r = .returned v ∧ OwnH w' w.heap.size v L ∧ Below w.heap.size w w' := by
  have hcell := h.ptr.cell 0
  simp only [List.getElem?_toArray, List.getElem?_cons_zero] at hcell
  have hplt := h.ptr.lt
  have hblt := h.map.lt
  have HM := Lib.hid h.map
  have HL := Lib.hid hL
  clear h hL
  go_enter Try.func82, Try.ntmps82
  go_wp2_with (at_range; refine wpList_range_st _ rfl _ 123 rfl 39 23 Try.underlying123 rfl HM.out ?_; intro w1 hr1 hb1 hs1; have HR := Lib.hid hr1; have Hb1 := Lib.hid hb1; clear hr1 hb1 hs1)
  go_frame
  go_loopw [3] (fun v wr => ∃ D R, RangeAt K3.enc wr b w.heap.size (waL M) (waL R) ∧ (D ++ R).Perm M ∧ OwnH wr (w.heap.size + 1) v D ∧ Below w.heap.size w wr) (fun _ wr => wr.rangeLeft b w.heap.size)
  case atStart => exact ⟨[], M, HR.out, by rw [List.nil_append], OwnR.nil _ _, Hb1.out⟩
  case round =>
    obtain ⟨D, R, hrg, hperm, hown, hb⟩ := hrel
    obtain ⟨A7, c7, hv7⟩ := hown.shape
    subst hv7
    have hDl : D.length ≤ 2 ^ 20 := by
      have := hperm.length_eq
      rw [List.length_append] at this
      omega
    have Hrg := Lib.hid hrg
    have Hperm := Lib.hid hperm
    have Hown := Lib.hid hown
    have Hb := Lib.hid hb
    clear hrg hperm hown hb
    go_wp2_with (at_next; refine wpList_next_st _ rfl _ rfl keyK3.inj rfl Hrg.out ?_ ?_)
    · intro h0
      have hR0 : R = [] := by simpa [waL] using h0
      subst hR0
      clear h0
      have hperm := Hperm.out
      rw [List.append_nil] at hperm
      have HS := Lib.hid (fun W hO => sortH_of (.slice A7 D.length c7) D L (w.heap.size + 1) W hO hDl (hperm.trans HL.out.perm) HL.out.sorted)
      clear hperm
      go_wp2_with (go_at_call 111; (with_reducible refine Calls.mono (HS.out _ Hown.out) ?_); rintro r w3 ⟨rfl, hown3, hg3⟩; have Hown3 := Lib.hid hown3; have Hg3 := Lib.hid hg3; clear hown3 hg3)
      go_ret
      exact ⟨_, rfl, Hown3.out.lower (by omega), Hb.out.grown Hg3.out Hb.out.size (fun k hk => by have := (Hown.out.block k hk).1; omega)⟩
    · intro pre e ev post w2 hsplit hrg2 hg2 hs2 hen
      obtain ⟨P, x, Q, hR, rfl, rfl, he⟩ := waL_split hsplit
      injection he with he1 he2
      subst he1 he2
      rw [waL_append] at hrg2
      have HRP := Lib.hid hR
      have hmeas : (waL (P ++ Q)).length < (waL R).length := by rw [hR]; simp [waL]
      have hperm2 : (D ++ [x] ++ (P ++ Q)).Perm M := by
        refine List.Perm.trans ?_ Hperm.out
        rw [hR, List.append_assoc]
        refine List.Perm.append_left D ?_
        rw [List.singleton_append]
        exact List.perm_middle.symm
      have Hmeas := Lib.hid hmeas
      have Hperm2 := Lib.hid hperm2
      have Hrg2 := Lib.hid hrg2
      have Hown2 := Lib.hid (Hown.out.kept hg2 (by
        cases hv : (Value.slice A7 D.length c7).ownBlock with
        | none => exact .inl rfl
        | some k => right; intro e; have := (Hown.out.block k hv).1; injection e with e; omega))
      have Hb2 := Lib.hid (Hb.out.grown hg2 Hb.out.size (fun k hk => by injection hk with hk; omega))
      clear hsplit hrg2 hg2 hs2 hR hmeas hperm2
      obtain ⟨y1, y2, y3, y4, y5, y6, y7⟩ := x
      unfold aggH Hd.cells keyH at hen
      simp only at hen
      have Hbk := Lib.hid (show ∀ o, Blk ((w2.alloc o).alloc (.cells #[.int .i64 y1, .int .i64 y2, .int .i64 y3, .int .i64 y4, .int .i64 y5, .int .i64 y6, .int .i64 y7] 23)) (w2.heap.size + 1) 23 (Hd.cells ⟨y1, y2, y3, y4, y5, y6, y7⟩).toArray from fun o => by
        exact Blk.size (w := w2.alloc o) (by simp))
      have Hsz2 := Lib.hid (show ∀ o o', w.heap.size + 1 ≤ ((w2.alloc o).alloc o').heap.size from fun o o' => by
        have h2 := Hrg2.out.lt
        simp
        omega)
      go_wp2_with (at_builtin; refine app_row Hd.cells (fun _ => rfl) (by decide) (bytes := 56) (by decide) infoHd rfl Try.underlying37 onesH rfl _ _ rfl (w.heap.size + 1) _ D rfl ((Hown2.out.alloc _).alloc _) (w2.heap.size + 1) ⟨y1, y2, y3, y4, y5, y6, y7⟩ rfl (Hbk.out _) (by omega) (Hsz2.out _ _) ?_; intro v5 w5 hown5 hg5 hor5; have Hown5 := Lib.hid hown5; have Hg5 := Lib.hid hg5; clear hown5 hg5 hor5)
      have hne : ∀ j, (Value.slice A7 D.length c7).ownBlock = some j → w.heap.size + 1 ≤ j := fun j hj => (Hown2.out.block j hj).1
      have hrg5 : RangeAt K3.enc w5 b w.heap.size (waL M) (waL (P ++ Q)) := ((Hrg2.out.alloc _).alloc _).grown Hg5.out (fun e => by have := hne b e.symm; omega) (fun e => by have := hne _ e.symm; omega)
      have Hrg5 := Lib.hid hrg5
      have hb5 : Below w.heap.size w w5 := ((Hb2.out.alloc Hb2.out.size _).alloc (by have := Hb2.out.size; simp; omega) _).grown Hg5.out (by have := Hb2.out.size; simp; omega) (fun j hj => by have := hne j hj; omega)
      have Hb5 := Lib.hid hb5
      clear hne hrg5 hb5
      go_wp2
      go_roundw
      case measure => rw [Hrg5.out.left_eq, Hrg.out.left_eq]; exact Hmeas.out
      case rel => exact ⟨D ++ [⟨y1, y2, y3, y4, y5, y6, y7⟩], P ++ Q, Hrg5.out, Hperm2.out, Hown5.out, Hb5.out⟩

end Go.Proofs.Ytmjjmkdjjfmhhaa

/-
  Layer 15: what is asked for; what is taken.
-/
namespace Go.Proofs.Ytmjjmkdjjfmhhaa
open Go.RowKit Go.Sort

theorem infoK3 : (Try.prog.info? 39).map (fun i => (i.zero, i.size, i.bytes)) = some (some (.agg #[.int .i64 0, .int .i64 0, .int .i64 0]), 3, 24) := by kernel_rfl
theorem onesK3 (x : K3) : ∀ u ∈ K3.cells x, u.oneCell' = true := by
  intro u hu
  simp [K3.cells] at hu
  rcases hu with rfl | rfl | rfl <;> rfl
abbrev OwnKs (w : World) (B : Nat) (v : Value) (L : List K3) : Prop := OwnR 39 3 K3.cells w B v L
def askL (L : List Hd) : List K3 := (L.take 3).map keyH
theorem ask_len (L : List Hd) (k : Nat) : ((L.take (min k 3)).map keyH).length = min (min k 3) L.length := by simp

set_option maxHeartbeats 4000000 in
set_option maxRecDepth 100000 in
theorem WaAsk_of (p b : Nat) (M L : List Hd) (w : World) (h : WaAt w p b M) (hL : WEq M L) (hlen : M.length ≤ 2 ^ 20) :
    Calls Try.prog 39 #[.pointer (some ⟨p, 0, none⟩)] w fun r w' => ∃ v, r = .returned v ∧ OwnKs w' w.heap.size v (askL L) ∧ Below w.heap.size w w' := by
  have HA := Lib.hid (WaAll_of p b M L w h hL hlen)
  have hLl := hL.len
  rw [hLl] at hlen
  clear h hL
  go_enter Try.func39, Try.ntmps39
  go_wp2_with fail
  with_reducible refine Calls.mono HA.out ?_
  rintro r w2 ⟨v, rfl, hown, hb2⟩
  obtain ⟨A, cap, rfl⟩ := hown.shape
  have Hrow := Lib.hid (OwnR.rows (C := 7) (cells := Hd.cells) (fun _ => rfl) hown).2
  have Hb2 := Lib.hid hb2
  clear hown hb2
  go_wp2
  go_loopw [3, 9] (fun o i wr => ∃ k : Nat, i = .int .i64 k ∧ k ≤ L.length ∧ OwnKs wr w2.heap.size o ((L.take (min k 3)).map keyH) ∧ Below w2.heap.size w2 wr) (fun _ i _ => L.length - (intOf i).toNat)
  case atStart => exact ⟨0, rfl, Nat.zero_le _, OwnR.nil _ _, Below.refl _ _⟩
  case round =>
    obtain ⟨k, rfl, hk, hown, hb⟩ := hrel
    obtain ⟨A7, c7, hv7⟩ := hown.shape
    have hl := ask_len L k
    subst hv7
    by_cases hlt : k < L.length
    · obtain ⟨b1, o1, rfl, -, x0, x1, x2, x3, x4, x5, x6⟩ := row_hd (Hrow.out.below hb) k hlt
      have hs := List.take_succ_eq_append_getElem hlt
      have hkl : (k : Int) < (L.length : Int) := by omega
      generalize hy : L[k] = y at *
      obtain ⟨y1, y2, y3, y4, y5, y6, y7⟩ := y
      simp only at x0 x1 x2 x3 x4 x5 x6
      have Hown := Lib.hid hown
      have Hb := Lib.hid hb
      have hbw : w2.heap.size ≤ wr.heap.size := hb.size
      clear hown hb
      by_cases h3 : k < 3
      · have hmin : min k 3 = k := by omega
        rw [hmin] at hl Hown ⊢
        have hl2 : ((L.take k).map keyH).length = k := by rw [hl]; omega
        have hnext : (L.take (min (k + 1) 3)).map keyH = (L.take k).map keyH ++ [⟨y2, y3, y4⟩] := by
          rw [show min (k + 1) 3 = k + 1 by omega, hs, List.map_append]
          rfl
        generalize (L.take k).map keyH = N at *
        subst hl2
        have HN := Lib.hid hnext
        have h3i : (N.length : Int) < 3 := by omega
        clear hnext hs hl hmin hy
        go_wp2_with fail
        with_reducible refine Calls.mono (keyOf_any _ _ _ _ _ _ _ _) ?_
        rintro r w3 ⟨rfl, hb3⟩
        have Hown3 := Lib.hid ((Hown.out.alloc _).below hb3)
        have Hb3 := Lib.hid ((Hb.out.alloc Hb.out.size _).trans (hb3.mono (by have := Hb.out.size; simp; omega)))
        have hw3 : w2.heap.size ≤ w3.heap.size := by have := hb3.size; simp at this; omega
        clear hb3
        go_wp2_with (at_builtin; (refine app_row (e := 39) K3.cells (fun _ => rfl) (by decide) (bytes := 24) (by decide) infoK3 rfl Try.underlying61 onesK3 (by rfl) _ _ (by rfl) w2.heap.size _ N (by rfl) (Hown3.out.alloc _) w3.heap.size ⟨y2, y3, y4⟩ (by rfl) (Blk.new _ _ _) (by omega) (by simp; omega) ?_); intro v5 w5 hown5 hg5 hor5; have Hown5 := Lib.hid hown5; have Hb5 := Lib.hid ((Hb3.out.alloc Hb3.out.size _).grown hg5 (by have := Hb3.out.size; simp; omega) (fun j hj => (Hown3.out.block j hj).1)); clear hown5 hg5 hor5)
        go_wp2
        go_roundw
        case measure => simp [intOf]; omega
        case rel => exact ⟨N.length + 1, by go_num, hlt, by rw [HN.out]; exact Hown5.out, Hb5.out⟩
      · have hmin : min k 3 = 3 := by omega
        have hmin2 : min (k + 1) 3 = 3 := by omega
        rw [hmin] at hl Hown ⊢
        have HM2 := Lib.hid hmin2
        have hl2 : ((L.take 3).map keyH).length = 3 := by rw [hl]; omega
        generalize hNN : (L.take 3).map keyH = N at *
        have HNN := Lib.hid hNN
        have HN2 := Lib.hid hl2
        rw [hl2]
        clear hs hl hl2 hmin hmin2 hy hNN
        go_wp2
        go_roundw
        case measure => simp [intOf]; omega
        case rel => exact ⟨k + 1, by go_num, hlt, by rw [HM2.out, HNN.out]; have := Hown.out.alloc (.cells #[.int .i64 y1, .int .i64 y2, .int .i64 y3, .int .i64 y4, .int .i64 y5, .int .i64 y6, .int .i64 y7] 23); rw [HN2.out] at this; exact this, Hb.out.alloc Hb.out.size _⟩
    · have hkk : k = L.length := by omega
      subst hkk
      have hask : (L.take (min L.length 3)).map keyH = askL L := by
        unfold askL
        rcases Nat.lt_or_ge L.length 3 with h | h
        · rw [show min L.length 3 = L.length by omega, List.take_length, List.take_of_length_le (by omega)]
        · rw [show min L.length 3 = 3 by omega]
      rw [hask] at hown ⊢
      have Hown := Lib.hid hown
      have Hb := Lib.hid hb
      clear hown hb hl hask
      go_wp2
      go_ret
      exact ⟨_, rfl, Hown.out.lower Hb2.out.size, Hb2.out.trans (Hb.out.mono Hb2.out.size)⟩

set_option maxHeartbeats 4000000 in
set_option maxRecDepth 100000 in
theorem WaTake_none (p b : Nat) (M : List Hd) (y1 y2 y3 y4 y5 y6 y7 : Int) (w : World) (h : WaAt w p b M) (hn : getH ⟨y2, y3, y4⟩ M = none) :
    Calls Try.prog 31 #[.pointer (some ⟨p, 0, none⟩), .agg #[.int .i64 y1, .int .i64 y2, .int .i64 y3, .int .i64 y4, .int .i64 y5, .int .i64 y6, .int .i64 y7]] w fun r w' => r = .returned (.int .i64 6) ∧ Below w.heap.size w w' := by
  have H := Lib.hid h
  have HN := Lib.hid hn
  clear h hn
  go_enter Try.func31, Try.ntmps31
  go_wp2_with fail
  with_reducible refine Calls.mono (keyOf_any _ _ _ _ _ _ _ _) ?_
  rintro r w2 ⟨rfl, hb2⟩
  have Hb2 := Lib.hid (((Below.refl w.heap.size w).alloc (Nat.le_refl _) (.cells #[.int .i64 y1, .int .i64 y2, .int .i64 y3, .int .i64 y4, .int .i64 y5, .int .i64 y6, .int .i64 y7] 23)).trans (hb2.mono (by simp)))
  have HG := Lib.hid (fun W hW => WaGet p b M y2 y3 y4 W hW (y := zeroHd) (is := false) (by rw [HN.out]; rfl) (by rw [HN.out]; rfl))
  clear hb2
  go_wp2_with fail
  with_reducible refine Calls.mono (HG.out _ ((H.out.keep Hb2.out).alloc _)) ?_
  rintro r w3 ⟨rfl, hb3⟩
  have Hb3 := Lib.hid ((Hb2.out.alloc Hb2.out.size _).trans (hb3.mono (by have := Hb2.out.size; simp; omega)))
  clear hb3
  unfold aggH Hd.cells zeroHd
  go_wp2
  go_ret
  exact ⟨rfl, Hb3.out.alloc Hb3.out.size _⟩

set_option maxHeartbeats 4000000 in
set_option maxRecDepth 100000 in
theorem WaTake_old (p b : Nat) (M : List Hd) (y1 y2 y3 y4 y5 y6 y7 : Int) (w : World) (h : WaAt w p b M) (u : Hd) (hm : getH ⟨y2, y3, y4⟩ M = some u) (hx : ageOk u) (hy1 : 0 ≤ y1) (hy2 : y1 ≤ 60) (hnew : decide (0 < newerI u ⟨y1, y2, y3, y4, y5, y6, y7⟩) = true) :
    Calls Try.prog 31 #[.pointer (some ⟨p, 0, none⟩), .agg #[.int .i64 y1, .int .i64 y2, .int .i64 y3, .int .i64 y4, .int .i64 y5, .int .i64 y6, .int .i64 y7]] w fun r w' => r = .returned (.int .i64 8) ∧ Below w.heap.size w w' := by
  have H := Lib.hid h
  have Hx := Lib.hid hm
  obtain ⟨u1, u2, u3, u4, u5, u6, u7⟩ := u
  have Ha := Lib.hid (show 0 ≤ u1 ∧ u1 ≤ 60 from ⟨hx.lo, hx.hi⟩)
  obtain ⟨m, hmm⟩ : ∃ m, newerI ⟨u1, u2, u3, u4, u5, u6, u7⟩ ⟨y1, y2, y3, y4, y5, y6, y7⟩ = m := ⟨_, rfl⟩
  rw [hmm] at hnew
  have Hm := Lib.hid hmm
  clear h hx hm hmm
  go_enter Try.func31, Try.ntmps31
  go_wp2_with fail
  with_reducible refine Calls.mono (keyOf_any _ _ _ _ _ _ _ _) ?_
  rintro r w2 ⟨rfl, hb2⟩
  obtain ⟨w3, hW3, hh3, hk3, hw3, hb3⟩ : ∃ w3, w2.alloc (.cells #[.int .i64 y2, .int .i64 y3, .int .i64 y4] 39) = w3 ∧ Blk w3 w.heap.size 23 #[.int .i64 y1, .int .i64 y2, .int .i64 y3, .int .i64 y4, .int .i64 y5, .int .i64 y6, .int .i64 y7] ∧ Blk w3 w2.heap.size 39 #[.int .i64 y2, .int .i64 y3, .int .i64 y4] ∧ WaAt w3 p b M ∧ Below w.heap.size w w3 :=
    ⟨_, rfl, ((Blk.new w _ _).below hb2 (by simp)).alloc _, Blk.new _ _ _, ((H.out.alloc _).keep hb2).alloc _, below_two hb2 _⟩
  have HG := Lib.hid (WaGet p b M y2 y3 y4 w3 hw3 (y := ⟨u1, u2, u3, u4, u5, u6, u7⟩) (is := true) (by rw [Hx.out]; rfl) (by rw [Hx.out]; rfl))
  obtain ⟨q0, q1, q2⟩ : _ ∧ _ ∧ _ := ⟨hk3.cell 0, hk3.cell 1, hk3.cell 2⟩
  simp only [List.getElem?_toArray, List.getElem?_cons_zero, List.getElem?_cons_succ] at q0 q1 q2
  have Hh3 := Lib.hid hh3
  have Hk3 := Lib.hid hk3
  have Hw3 := Lib.hid hw3
  have Hb3 := Lib.hid hb3
  clear hb2 hh3 hk3 hw3 hb3
  go_wp2_with fail
  with_reducible refine Calls.mono HG.out ?_
  rintro r w4 ⟨rfl, hb4⟩
  unfold aggH Hd.cells
  obtain ⟨w5, hW5, hu5, hh5, hk5, hw5, hb5⟩ : ∃ w5, w4.alloc (.cells #[.int .i64 u1, .int .i64 u2, .int .i64 u3, .int .i64 u4, .int .i64 u5, .int .i64 u6, .int .i64 u7] 23) = w5 ∧ Blk w5 w4.heap.size 23 #[.int .i64 u1, .int .i64 u2, .int .i64 u3, .int .i64 u4, .int .i64 u5, .int .i64 u6, .int .i64 u7] ∧ Blk w5 w.heap.size 23 #[.int .i64 y1, .int .i64 y2, .int .i64 y3, .int .i64 y4, .int .i64 y5, .int .i64 y6, .int .i64 y7] ∧ Blk w5 w2.heap.size 39 #[.int .i64 y2, .int .i64 y3, .int .i64 y4] ∧ WaAt w5 p b M ∧ Below w.heap.size w w5 :=
    ⟨_, rfl, Blk.new _ _ _, (Hh3.out.below hb4 Hh3.out.lt).alloc _, (Hk3.out.below hb4 Hk3.out.lt).alloc _, (Hw3.out.keep hb4).alloc _, (Hb3.out.trans (hb4.mono Hb3.out.size)).alloc (Nat.le_trans Hb3.out.size hb4.size) _⟩
  obtain ⟨a0, a1, a2, a3, a4, a5, a6, -⟩ := hh5.both7
  obtain ⟨b0, b1, b2, b3, b4, b5, b6, -⟩ := hu5.both7
  have Hk5 := Lib.hid hk5
  have Hw5 := Lib.hid hw5
  have Hb5 := Lib.hid hb5
  clear hb4 hu5 hh5 hk5 hw5 hb5
  go_wp2_with fail
  with_reducible refine Calls.mono (newer_any _ _ _ _ _ _ _ _ _ _ _ _ _ _ _ Ha.out.1 Ha.out.2 hy1 hy2 Hm.out) ?_
  rintro r w6 ⟨rfl, hb6⟩
  have hk6 := Hk5.out.below hb6 Hk5.out.lt
  have hw6 := Hw5.out.keep hb6
  have Hb6 := Lib.hid (Hb5.out.trans (hb6.mono Hb5.out.size))
  obtain ⟨z0, z1, z2, z3⟩ : _ ∧ _ ∧ _ ∧ _ := ⟨hk6.cell 0, hk6.cell 1, hk6.cell 2, hw6.ptr.cell 0⟩
  simp only [List.getElem?_toArray, List.getElem?_cons_zero, List.getElem?_cons_succ] at z0 z1 z2 z3
  have Hw6 := Lib.hid hw6
  clear hb6 hk6 hw6 a0 a1 a2 a3 a4 a5 a6 b0 b1 b2 b3 b4 b5 b6
  go_wp2_with fail
  go_ret
  exact ⟨rfl, Hb6.out⟩
set_option maxHeartbeats 4000000 in
set_option maxRecDepth 100000 in
theorem WaTake_got (p b : Nat) (M : List Hd) (y1 y2 y3 y4 y5 y6 y7 : Int) (w : World) (h : WaAt w p b M) (u : Hd) (hm : getH ⟨y2, y3, y4⟩ M = some u) (hx : ageOk u) (hy1 : 0 ≤ y1) (hy2 : y1 ≤ 60) (hnew : decide (0 < newerI u ⟨y1, y2, y3, y4, y5, y6, y7⟩) = false) :
    Calls Try.prog 31 #[.pointer (some ⟨p, 0, none⟩), .agg #[.int .i64 y1, .int .i64 y2, .int .i64 y3, .int .i64 y4, .int .i64 y5, .int .i64 y6, .int .i64 y7]] w fun r w' => r = .returned (.int .i64 0) ∧ WaAt w' p b (dropH ⟨y2, y3, y4⟩ M) ∧ w.grownBy w' (some b) := by
  have H := Lib.hid h
  have Hx := Lib.hid hm
  obtain ⟨u1, u2, u3, u4, u5, u6, u7⟩ := u
  have Ha := Lib.hid (show 0 ≤ u1 ∧ u1 ≤ 60 from ⟨hx.lo, hx.hi⟩)
  obtain ⟨m, hmm⟩ : ∃ m, newerI ⟨u1, u2, u3, u4, u5, u6, u7⟩ ⟨y1, y2, y3, y4, y5, y6, y7⟩ = m := ⟨_, rfl⟩
  rw [hmm] at hnew
  have Hm := Lib.hid hmm
  clear h hx hm hmm
  go_enter Try.func31, Try.ntmps31
  go_wp2_with fail
  with_reducible refine Calls.mono (keyOf_any _ _ _ _ _ _ _ _) ?_
  rintro r w2 ⟨rfl, hb2⟩
  obtain ⟨w3, hW3, hh3, hk3, hw3, hb3⟩ : ∃ w3, w2.alloc (.cells #[.int .i64 y2, .int .i64 y3, .int .i64 y4] 39) = w3 ∧ Blk w3 w.heap.size 23 #[.int .i64 y1, .int .i64 y2, .int .i64 y3, .int .i64 y4, .int .i64 y5, .int .i64 y6, .int .i64 y7] ∧ Blk w3 w2.heap.size 39 #[.int .i64 y2, .int .i64 y3, .int .i64 y4] ∧ WaAt w3 p b M ∧ Below w.heap.size w w3 :=
    ⟨_, rfl, ((Blk.new w _ _).below hb2 (by simp)).alloc _, Blk.new _ _ _, ((H.out.alloc _).keep hb2).alloc _, below_two hb2 _⟩
  have HG := Lib.hid (WaGet p b M y2 y3 y4 w3 hw3 (y := ⟨u1, u2, u3, u4, u5, u6, u7⟩) (is := true) (by rw [Hx.out]; rfl) (by rw [Hx.out]; rfl))
  obtain ⟨q0, q1, q2⟩ : _ ∧ _ ∧ _ := ⟨hk3.cell 0, hk3.cell 1, hk3.cell 2⟩
  simp only [List.getElem?_toArray, List.getElem?_cons_zero, List.getElem?_cons_succ] at q0 q1 q2
  have Hh3 := Lib.hid hh3
  have Hk3 := Lib.hid hk3
  have Hw3 := Lib.hid hw3
  have Hb3 := Lib.hid hb3
  clear hb2 hh3 hk3 hw3 hb3
  go_wp2_with fail
  with_reducible refine Calls.mono HG.out ?_
  rintro r w4 ⟨rfl, hb4⟩
  unfold aggH Hd.cells
  obtain ⟨w5, hW5, hu5, hh5, hk5, hw5, hb5⟩ : ∃ w5, w4.alloc (.cells #[.int .i64 u1, .int .i64 u2, .int .i64 u3, .int .i64 u4, .int .i64 u5, .int .i64 u6, .int .i64 u7] 23) = w5 ∧ Blk w5 w4.heap.size 23 #[.int .i64 u1, .int .i64 u2, .int .i64 u3, .int .i64 u4, .int .i64 u5, .int .i64 u6, .int .i64 u7] ∧ Blk w5 w.heap.size 23 #[.int .i64 y1, .int .i64 y2, .int .i64 y3, .int .i64 y4, .int .i64 y5, .int .i64 y6, .int .i64 y7] ∧ Blk w5 w2.heap.size 39 #[.int .i64 y2, .int .i64 y3, .int .i64 y4] ∧ WaAt w5 p b M ∧ Below w.heap.size w w5 :=
    ⟨_, rfl, Blk.new _ _ _, (Hh3.out.below hb4 Hh3.out.lt).alloc _, (Hk3.out.below hb4 Hk3.out.lt).alloc _, (Hw3.out.keep hb4).alloc _, (Hb3.out.trans (hb4.mono Hb3.out.size)).alloc (Nat.le_trans Hb3.out.size hb4.size) _⟩
  obtain ⟨a0, a1, a2, a3, a4, a5, a6, -⟩ := hh5.both7
  obtain ⟨b0, b1, b2, b3, b4, b5, b6, -⟩ := hu5.both7
  have Hk5 := Lib.hid hk5
  have Hw5 := Lib.hid hw5
  have Hb5 := Lib.hid hb5
  clear hb4 hu5 hh5 hk5 hw5 hb5
  go_wp2_with fail
  with_reducible refine Calls.mono (newer_any _ _ _ _ _ _ _ _ _ _ _ _ _ _ _ Ha.out.1 Ha.out.2 hy1 hy2 Hm.out) ?_
  rintro r w6 ⟨rfl, hb6⟩
  have hk6 := Hk5.out.below hb6 Hk5.out.lt
  have hw6 := Hw5.out.keep hb6
  have Hb6 := Lib.hid (Hb5.out.trans (hb6.mono Hb5.out.size))
  obtain ⟨z0, z1, z2, z3⟩ : _ ∧ _ ∧ _ ∧ _ := ⟨hk6.cell 0, hk6.cell 1, hk6.cell 2, hw6.ptr.cell 0⟩
  simp only [List.getElem?_toArray, List.getElem?_cons_zero, List.getElem?_cons_succ] at z0 z1 z2 z3
  have Hw6 := Lib.hid hw6
  clear hb6 hk6 hw6 a0 a1 a2 a3 a4 a5 a6 b0 b1 b2 b3 b4 b5 b6
  go_wp2_with fail
  refine wp_drew_tail 5 (by kernel_rfl) (by kernel_rfl) ?_
  simp only [List.take_succ_cons, List.take_zero, List.drop_succ_cons, List.drop_zero]
  repeat (go_big_quiet_step (fail))
  refine wpQuiet_nil ?_
  rintro w7 ⟨dq, rfl⟩
  have HM := Lib.hid (Hw6.out.drewN dq).map
  go_wp2_with (at_delete; (refine wpList_delete_st _ (by rfl) _ _ 123 39 (by rfl) 23 keyK3 Try.underlying123 (by rfl) HM.out ⟨y2, y3, y4⟩ (by rfl) ?_); intro w8 hm8 hg8 hs8; have Hm8 := Lib.hid hm8; have Hg8 := Lib.hid hg8; clear hm8 hg8 hs8)
  go_ret
  have hm8 := Hm8.out
  rw [dropL_wa] at hm8
  exact ⟨rfl, (Hw6.out.drewN dq).turned Hg8.out hm8, below_grown Hb6.out (grown_drewN Hg8.out)⟩

end Go.Proofs.Ytmjjmkdjjfmhhaa

/-
  Layer 15: the example that each law asks first.
-/
namespace Go.Proofs.Ytmjjmkdjjfmhhaa
open Go.RowKit Go.Sort

def hd0 (i : Int) : Hd := ⟨0, 0, i, 0, 0, 0, 0⟩
def four15 : List Hd := [hd0 4, hd0 3, hd0 2, hd0 1]
theorem rows_of_blk {w : World} {g B : Nat} {t : TypeId} {L : List Hd} (h : Blk w g t (L.flatMap Hd.cells).toArray) (hB : g < B) : RowsAt 7 Hd.cells w B (some ⟨g, 0, none⟩) L := by
  intro _
  refine ⟨g, 0, rfl, hB, fun k hk i u hi hu => ?_⟩
  rw [show 0 + k * 7 + i = k * 7 + i by omega, h.cell, List.getElem?_toArray, flatR Hd.cells 7 (fun _ => rfl) L k i hk hi]
  exact hu
theorem four_cells : (four15.flatMap Hd.cells).toArray = #[.int .i64 0, .int .i64 0, .int .i64 4, .int .i64 0, .int .i64 0, .int .i64 0, .int .i64 0, .int .i64 0, .int .i64 0, .int .i64 3, .int .i64 0, .int .i64 0, .int .i64 0, .int .i64 0, .int .i64 0, .int .i64 0, .int .i64 2, .int .i64 0, .int .i64 0, .int .i64 0, .int .i64 0, .int .i64 0, .int .i64 0, .int .i64 1, .int .i64 0, .int .i64 0, .int .i64 0, .int .i64 0] := rfl
theorem four_eq : WEq (addAllM [] four15) (addAllD [] four15) := addAll_eq WEq.nil _
theorem four_len : (addAllM [] four15).length = 4 := by decide
theorem four_ask : askL (addAllD [] four15) = [⟨0, 1, 0⟩, ⟨0, 2, 0⟩, ⟨0, 3, 0⟩] := by decide
theorem four_age : ∀ x ∈ four15, ageOk x := by
  intro x hx
  simp [four15] at hx
  rcases hx with rfl | rfl | rfl | rfl <;> exact ⟨by decide, by decide⟩

set_option maxHeartbeats 4000000 in
set_option maxRecDepth 100000 in
theorem wakes15 (w : World) : Calls Try.prog 28 #[] w fun r w' => r = .returned (.bool true) ∧ Below w.heap.size w w' := by
  go_enter Try.func28, Try.ntmps28
  go_wp2_with fail
  with_reducible refine Calls.mono (New15 w) ?_
  rintro r w2 ⟨rfl, hw2, hb2⟩
  obtain ⟨p, hp⟩ : ∃ p, w.heap.size + 1 = p := ⟨_, rfl⟩
  obtain ⟨b, hb⟩ : ∃ b, w.heap.size = b := ⟨_, rfl⟩
  rw [hp] at hw2 ⊢
  rw [hb] at hw2
  have HA := (WaAdd_of p b [] (some ⟨w2.heap.size, 0, none⟩) 4 four15 (w2.alloc (.cells (four15.flatMap Hd.cells).toArray 23)) (hw2.alloc _) (w2.heap.size + 1) (fun W hg => rows_of_blk ((Blk.new w2 23 (four15.flatMap Hd.cells).toArray).grown hg (fun e => by injection e with e; have := hw2.map.lt; omega)) (by omega)) (by simp) four_age (by decide) 4 rfl)
  rw [four_len, four_cells] at HA
  have HA := Lib.hid HA
  have Hb2 := Lib.hid hb2
  have hlt := hw2.map.lt
  have hsz := hb2.size
  clear hw2 hb2
  go_wp2_with fail
  with_reducible refine Calls.mono HA.out ?_
  rintro r w3 ⟨rfl, hw3, hg3⟩
  have HK := Lib.hid (WaAsk_of p b _ _ w3 hw3 four_eq (by rw [four_len]; decide))
  rw [four_ask] at HK
  have Hb3 := Lib.hid ((Hb2.out.alloc Hb2.out.size _).grown hg3 (by simp; omega) (fun k hk => by injection hk with hk; omega))
  clear hw3 hg3
  go_wp2_with fail
  with_reducible refine Calls.mono HK.out ?_
  rintro r w4 ⟨v, rfl, hown, hb4⟩
  have Hb4 := Lib.hid (Hb3.out.trans (hb4.mono Hb3.out.size))
  obtain ⟨A, c, rfl⟩ := hown.shape
  obtain ⟨b1, o1, rfl, x0, x1, x2⟩ := row_k3 (OwnR.rows (C := 3) (cells := K3.cells) (fun _ => rfl) hown).2 0 (by decide)
  simp only [List.getElem_cons_zero, Nat.zero_mul, Nat.add_zero] at x0 x1 x2
  clear hown hb4
  go_wp2
  go_ret
  exact ⟨rfl, Hb4.out⟩

end Go.Proofs.Ytmjjmkdjjfmhhaa
