/-
  Layer 07: how descriptions are compared for their order.
-/
import Derived.Test.YtmjjmkdjjfmhhaaCmpTail
import Derived.Test.YtmjjmkdjjfmhhaaGenSort
import Derived.Test.YtmjjmkdjjfmhhaaLaySortLsa
import Derived.Test.YtmjjmkdjjfmhhaaRdPut
import Derived.Test.YtmjjmkdjjfmhhaaDbMem
namespace Go.Proofs.Ytmjjmkdjjfmhhaa
open Go.RowKit Go.Sort

def cmpX (a b : Lsa) : Int := cmpK (keyX a) (keyX b)
set_option maxHeartbeats 400000 in
theorem keyOf_g7 (h : Hd) (w : World) : Calls Try.prog 20 #[.agg #[.int .i64 h.age, .int .i64 h.kind, .int .i64 h.id, .int .i64 h.adv, .int .i64 h.seq, .int .i64 h.sum, .int .i64 h.long]] w
    fun r w' => r = .returned (.agg #[.int .i64 h.kind, .int .i64 h.id, .int .i64 h.adv]) ∧ ∃ q os', w' = grow (w.drewN q) os' := by
  obtain ⟨a, b, c, d, e, f, g⟩ := h
  go_enter Try.func20, Try.ntmps20
  go_wp2
  refine bodyPost_ret (v := .agg #[.int .i64 b, .int .i64 c, .int .i64 d]) (by simp [results, Try.results20, go_sem]) rfl ⟨rfl, 0, #[.cells #[.int .i64 a, .int .i64 b, .int .i64 c, .int .i64 d, .int .i64 e, .int .i64 f, .int .i64 g] 23, .cells #[.int .i64 b, .int .i64 c, .int .i64 d] 39], ?_⟩
  rw [alloc_eq_grow, alloc_eq_grow, grow_grow]
  rfl
set_option maxHeartbeats 2000000 in
set_option maxRecDepth 100000 in
theorem before_g7 (a1 a2 a3 b1 b2 b3 : Int) (w : World) : Calls Try.prog 77 #[.agg #[.int .i64 a1, .int .i64 a2, .int .i64 a3], .agg #[.int .i64 b1, .int .i64 b2, .int .i64 b3]] w fun r w' => r = .returned (.int .i64 (cmp3 a1 a2 a3 b1 b2 b3)) ∧ ∃ q os', w' = grow (w.drewN q) os' := by
  obtain ⟨w0, hW0⟩ : ∃ w0, (w.alloc (.cells #[.int .i64 a1, .int .i64 a2, .int .i64 a3] 39)).alloc (.cells #[.int .i64 b1, .int .i64 b2, .int .i64 b3] 39) = w0 := ⟨_, rfl⟩
  have hA : Blk w0 w.heap.size 39 #[.int .i64 a1, .int .i64 a2, .int .i64 a3] := by rw [← hW0]; exact (Blk.new w _ _).alloc _
  have hB : Blk w0 (w.heap.size + 1) 39 #[.int .i64 b1, .int .i64 b2, .int .i64 b3] := by
    rw [← hW0]
    have := Blk.new (w.alloc (.cells #[.int .i64 a1, .int .i64 a2, .int .i64 a3] 39)) 39 #[.int .i64 b1, .int .i64 b2, .int .i64 b3]
    simpa using this
  have Hg : Hid (∃ os, w0 = grow w os) := Lib.hid ⟨_, by rw [← hW0, alloc_eq_grow, alloc_eq_grow, grow_grow]⟩
  obtain ⟨a_0, a_1, a_2⟩ : _ ∧ _ ∧ _ := ⟨hA.cell 0, hA.cell 1, hA.cell 2⟩
  obtain ⟨b_0, b_1, b_2⟩ : _ ∧ _ ∧ _ := ⟨hB.cell 0, hB.cell 1, hB.cell 2⟩
  simp only [List.getElem?_toArray, List.getElem?_cons_zero, List.getElem?_cons_succ] at a_0 a_1 a_2 b_0 b_1 b_2
  clear hA hB
  go_enter Try.func77, Try.ntmps77
  go_wp2_with fail
  refine wp_drew_tail 15 (by kernel_rfl) (by kernel_rfl) ?_
  simp only [List.take_succ_cons, List.take_zero, List.drop_succ_cons, List.drop_zero]
  repeat (go_big_quiet_step (exact cmp_q _ _ _ _))
  refine wpQuiet_nil ?_
  rintro w3 ⟨dq, rfl⟩
  go_wp2_with (go_at_call 66; (with_reducible refine Calls.mono (or3_s _ _ _ _) ?_); rintro r w4 ⟨rfl, rfl⟩)
  go_ret
  obtain ⟨os, hos⟩ := Hg.out
  refine ⟨rfl, dq, os.push (.cells #[.int .i64 (cmpI a1 b1), .int .i64 (cmpI a2 b2), .int .i64 (cmpI a3 b3)] 3), ?_⟩
  subst hos
  simp [grow, World.alloc, World.drewN]
theorem blkX {w : World} {g : Nat} {t : TypeId} {a b c d e f x y z : Value} (h : Blk w g t #[a, b, c, d, e, f, x, y, z]) : (∀ q os, (grow (w.drewN q) os).cell? ⟨g, 0, none⟩ = some a) ∧ (∀ q os, (grow (w.drewN q) os).cell? ⟨g, 1, none⟩ = some b) ∧ (∀ q os, (grow (w.drewN q) os).cell? ⟨g, 2, none⟩ = some c) ∧ (∀ q os, (grow (w.drewN q) os).cell? ⟨g, 3, none⟩ = some d) ∧ (∀ q os, (grow (w.drewN q) os).cell? ⟨g, 4, none⟩ = some e) ∧ (∀ q os, (grow (w.drewN q) os).cell? ⟨g, 5, none⟩ = some f) ∧ (∀ q os, (grow (w.drewN q) os).cell? ⟨g, 6, none⟩ = some x) :=
  ⟨cell_gd (h.cell 0), cell_gd (h.cell 1), cell_gd (h.cell 2), cell_gd (h.cell 3), cell_gd (h.cell 4), cell_gd (h.cell 5), cell_gd (h.cell 6)⟩
set_option maxHeartbeats 2000000 in
set_option maxRecDepth 100000 in
theorem allCmp7_any (a b : Lsa) (w : World) : Calls Try.prog 76 #[.agg (Lsa.cells a).toArray, .agg (Lsa.cells b).toArray] w fun r w' => r = .returned (.int .i64 (cmpX a b)) ∧ ∃ q os', w' = grow (w.drewN q) os' := by
  obtain ⟨⟨a1, a2, a3, a4, a5, a6, a7⟩, ka, kc, ls, ma, mc, ms⟩ := a
  obtain ⟨⟨b1, b2, b3, b4, b5, b6, b7⟩, kb, kd, lt, mb, md, mt⟩ := b
  obtain ⟨n1, hn1⟩ : ∃ n, ls.length = n := ⟨_, rfl⟩
  obtain ⟨n2, hn2⟩ : ∃ n, ms.length = n := ⟨_, rfl⟩
  obtain ⟨n3, hn3⟩ : ∃ n, lt.length = n := ⟨_, rfl⟩
  obtain ⟨n4, hn4⟩ : ∃ n, mt.length = n := ⟨_, rfl⟩
  unfold cmpX cmpK keyX keyH Lsa.cells
  simp only [hn1, hn2, hn3, hn4]
  clear hn1 hn2 hn3 hn4
  obtain ⟨w0, hW0⟩ : ∃ w0, (w.alloc (.cells #[.int .i64 a1, .int .i64 a2, .int .i64 a3, .int .i64 a4, .int .i64 a5, .int .i64 a6, .int .i64 a7, .slice ka n1 kc, .slice ma n2 mc] 27)).alloc (.cells #[.int .i64 b1, .int .i64 b2, .int .i64 b3, .int .i64 b4, .int .i64 b5, .int .i64 b6, .int .i64 b7, .slice kb n3 kd, .slice mb n4 md] 27) = w0 := ⟨_, rfl⟩
  have hA : Blk w0 w.heap.size 27 #[.int .i64 a1, .int .i64 a2, .int .i64 a3, .int .i64 a4, .int .i64 a5, .int .i64 a6, .int .i64 a7, .slice ka n1 kc, .slice ma n2 mc] := by rw [← hW0]; exact (Blk.new w _ _).alloc _
  have hB : Blk w0 (w.heap.size + 1) 27 #[.int .i64 b1, .int .i64 b2, .int .i64 b3, .int .i64 b4, .int .i64 b5, .int .i64 b6, .int .i64 b7, .slice kb n3 kd, .slice mb n4 md] := by rw [← hW0]; exact Blk.size (by simp)
  have Hg : Hid (∃ os, w0 = grow w os) := Lib.hid ⟨_, by rw [← hW0, alloc_eq_grow, alloc_eq_grow, grow_grow]⟩
  obtain ⟨a_0, a_1, a_2, a_3, a_4, a_5, a_6⟩ := blkX hA
  obtain ⟨b_0, b_1, b_2, b_3, b_4, b_5, b_6⟩ := blkX hB
  have CK := Lib.hid (fun h q os => gd_of (w := w0) (q := q) (os := os) (keyOf_g7 h _))
  have CB := Lib.hid (fun x1 x2 x3 y1 y2 y3 q os => gd_of (w := w0) (q := q) (os := os) (before_g7 x1 x2 x3 y1 y2 y3 _))
  clear hA hB
  go_enter Try.func76, Try.ntmps76
  go_wp2_with fail
  refine wp_gd_tail 7 (by kernel_rfl) (by kernel_rfl) ?_
  simp only [List.take_succ_cons, List.take_zero, List.drop_succ_cons, List.drop_zero]
  repeat (go_big_quiet_step (first | exact CK.out ⟨_, _, _, _, _, _, _⟩ _ _ | exact CB.out _ _ _ _ _ _ _ _))
  refine wpQuiet_nil ?_
  rintro w3 ⟨⟨dq, osq⟩, rfl⟩
  go_wp2
  go_ret
  obtain ⟨os, hos⟩ := Hg.out
  refine ⟨rfl, dq, os ++ osq, ?_⟩
  subst hos
  simp [grow, World.drewN, Array.append_assoc]

end Go.Proofs.Ytmjjmkdjjfmhhaa

/-
  Layer 07: all descriptions, in order: the program's way.
-/
namespace Go.Proofs.Ytmjjmkdjjfmhhaa
open Go.RowKit Go.Sort Go.Proofs

instance : Inhabited Lsa := ⟨zeroX⟩
abbrev OwnX (w : World) (B : Nat) (v : Value) (L : List Lsa) : Prop := OwnR 27 9 Lsa.cells w B v L
theorem ltOf_X : ltOf cmpX = fun a b => lessK (keyX a) (keyX b) := by
  funext a b
  exact cmpK_less _ _
theorem swoX : SWO (ltOf cmpX) := by
  rw [ltOf_X]
  exact { irrefl := fun _ => lessK_irr _, trans := fun _ _ _ h1 h2 => lessK_trans h1 h2, ntrans := fun _ _ _ h1 h2 => lessK_ntrans h1 h2 }
theorem call_allCmp7 (xs : Array Value) (w : World) : (callFunc 76 xs).run Try.prog w = .ok (.enter 76 xs) w := callOf Try.func76 rfl (by kernel_rfl) xs w
theorem sortX_of (v : Value) (M : List Lsa) (B : Nat) (w : World) (hown : OwnX w B v M) (hlen : M.length ≤ 2 ^ 20) (hk : (M.map keyX).Nodup) :
    Calls Try.prog 75 #[v, .func (.func 76) #[] #[]] w fun r w' => r = .returned (.tuple #[]) ∧ (∃ N, OwnX w' B v N ∧ N.Perm M ∧ sortedX N) ∧ w.grownBy w' v.ownBlock := by
  have h := sort_row Try.sortLsa (C := 9) Try.isAgg27 Try.sizeOf27 Lsa.cells (fun _ => rfl) onesX cmpX swoX 76 call_allCmp7 (fun x y w => allCmp7_any x y w) v M B w hown hlen
  change Calls Try.prog 75 _ _ _ at h
  refine h.mono ?_
  rintro r w' ⟨rfl, N, hN, hpN, hsN, hg⟩
  rw [ltOf_X] at hsN
  have hkeys : (N.map keyX).Nodup := (hpN.map keyX).nodup_iff.2 hk
  refine ⟨rfl, ⟨N, hN, hpN, ?_⟩, hg⟩
  unfold sortedX
  rw [List.Nodup, List.pairwise_map] at hkeys
  refine (hsN.and hkeys).imp fun {a b} ⟨h1, h2⟩ => ?_
  cases h3 : lessK (keyX a) (keyX b) with
  | true => rfl
  | false => exact absurd (lessK_tot h3 h1) h2
theorem dbL_split {R : List Lsa} {pre post : List (K3 × Value)} {e : K3 × Value} (h : dbL R = pre ++ e :: post) : ∃ P h' Q, R = P ++ h' :: Q ∧ pre = dbL P ∧ post = dbL Q ∧ e = (keyH h'.head, h'.val) := by
  unfold dbL at h
  obtain ⟨P, q, rfl, h1, h2⟩ := List.map_eq_append_iff.1 h
  obtain ⟨h', Q, rfl, h3, h4⟩ := List.map_eq_cons_iff.1 h2
  exact ⟨P, h', Q, rfl, h1.symm, h4.symm, h3.symm⟩
theorem dbL_append (P Q : List Lsa) : dbL P ++ dbL Q = dbL (P ++ Q) := by simp [dbL]
theorem XsAt.sorted {W W' : World} {B : Nat} {v : Value} {D N : List Lsa} (h : XsAt W B v D) (ho : OwnX W' B v N) (hg : W.grownBy W' v.ownBlock) (hp : N.Perm D) : XsAt W' B v N :=
  ⟨ho, fun x hx => (h.rows x (hp.subset hx)).grown hg (fun a ha => ha.elim (fun e => (h.far x (hp.subset hx)).1 a e.1 e.2) (fun e => (h.far x (hp.subset hx)).2 a e.1 e.2)), fun x hx => h.far x (hp.subset hx), fun x hx => h.from_ x (hp.subset hx), fun x hx => h.lens x (hp.subset hx)⟩
theorem XsAt.lower {W : World} {B B' : Nat} {v : Value} {L : List Lsa} (h : XsAt W B v L) (hB : B' ≤ B) : XsAt W B' v L :=
  ⟨h.own.lower hB, h.rows, h.far, fun x hx => ⟨fun a e h0 => Nat.le_trans hB ((h.from_ x hx).1 a e h0), fun a e h0 => Nat.le_trans hB ((h.from_ x hx).2 a e h0)⟩, h.lens⟩
theorem XsAt.iter {W W' : World} {B i : Nat} {v : Value} {D : List Lsa} (h : XsAt W B v D) (hg : W.grownBy W' (some i)) (hi : i < B) : XsAt W' B v D :=
  ⟨h.own.kept hg (.inr (fun e => by have := (h.own.block i e).1; omega)), fun x hx => (h.rows x hx).grown hg (fun a ha => ha.elim (fun e e2 => by have := (h.from_ x hx).1 a e.1 e.2; injection e2 with e2; omega) (fun e e2 => by have := (h.from_ x hx).2 a e.1 e.2; injection e2 with e2; omega)), h.far, h.from_, h.lens⟩
/-- sorted by keys without repeats, what they hold stands fast -/
theorem sortedV_one : ∀ {L M : List VX}, L.Perm M → (L.Pairwise fun x y => lessK (keyV x) (keyV y) = true) → (M.Pairwise fun x y => lessK (keyV x) (keyV y) = true) → L = M
  | [], M, hp, _, _ => (List.nil_perm.1 hp).symm
  | x :: L, [], hp, _, _ => absurd hp.length_eq (by simp)
  | x :: L, y :: M, hp, h1, h2 => by
    rw [List.pairwise_cons] at h1 h2
    have hx : x ∈ y :: M := hp.subset (by simp)
    have hy : y ∈ x :: L := hp.symm.subset (by simp)
    have hxy : x = y := by
      rcases List.mem_cons.1 hx with e | hx
      · exact e
      · rcases List.mem_cons.1 hy with e | hy
        · exact e.symm
        · have a := h1.1 y hy
          have b := h2.1 x hx
          have c := lessK_trans a b
          rw [lessK_irr] at c
          cases c
    subst hxy
    rw [sortedV_one (List.Perm.cons_inv hp) h1.2 h2.2]
theorem sortedX_vX {N L : List Lsa} (hp : (N.map vX).Perm (L.map vX)) (h1 : sortedX N) (h2 : sortedX L) : N.map vX = L.map vX :=
  sortedV_one hp (by rw [List.pairwise_map]; exact h1) (by rw [List.pairwise_map]; exact h2)
/-- all, laid out in order -/
structure AllTo (w w' : World) (r : Ending) (M : List Lsa) (v : Value) (N : List Lsa) : Prop where
  ret : r = .returned v
  xs : XsAt w' w.heap.size v N
  perm : (N.map vX).Perm (M.map vX)
  sorted : sortedX N

set_option maxHeartbeats 4000000 in
set_option maxRecDepth 100000 in
theorem DbAll_any (p b : Nat) (room : Int) (M : List Lsa) (w : World) (h : DbAt w p b room M) (hn : (M.map keyX).Nodup) (hlen : M.length ≤ 2 ^ 20) :
    Calls Try.prog 27 #[.pointer (some ⟨p, 0, none⟩)] w fun r w' => (∃ v N, AllTo w w' r M v N) ∧ Below w.heap.size w w' := by
  have hcell := h.ptr.cell 1
  simp only [List.getElem?_toArray, List.getElem?_cons_succ, List.getElem?_cons_zero] at hcell
  have H := Lib.hid h
  have HM := Lib.hid h.map
  have Hn := Lib.hid hn
  clear h hn
  go_enter Try.func27, Try.ntmps27
  go_wp2_with (at_range; refine wpList_range_st _ rfl _ 110 rfl 39 27 Try.underlying110 rfl HM.out ?_; intro w1 hr1 hb1 hs1; have HR := Lib.hid hr1; have Hb1 := Lib.hid hb1; clear hr1 hb1 hs1)
  go_frame
  go_loopw [3] (fun v wr => ∃ D E R, RangeAt K3.enc wr b w.heap.size (dbL M) (dbL R) ∧ (E ++ R).Perm M ∧ D.map vX = E.map vX ∧ XsAt wr (w.heap.size + 1) v D ∧ Below w.heap.size w wr) (fun _ wr => wr.rangeLeft b w.heap.size)
  case atStart => exact ⟨[], [], M, HR.out, by rw [List.nil_append], rfl, XsAt.nil _ _, Hb1.out⟩
  case round =>
    obtain ⟨D, E, R, hrg, hperm, hDE, hxs, hb⟩ := hrel
    obtain ⟨A7, c7, hv7⟩ := hxs.own.shape
    subst hv7
    have hDl : D.length ≤ 2 ^ 20 := by
      have h1 := hperm.length_eq
      have h2 := congrArg List.length hDE
      rw [List.length_append] at h1
      rw [List.length_map, List.length_map] at h2
      omega
    have Hrg := Lib.hid hrg
    have Hperm := Lib.hid hperm
    have HDE := Lib.hid hDE
    have Hxs := Lib.hid hxs
    have Hb := Lib.hid hb
    clear hrg hperm hDE hxs hb
    go_wp2_with (at_next; refine wpList_next_st _ rfl _ rfl keyK3.inj rfl Hrg.out ?_ ?_)
    · intro h0
      have hR0 : R = [] := by simpa [dbL] using h0
      subst hR0
      clear h0
      have hperm := Hperm.out
      rw [List.append_nil] at hperm
      have hp : (D.map vX).Perm (M.map vX) := by rw [HDE.out]; exact hperm.map vX
      have hk : (D.map keyX).Nodup := by
        rw [← map_keys, (hp.map keyV).nodup_iff, map_keys]
        exact Hn.out
      have HS := Lib.hid (fun W hO => sortX_of (.slice A7 D.length c7) D (w.heap.size + 1) W hO hDl hk)
      have Hp := Lib.hid hp
      clear hperm hp hk
      go_wp2_with (go_at_call 75; (with_reducible refine Calls.mono (HS.out _ Hxs.out.own) ?_); rintro r w3 ⟨rfl, ⟨N, hown3, hpN, hsN⟩, hg3⟩; have Hx3 := Lib.hid (Hxs.out.sorted hown3 hg3 hpN); have HN := Lib.hid hpN; have HsN := Lib.hid hsN; have Hg3 := Lib.hid hg3; clear hown3 hg3 hpN hsN)
      go_ret
      exact ⟨⟨_, N, rfl, Hx3.out.lower (by omega), (HN.out.map vX).trans Hp.out, HsN.out⟩, Hb.out.grown Hg3.out Hb.out.size (fun k hk => by have := (Hxs.out.own.block k hk).1; omega)⟩
    · intro pre e ev post w2 hsplit hrg2 hg2 hs2 hen
      obtain ⟨P, x, Q, hR, rfl, rfl, he⟩ := dbL_split hsplit
      injection he with he1 he2
      subst he1 he2
      rw [dbL_append] at hrg2
      have hmeas : (dbL (P ++ Q)).length < (dbL R).length := by rw [hR]; simp [dbL]
      have hperm2 : (E ++ [x] ++ (P ++ Q)).Perm M := by
        refine List.Perm.trans ?_ Hperm.out
        rw [hR, List.append_assoc]
        refine List.Perm.append_left E ?_
        rw [List.singleton_append]
        exact List.perm_middle.symm
      have hxM : x ∈ M := hperm2.subset (by simp)
      have Hmeas := Lib.hid hmeas
      have Hperm2 := Lib.hid hperm2
      have hb2 : Below w.heap.size w w2 := Hb.out.grown hg2 Hb.out.size (fun k hk => by injection hk with hk; omega)
      have hxs2 : XsAt w2 (w.heap.size + 1) (.slice A7 D.length c7) D := Hxs.out.iter hg2 (by omega)
      have hdb2 := H.out.keep hb2
      have Hrow := Lib.hid (hdb2.rows x hxM)
      have Hln := Lib.hid (hdb2.lens x hxM)
      have Hrg2 := Lib.hid hrg2
      have Hxs2 := Lib.hid hxs2
      have Hb2 := Lib.hid hb2
      clear hsplit hrg2 hg2 hs2 hR hmeas hperm2 hxM hb2 hxs2 hdb2
      obtain ⟨⟨y1, y2, y3, y4, y5, y6, y7⟩, ka, kc, ls, ma, mc, ms⟩ := x
      obtain ⟨nl, hnl⟩ : ∃ nl, ls.length = nl := ⟨_, rfl⟩
      obtain ⟨nm, hnm⟩ : ∃ nm, ms.length = nm := ⟨_, rfl⟩
      unfold Lsa.val Lsa.cells keyH at hen
      simp only [hnl, hnm] at hen
      have Hnl := Lib.hid hnl.symm
      have Hnm := Lib.hid hnm.symm
      clear hnl hnm
      obtain ⟨w3, hW3⟩ : ∃ w3, w2.alloc (.cells #[.int .i64 y1, .int .i64 y2, .int .i64 y3, .int .i64 y4, .int .i64 y5, .int .i64 y6, .int .i64 y7, .slice ka nl kc, .slice ma nm mc] 27) = w3 := ⟨_, rfl⟩
      have hb3 := below_new w2 (.cells #[.int .i64 y1, .int .i64 y2, .int .i64 y3, .int .i64 y4, .int .i64 y5, .int .i64 y6, .int .i64 y7, .slice ka nl kc, .slice ma nm mc] 27)
      have hk3 := Blk.new w2 27 #[.int .i64 y1, .int .i64 y2, .int .i64 y3, .int .i64 y4, .int .i64 y5, .int .i64 y6, .int .i64 y7, .slice ka nl kc, .slice ma nm mc]
      rw [hW3] at hb3 hk3
      obtain ⟨z0, z1, z2, z3, z4, z5, z6, z7, z8, zf⟩ := blk9 hk3
      clear hk3
      have HO := Lib.hid (own_any y1 y2 y3 y4 y5 y6 y7 ka kc ls ma mc ms w3 w3.heap.size (rows_keep Hrow.out.1 hb3) (rows_keep Hrow.out.2 hb3) (Nat.le_refl _) (Nat.le_trans Hln.out.1 (by decide)) (Nat.le_trans Hln.out.2 (by decide)) nl nm Hnl.out Hnm.out)
      have Hb3 := Lib.hid hb3
      have Hs3 := Lib.hid (show w2.heap.size + 1 = w3.heap.size by rw [← hW3]; simp)
      clear hb3
      go_wp2_with fail
      with_reducible refine Calls.mono HO.out ?_
      rintro r w4 ⟨Aa, ca, Ab, cb, rfl, oa, ob, hb4⟩
      have hx3 := Hxs2.out.keep Hb3.out
      have HX := Lib.hid (seal_el (q := w.heap.size) (h := ⟨y1, y2, y3, y4, y5, y6, y7⟩) hx3.own (by have := Hb2.out.size; have := Hs3.out; omega) Hnl.out Hnm.out Hln.out.1 Hln.out.2 oa ob)
      have Hx4 := Lib.hid (hx3.keep hb4)
      have Hb4 := Lib.hid (below_trans Hb3.out Hb3.out.size hb4)
      have Hrg4 := Lib.hid (show RangeAt K3.enc w4 b w.heap.size (dbL M) (dbL (P ++ Q)) from by have h := (Hrg2.out.alloc (.cells #[.int .i64 y1, .int .i64 y2, .int .i64 y3, .int .i64 y4, .int .i64 y5, .int .i64 y6, .int .i64 y7, .slice ka nl kc, .slice ma nm mc] 27)); rw [hW3] at h; exact h.below hb4 h.map.lt h.lt)
      have Hba5 := Lib.hid (below_new w4 (.cells #[.int .i64 y1, .int .i64 y2, .int .i64 y3, .int .i64 y4, .int .i64 y5, .int .i64 y6, .int .i64 y7, .slice Aa nl ca, .slice Ab nm cb] 27))
      have Hbk5 := Lib.hid (show Blk (w4.alloc (.cells #[.int .i64 y1, .int .i64 y2, .int .i64 y3, .int .i64 y4, .int .i64 y5, .int .i64 y6, .int .i64 y7, .slice Aa nl ca, .slice Ab nm cb] 27)) w4.heap.size 27 (Lsa.cells ⟨⟨y1, y2, y3, y4, y5, y6, y7⟩, Aa, ca, ls, Ab, cb, ms⟩).toArray by unfold Lsa.cells; simp only; rw [← Hnl.out, ← Hnm.out]; exact Blk.new _ _ _)
      have Hsz := Lib.hid (show w.heap.size + 1 ≤ w4.heap.size from by have := Hb2.out.size; have := Hs3.out; have := hb4.size; omega)
      clear hx3 oa ob hb4
      go_wp2_with (at_builtin; (refine app_row Lsa.cells (fun _ => rfl) (by decide) (bytes := 104) (by decide) infoX rfl Try.underlying35 onesX (by rfl) _ _ (by rfl) (w.heap.size + 1) _ D (by rfl) (Hx4.out.own.below Hba5.out) w4.heap.size ⟨⟨y1, y2, y3, y4, y5, y6, y7⟩, Aa, ca, ls, Ab, cb, ms⟩ (by rfl) Hbk5.out (by omega) (by have := Hsz.out; have := Hba5.out.size; omega) ?_); intro v6 w6 hown6 hg6 hor6; have Hx6 := Lib.hid ((Hx4.out.keep Hba5.out).app hown6 hg6 hor6 (HX.out.1.keep Hba5.out) HX.out.2.1 HX.out.2.2.1 HX.out.2.2.2); have Hg6 := Lib.hid hg6; clear hown6 hg6 hor6)
      have hne : ∀ j, (Value.slice A7 D.length c7).ownBlock = some j → w.heap.size + 1 ≤ j := fun j hj => (Hx4.out.own.block j hj).1
      have hrg6 : RangeAt K3.enc w6 b w.heap.size (dbL M) (dbL (P ++ Q)) := (Hrg4.out.below Hba5.out Hrg4.out.map.lt Hrg4.out.lt).grown Hg6.out (fun e => by have := hne b e.symm; have := HM.out.lt; omega) (fun e => by have := hne _ e.symm; omega)
      have Hrg6 := Lib.hid hrg6
      have Hb6 := Lib.hid (show Below w.heap.size w w6 from ((below_trans Hb2.out Hb2.out.size Hb4.out) |> fun h => below_trans h h.size Hba5.out).grown Hg6.out (by have := Hsz.out; have := Hba5.out.size; omega) (fun j hj => by have := hne j hj; omega))
      clear hne hrg6
      go_wp2
      go_roundw
      case measure => rw [Hrg6.out.left_eq, Hrg.out.left_eq]; exact Hmeas.out
      case rel => exact ⟨D ++ [⟨⟨y1, y2, y3, y4, y5, y6, y7⟩, Aa, ca, ls, Ab, cb, ms⟩], E ++ [⟨⟨y1, y2, y3, y4, y5, y6, y7⟩, ka, kc, ls, ma, mc, ms⟩], P ++ Q, Hrg6.out, Hperm2.out, by rw [List.map_append, List.map_append, HDE.out]; rfl, Hx6.out, Hb6.out⟩

end Go.Proofs.Ytmjjmkdjjfmhhaa
