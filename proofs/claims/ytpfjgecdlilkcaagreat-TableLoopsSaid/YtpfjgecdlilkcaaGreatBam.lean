/-
  Layer 21: the search's rounds, by what is found (places apart).
-/
import Derived.Shelf.SlGeneric
import Derived.Shelf.SlSortCmp.NoneTotal
import Derived.Ground.SlsfProg
import Derived.Test.YtpfjgecdlilkcaaGreatProg
import Derived.Test.YtpfjgecdlilkcaaGreatBae
import Derived.Test.YtpfjgecdlilkcaaGreatBak
import Derived.Test.YtpfjgecdlilkcaaGreatBal
namespace Go.Proofs.YtpfjgecdlilkcaaGreat
open Go.RowKit

structure DjSt (E : List Ed) (r : Vx) (F : Fnd) (O : List Vx) (Z : List Ed) : Prop where
  dij : Dij E r O Z (tabF F)
  dn : ∀ v x, getF v F = some x → (x.done = true ↔ v ∈ O)
  all : ∀ e ∈ E, cntE e = true → e.src ∈ O → e ∈ Z
/-- in the midst of the edges of u -/
structure DjIn (E : List Ed) (r : Vx) (F : Fnd) (O : List Vx) (Z : List Ed) (u : Vx) (p : Pl) : Prop where
  dij : Dij E r O Z (tabF F)
  dn : ∀ v x, getF v F = some x → (x.done = true ↔ v ∈ O)
  at_ : tabF F u = some p
  mem : u ∈ O
  last : ∀ v q, v ∈ O → tabF F v = some q → rankV v q.a ≤ rankV u p.a
  room : p.a.c + 100 ≤ 100 * O.length ∧ p.a.h + 1 ≤ O.length
section
variable {E : List Ed} {r u : Vx} {F F' : Fnd} {O : List Vx} {Z : List Ed} {p : Pl}
theorem tabF_get {v : Vx} {q : Pl} (h : tabF F v = some q) : ∃ x, getF v F = some x ∧ x.pl = q := by
  unfold tabF at h
  obtain ⟨x, hx, e⟩ := Option.map_eq_some_iff.1 h
  exact ⟨x, hx, e⟩
theorem DjSt.start (hr : mayV r = true) {x : PlW} (hx : x.pl = ⟨⟨0, 0⟩, []⟩) (hd : x.done = false) : DjSt E r (setF r x []) [] [] where
  dij := Dij.start hr fun v => by
    rw [tabF_set, hx]
    rfl
  dn := fun v y hy => by
    rw [getF_set] at hy
    by_cases hv : v = r
    · rw [if_pos hv] at hy
      cases hy
      simp [hd]
    · rw [if_neg hv] at hy
      cases hy
  all := fun e _ _ h => by cases h
theorem DjSt.may (h : DjSt E r F O Z) (hk : (F.map (·.1)).Nodup) : ∀ e ∈ F, mayV e.1 = true := fun e he => h.dij.may _ _ (tabF_some (getF_of_mem (v := e.1) (x := e.2) hk he))
theorem DjSt.low (h : DjSt E r F O Z) (hk : (F.map (·.1)).Nodup) : ∀ e ∈ F, e.2.pl.a.c ≤ 100000 := fun e he => by
  have := (h.dij.low (tabF_some (getF_of_mem (v := e.1) (x := e.2) hk he))).1
  omega
theorem DjIn.low (h : DjIn E r F O Z u p) (hr : r.kind = 1) {v : Vx} {x : PlW} (hx : getF v F = some x) : x.pl.a.c ≤ 100000 ∧ x.pl.a.h ≤ 1000 ∧ x.pl.next.length ≤ 2 ^ 16 := by
  have h1 := h.dij.low (tabF_some hx)
  have h2 := h.dij.few hr (tabF_some hx)
  omega
theorem tabF_done {x : PlW} (hu : getF u F = some x) (d : Bool) : tabF (setF u ⟨x.p, x.A, x.c, x.pl, d⟩ F) = tabF F := by
  funext v
  rw [tabF_set]
  by_cases hv : v = u
  · rw [if_pos hv, hv, tabF_some hu]
  · rw [if_neg hv]
theorem DjSt.pick (h : DjSt E r F O Z) (hk : (F.map (·.1)).Nodup) {x : PlW} (hb : BestOf F (some (u, x))) : DjIn E r (setF u ⟨x.p, x.A, x.c, x.pl, true⟩ F) (O ++ [u]) Z u x.pl := by
  obtain ⟨hm, hd, hmin⟩ := hb
  have hu : getF u F = some x := getF_of_mem hk hm
  have ht := tabF_done hu true
  have hno : u ∉ O := fun g => by
    have := (h.dn u x hu).2 g
    simp only at hd
    rw [hd] at this
    cases this
  have hsm := h.dij.small _ _ (tabF_some hu)
  have hpk := h.dij.pick (tabF_some hu) hno (fun v q hv hq => by
    obtain ⟨y, hy, rfl⟩ := tabF_get hq
    refine hmin (v, y) (getF_mem hy) ?_
    cases hyd : y.done with
    | false => simp only
    | true => exact absurd ((h.dn v y hy).1 hyd) hv)
  refine ⟨by rw [ht]; exact hpk, ?_, by rw [ht]; exact tabF_some hu, by simp, ?_, ?_⟩
  · intro v y hy
    rw [getF_set] at hy
    by_cases hv : v = u
    · rw [if_pos hv] at hy
      cases hy
      simp [hv]
    · rw [if_neg hv] at hy
      rw [h.dn v y hy, List.mem_append, List.mem_singleton]
      constructor
      · exact .inl
      · rintro (g | g)
        · exact g
        · exact absurd g hv
  · intro v q hv hq
    rw [ht] at hq
    rcases List.mem_append.1 hv with hv | hv
    · exact h.dij.order v q u x.pl hv hq hno (tabF_some hu)
    · rw [List.mem_singleton] at hv
      subst hv
      rw [tabF_some hu] at hq
      cases hq
      exact Nat.le_refl _
  · rw [List.length_append, List.length_singleton]
    omega
theorem DjIn.step (h : DjIn E r F O Z u p) {e : Ed} (he : e ∈ E) (hc : cntE e = true) (hs : e.src = u) (hr : r.kind = 1) (hst : StepF r F F' e p) : DjIn E r F' O (Z ++ [e]) u p := by
  obtain ⟨h1, h2, h3⟩ := h.dij.step h.at_ h.mem h.last h.room he hc hs hr hst.tab
  refine ⟨h1, ?_, h2, h.mem, fun v q hv hq => h.last v q hv (by rw [← h3 v hv]; exact hq), h.room⟩
  intro v x hx
  by_cases hv : v = e.dst
  · subst hv
    obtain ⟨y', hy', hcase⟩ := hst.dst
    rw [hx] at hy'
    cases hy'
    rcases hcase with ⟨y, hy, hd⟩ | ⟨hd, hlt⟩
    · rw [hd]; exact h.dn _ y hy
    · rw [hd]
      constructor
      · intro g; cases g
      · intro g
        exfalso
        obtain ⟨q, hq⟩ := h.dij.had _ g
        obtain ⟨y, hy, rfl⟩ := tabF_get hq
        have h4 := hlt y hy
        have h5 := h.last _ _ g hq
        have h6 := rank_step hc p.a
        rw [hs] at h6
        unfold rankV stepV at *
        simp only at h5 h6
        omega
  · rw [hst.oth v hv] at hx
    exact h.dn v x hx
theorem DjIn.ends (h : DjIn E r F O Z u p) {O' : List Vx} (hO : O = O' ++ [u]) (h1 : ∀ e ∈ E, cntE e = true → e.src ∈ O' → e ∈ Z) (h2 : ∀ e ∈ E, cntE e = true → e.src = u → e ∈ Z) : DjSt E r F O Z := by
  refine ⟨h.dij, h.dn, fun e he hc hm => ?_⟩
  rw [hO] at hm
  rcases List.mem_append.1 hm with hm | hm
  · exact h1 e he hc hm
  · rw [List.mem_singleton] at hm
    exact h2 e he hc hm
/-- all is done: what is found is the tree -/
theorem DjSt.tree (h : DjSt E r F O Z) (hk : (F.map (·.1)).Nodup) (hb : BestOf F none) {DD : Vx → Vx → Option Val2} (hD : Dists E DD) (hr : r.kind = 1) {L : List Nk} (hs : L.Pairwise fun x y => ltX x.v y.v) (hL : ∀ n, n ∈ L ↔ ∃ e ∈ F, n = ⟨e.1, e.2.pl.a, e.2.pl.next⟩) : TreeIs E DD r L := by
  have hall : ∀ v q, tabF F v = some q → v ∈ O := fun v q hq => by
    obtain ⟨x, hx, rfl⟩ := tabF_get hq
    exact (h.dn v x hx).1 (hb _ (getF_mem hx))
  refine tree_of_dij h.dij hall h.all hD hr hs ?_ ?_
  · intro n hn
    obtain ⟨e, he, rfl⟩ := (hL n).1 hn
    exact tabF_some (getF_of_mem (v := e.1) (x := e.2) hk he)
  · intro v q hq
    obtain ⟨x, hx, rfl⟩ := tabF_get hq
    exact ⟨⟨v, x.pl.a, x.pl.next⟩, (hL _).2 ⟨(v, x), getF_mem hx, rfl⟩, rfl⟩
end

end Go.Proofs.YtpfjgecdlilkcaaGreat

/-
  The library's slices.SortFunc, laid at this program: written by lay-plain.mjs of the kit.
-/
namespace Go.Proofs
open Go.Shelf
def Tryz.sortNode_ren : Go.Shelf.Ren := ⟨fun | 6 => 38 | 15 => 62 | 14 => 67 | 28 => 85 | 29 => 86 | 20 => 89 | 21 => 90 | 22 => 91 | 23 => 92 | 24 => 93 | 25 => 94 | 26 => 95 | 27 => 96 | 46 => 119 | 47 => 114 | 48 => 115 | 49 => 120 | 50 => 121 | 57 => 129 | n => n, fun | 22 => 56 | 24 => 63 | 25 => 107 | 3 => 3 | 39 => 65 | 0 => 0 | 53 => 156 | 55 => 158 | 4 => 4 | 46 => 150 | 45 => 149 | 50 => 84 | 5 => 5 | 9 => 9 | 66 => 175 | 70 => 179 | 76 => 188 | 77 => 189 | n => n, fun | n => n⟩
theorem Tryz.sortNode : Go.Proofs.SlLaysF0.n6 Tryz.prog Tryz.sortNode_ren := {
  mixed := by kernel_rfl
  f6 := ⟨Tryz.f38.name, by decide, Tryz.func38.trans (congrArg some (by kernel_rfl))⟩
  f14 := ⟨Tryz.f67.name, by decide, Tryz.func67.trans (congrArg some (by kernel_rfl))⟩
  f15 := Tryz.func62.trans (congrArg some (by kernel_rfl))
  f20 := ⟨Tryz.f89.name, by decide, Tryz.func89.trans (congrArg some (by kernel_rfl))⟩
  f21 := ⟨Tryz.f90.name, by decide, Tryz.func90.trans (congrArg some (by kernel_rfl))⟩
  f22 := ⟨Tryz.f91.name, by decide, Tryz.func91.trans (congrArg some (by kernel_rfl))⟩
  f23 := ⟨Tryz.f92.name, by decide, Tryz.func92.trans (congrArg some (by kernel_rfl))⟩
  f24 := ⟨Tryz.f93.name, by decide, Tryz.func93.trans (congrArg some (by kernel_rfl))⟩
  f25 := ⟨Tryz.f94.name, by decide, Tryz.func94.trans (congrArg some (by kernel_rfl))⟩
  f26 := ⟨Tryz.f95.name, by decide, Tryz.func95.trans (congrArg some (by kernel_rfl))⟩
  f27 := ⟨Tryz.f96.name, by decide, Tryz.func96.trans (congrArg some (by kernel_rfl))⟩
  f28 := Tryz.func85.trans (congrArg some (by kernel_rfl))
  f29 := Tryz.func86.trans (congrArg some (by kernel_rfl))
  f46 := ⟨Tryz.f119.name, by decide, Tryz.func119.trans (congrArg some (by kernel_rfl))⟩
  f47 := Tryz.func114.trans (congrArg some (by kernel_rfl))
  f48 := Tryz.func115.trans (congrArg some (by kernel_rfl))
  f49 := ⟨Tryz.f120.name, by decide, Tryz.func120.trans (congrArg some (by kernel_rfl))⟩
  f50 := ⟨Tryz.f121.name, by decide, Tryz.func121.trans (congrArg some (by kernel_rfl))⟩
  f57 := ⟨Tryz.f129.name, by decide, Tryz.func129.trans (congrArg some (by kernel_rfl))⟩
  t0 := Tryz.underlying0
  a0 := Tryz.isAgg0
  z0 := Tryz.sizeOf0
  v0 := Tryz.zeroValue0
  t3 := Tryz.underlying3
  a3 := Tryz.isAgg3
  z3 := Tryz.sizeOf3
  v3 := Tryz.zeroValue3
  t4 := Tryz.underlying4
  a4 := Tryz.isAgg4
  z4 := Tryz.sizeOf4
  v4 := Tryz.zeroValue4
  t5 := Tryz.underlying5
  a5 := Tryz.isAgg5
  z5 := Tryz.sizeOf5
  v5 := Tryz.zeroValue5
  t9 := Tryz.underlying9
  a9 := Tryz.isAgg9
  z9 := Tryz.sizeOf9
  v9 := Tryz.zeroValue9
  t22 := Tryz.underlying56
  a22 := Tryz.isAgg56
  z22 := Tryz.sizeOf56
  v22 := Tryz.zeroValue56
  t25 := Tryz.underlying107
  a25 := Tryz.isAgg107
  z25 := Tryz.sizeOf107
  v25 := Tryz.zeroValue107
  t39 := Tryz.underlying65
  a39 := Tryz.isAgg65
  z39 := Tryz.sizeOf65
  v39 := Tryz.zeroValue65
  t45 := Tryz.underlying149
  a45 := Tryz.isAgg149
  z45 := Tryz.sizeOf149
  v45 := Tryz.zeroValue149
  t46 := Tryz.underlying150
  a46 := Tryz.isAgg150
  z46 := Tryz.sizeOf150
  v46 := Tryz.zeroValue150
  t50 := Tryz.underlying84
  a50 := Tryz.isAgg84
  z50 := Tryz.sizeOf84
  v50 := Tryz.zeroValue84
  t53 := Tryz.underlying156
  a53 := Tryz.isAgg156
  z53 := Tryz.sizeOf156
  v53 := Tryz.zeroValue156
  t55 := Tryz.underlying158
  a55 := Tryz.isAgg158
  z55 := Tryz.sizeOf158
  v55 := Tryz.zeroValue158
  t66 := Tryz.underlying175
  a66 := Tryz.isAgg175
  z66 := Tryz.sizeOf175
  v66 := Tryz.zeroValue175
  t70 := Tryz.underlying179
  a70 := Tryz.isAgg179
  z70 := Tryz.sizeOf179
  v70 := Tryz.zeroValue179
  t76 := Tryz.underlying188
  a76 := Tryz.isAgg188
  z76 := Tryz.sizeOf188
  v76 := Tryz.zeroValue188
  t77 := Tryz.underlying189
  a77 := Tryz.isAgg189
  z77 := Tryz.sizeOf189
  v77 := Tryz.zeroValue189 }
end Go.Proofs

/-
  Layer 21: nodes in memory; how they are compared; sorted.
-/
namespace Go.Proofs.YtpfjgecdlilkcaaGreat
open Go.RowKit Go.Sort Go.Proofs

/-- a node as it lies in memory -/
structure NodeM where
  v : Vx
  a : Val2
  A : Option Addr
  c : Nat
  next : List Hp
def NodeM.nk (x : NodeM) : Nk := ⟨x.v, x.a, x.next⟩
def NodeM.nv (x : NodeM) : Value := .slice x.A x.next.length x.c
def NodeM.cells (x : NodeM) : List Value := [.int .i64 x.v.kind, .int .i64 x.v.id, .int .i64 x.a.c, .int .i64 x.a.h, .slice x.A x.next.length x.c]
theorem onesN (x : NodeM) : ∀ u ∈ NodeM.cells x, u.oneCell' = true := by
  intro u hu
  simp [NodeM.cells] at hu
  rcases hu with rfl | rfl | rfl | rfl | rfl <;> rfl
theorem infoN : (Tryz.prog.info? 63).map (fun i => (i.zero, i.size, i.bytes)) = some (some (.agg #[.int .i64 0, .int .i64 0, .int .i64 0, .int .i64 0, .slice none 0 0]), 5, 56) := by kernel_rfl
instance : Inhabited NodeM := ⟨⟨⟨0, 0⟩, ⟨0, 0⟩, none, 0, []⟩⟩
def cmpN (a b : NodeM) : Int := cmp2 a.v.kind a.v.id b.v.kind b.v.id
set_option maxHeartbeats 2000000 in
set_option maxRecDepth 100000 in
theorem nodeCmp_any (a b : NodeM) (w : World) : Calls Tryz.prog 39 #[.agg a.cells.toArray, .agg b.cells.toArray] w fun r w' => r = .returned (.int .i64 (cmpN a b)) ∧ ∃ q os', w' = grow (w.drewN q) os' := by
  obtain ⟨⟨a1, a2⟩, ⟨a3, a4⟩, aA, ac, an⟩ := a
  obtain ⟨⟨b1, b2⟩, ⟨b3, b4⟩, bA, bc, bn⟩ := b
  unfold cmpN NodeM.cells
  simp only
  obtain ⟨al, hal⟩ : ∃ n, an.length = n := ⟨_, rfl⟩
  obtain ⟨bl, hbl⟩ : ∃ n, bn.length = n := ⟨_, rfl⟩
  rw [hal, hbl]
  clear hal hbl
  obtain ⟨w0, hW0⟩ : ∃ w0, (w.alloc (.cells #[.int .i64 a1, .int .i64 a2, .int .i64 a3, .int .i64 a4, .slice aA al ac] 63)).alloc (.cells #[.int .i64 b1, .int .i64 b2, .int .i64 b3, .int .i64 b4, .slice bA bl bc] 63) = w0 := ⟨_, rfl⟩
  have hA : Blk w0 w.heap.size 63 #[.int .i64 a1, .int .i64 a2, .int .i64 a3, .int .i64 a4, .slice aA al ac] := by rw [← hW0]; exact (Blk.new w _ _).alloc _
  have hB : Blk w0 (w.heap.size + 1) 63 #[.int .i64 b1, .int .i64 b2, .int .i64 b3, .int .i64 b4, .slice bA bl bc] := by rw [← hW0]; exact Blk.size (by simp)
  have Hg : Hid (∃ os, w0 = grow w os) := Lib.hid ⟨_, by rw [← hW0, alloc_eq_grow, alloc_eq_grow, grow_grow]⟩
  obtain ⟨a_0, a_1⟩ : _ ∧ _ := ⟨hA.cell 0, hA.cell 1⟩
  obtain ⟨b_0, b_1⟩ : _ ∧ _ := ⟨hB.cell 0, hB.cell 1⟩
  simp only [List.getElem?_toArray, List.getElem?_cons_zero, List.getElem?_cons_succ] at a_0 a_1 b_0 b_1
  clear hA hB
  go_enter Tryz.func39, Tryz.ntmps39
  go_wp2_with fail
  refine wp_drew_tail 14 (by kernel_rfl) (by kernel_rfl) ?_
  simp only [List.take_succ_cons, List.take_zero, List.drop_succ_cons, List.drop_zero]
  repeat (go_big_quiet_step (exact cmp_q _ _ _ _))
  refine wpQuiet_nil ?_
  rintro w3 ⟨dq, rfl⟩
  go_wp2_with (go_at_call 32; (with_reducible refine Calls.mono (or2_s _ _ _) ?_); rintro r w4 ⟨rfl, rfl⟩)
  go_ret
  obtain ⟨os, hos⟩ := Hg.out
  refine ⟨rfl, dq, os.push (.cells #[.int .i64 (cmpI a1 b1), .int .i64 (cmpI a2 b2)] 3), ?_⟩
  subst hos
  simp [grow, World.alloc, World.drewN]
theorem cmpN_lt (a b : NodeM) : cmpN a b < 0 ↔ ltX a.v b.v := by
  unfold cmpN ltX
  rw [(cmp2_lt _ _ _ _).1]
theorem ltOf_N {a b : NodeM} : (ltOf cmpN a b = true ↔ ltX a.v b.v) ∧ (ltOf cmpN a b = false ↔ ¬ ltX a.v b.v) := by
  unfold ltOf
  rw [← cmpN_lt]
  simp
theorem swoN : SWO (ltOf cmpN) where
  irrefl := fun x => ltOf_N.2.2 (ltX_irr x.v)
  trans := fun x y z h1 h2 => by rw [ltOf_N.1] at *; unfold ltX at *; omega
  ntrans := fun x y z h1 h2 => by rw [ltOf_N.2] at *; unfold ltX at *; omega
theorem call_N (xs : Array Value) (w : World) : (callFunc 39 xs).run Tryz.prog w = .ok (.enter 39 xs) w := callOf Tryz.func39 rfl (by kernel_rfl) xs w
theorem sortNs (v : Value) (M : List NodeM) (B : Nat) (w : World) (hown : OwnR 63 5 NodeM.cells w B v M) (hlen : M.length ≤ 2 ^ 20) (ha : M.Pairwise fun x y => ltX x.v y.v ∨ ltX y.v x.v) :
    Calls Tryz.prog 38 #[v, .func (.func 39) #[] #[]] w fun r w' => r = .returned (.tuple #[]) ∧ (∃ N, OwnR 63 5 NodeM.cells w' B v N ∧ N.Perm M ∧ N.Pairwise fun x y => ltX x.v y.v) ∧ w.grownBy w' v.ownBlock := by
  have h := sort_row Tryz.sortNode (C := 5) Tryz.isAgg63 Tryz.sizeOf63 NodeM.cells (fun _ => rfl) onesN cmpN swoN 39 call_N (fun x y w => nodeCmp_any x y w) v M B w hown hlen
  change Calls Tryz.prog 38 _ _ _ at h
  refine h.mono ?_
  rintro r w' ⟨rfl, N, hN, hpN, hsN, hg⟩
  exact ⟨rfl, ⟨N, hN, hpN, sort_strict (R := fun x y : NodeM => ltX x.v y.v) hpN (hsN.imp fun {x y} h => ltOf_N.2.1 h) ha⟩, hg⟩

end Go.Proofs.YtpfjgecdlilkcaaGreat
