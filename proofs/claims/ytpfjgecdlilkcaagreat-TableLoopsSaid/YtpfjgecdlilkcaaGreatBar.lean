/-
  Layer 21: the document's Tree of any root; one node, in a row of its own.
-/
import Derived.Shelf.SlGeneric
import Derived.Shelf.SlSortCmp.NoneTotal
import Derived.Ground.SlsfProg
import Derived.Test.YtpfjgecdlilkcaaGreatProg
import Derived.Test.YtpfjgecdlilkcaaGreatBad
import Derived.Test.YtpfjgecdlilkcaaGreatBae
import Derived.Test.YtpfjgecdlilkcaaGreatBaf
import Derived.Test.YtpfjgecdlilkcaaGreatBah
import Derived.Test.YtpfjgecdlilkcaaGreatBak
import Derived.Test.YtpfjgecdlilkcaaGreatBao
import Derived.Test.YtpfjgecdlilkcaaGreatBaq
namespace Go.Proofs.YtpfjgecdlilkcaaGreat
open Go.RowKit

set_option maxHeartbeats 4000000 in
set_option maxRecDepth 100000 in
theorem refTree_none (ri : Int) (A : Option Addr) (cap n : Nat) (w : World) (hm : mayV ⟨1, ri⟩ = false) :
    Calls Tryz.prog 22 #[.int .i64 ri, .slice A n cap] w fun r w' => r = .returned (.slice none 0 0) ∧ Below w.heap.size w w' := by
  have hb0 := below_new w (.cells #[.int .i64 1, .int .i64 ri] 61)
  have hk0 := Blk.new w 61 #[.int .i64 1, .int .i64 ri]
  obtain ⟨w0, hw0⟩ : ∃ w0, w.alloc (.cells #[.int .i64 1, .int .i64 ri] 61) = w0 := ⟨_, rfl⟩
  obtain ⟨g5, hg5⟩ : ∃ g, w.heap.size = g := ⟨_, rfl⟩
  rw [hw0] at hb0 hk0
  rw [hg5] at hk0
  have Hb0 := Lib.hid hb0
  have HMay := Lib.hid (fun W => refMay_any 1 ri W hm)
  obtain ⟨z0, z1, -, -⟩ := hk0.cells2
  clear hm hb0 hk0
  go_enter Tryz.func22, Tryz.ntmps22
  go_wp2_with fail
  with_reducible refine Calls.mono (HMay.out _) ?_
  rintro r w1 ⟨rfl, hb1⟩
  have Hb1 := Lib.hid (below_trans Hb0.out Hb0.out.size hb1)
  clear hb1 hw0 hg5 z0 z1
  go_wp2
  go_ret
  exact ⟨rfl, Hb1.out⟩
theorem refTree_all (ri : Int) (A : Option Addr) (cap : Nat) (E : List Ed) (w : World) (hE : RowsAt 5 Ed.cells w w.heap.size A E) (hlen : E.length ≤ 4000) (n : Nat) (hn : n = E.length) (DD : Vx → Vx → Option Val2) (hD : Dists E DD) :
    Calls Tryz.prog 22 #[.int .i64 ri, .slice A n cap] w fun r w' => (∃ v N, r = .returned v ∧ NodesAt w' w.heap.size v N ∧ TreeOf E DD ⟨1, ri⟩ (N.map NodeM.nk)) ∧ Below w.heap.size w w' := by
  cases hm : mayV ⟨1, ri⟩ with
  | true =>
    refine (refTree_any ri A cap E w hE hlen n hn DD hD hm).mono ?_
    rintro r w' ⟨⟨v, N, hr, hN, hT⟩, hb⟩
    exact ⟨⟨v, N, hr, hN, ⟨fun _ => hT, (fun h => by rw [hm] at h; cases h)⟩⟩, hb⟩
  | false =>
    refine (refTree_none ri A cap n w hm).mono ?_
    rintro r w' ⟨hr, hb⟩
    exact ⟨⟨_, [], hr, ⟨OwnR.nil _ _, by simp⟩, ⟨(fun h => by rw [hm] at h; cases h), fun _ => rfl⟩⟩, hb⟩
theorem treeOf_unique {E : List Ed} {DD : Vx → Vx → Option Val2} {r : Vx} {L L' : List Nk} (hD : Dists E DD) (h : TreeOf E DD r L) (h' : TreeOf E DD r L') : L = L' := by
  cases hm : mayV r with
  | true => exact tree_unique hD hD (h.1 hm) (h'.1 hm) fun _ _ => Iff.rfl
  | false => rw [h.2 hm, h'.2 hm]
theorem treeOf_in {E : List Ed} {DD : Vx → Vx → Option Val2} {r : Vx} {L : List Nk} (h : TreeOf E DD r L) {n : Nk} (hn : n ∈ L) : TreeIs E DD r L := by
  cases hm : mayV r with
  | true => exact h.1 hm
  | false => rw [h.2 hm] at hn; cases hn
theorem treeOf_may {E : List Ed} {DD : Vx → Vx → Option Val2} {r : Vx} {L : List Nk} (hD : Dists E DD) (h : TreeOf E DD r L) : ∀ n ∈ L, mayV n.v = true := by
  intro n hn
  cases hm : mayV r with
  | true => exact (hD r).may hm _ _ ((h.1 hm).val n hn)
  | false => rw [h.2 hm] at hn; cases hn
theorem find_other {E : List Ed} {DD : Vx → Vx → Option Val2} {r : Vx} {N : List NodeM} (hD : Dists E DD) (h : TreeOf E DD r (N.map NodeM.nk)) {v : Vx} (hv : mayV v = false) : findN N v = none :=
  findN_not fun p hp e => by
    have := treeOf_may hD h p.nk (List.mem_map.2 ⟨p, hp, rfl⟩)
    rw [show p.nk.v = v from e, hv] at this
    cases this
/-- a row of one node -/
theorem nodes_one {w : World} {g : Nat} {x : NodeM} (h : Blk w g 63 #[.int .i64 x.v.kind, .int .i64 x.v.id, .int .i64 x.a.c, .int .i64 x.a.h, .slice x.A x.next.length x.c]) (hr : RowsH w w.heap.size x.A x.next) (hl : x.next.length ≤ 2 ^ 16) : NodesIn w w.heap.size (some ⟨g, 0, none⟩) [x] where
  rows := by
    intro _
    refine ⟨g, 0, rfl, h.lt, fun k hk i u hi hu => ?_⟩
    obtain rfl : k = 0 := by simpa using hk
    rw [show 0 + 0 * 5 + i = i by omega, h.cell]
    simp only [List.getElem_cons_zero, NodeM.cells] at hu
    simpa using hu
  each := by
    intro y hy
    rw [List.mem_singleton] at hy
    subst hy
    exact hr
  low := by
    intro y hy
    rw [List.mem_singleton] at hy
    subst hy
    exact hl

end Go.Proofs.YtpfjgecdlilkcaaGreat

/-
  Layer 22 in plain words: ends and routes, node by node, leaf by leaf.
-/
namespace Go.Proofs.YtpfjgecdlilkcaaGreat
open Go.RowKit Go.Sort

theorem wrap_small {z : Int} (h0 : 0 ≤ z) (h1 : z ≤ 2 ^ 40) : IntKind.i64.wrap z = z ∧ wrap64 z = z := by
  have h2 : z ≤ 1099511627776 := h1
  refine ⟨?_, ?_⟩
  · rw [IntKind.wrap_i64]; omega
  · unfold wrap64; omega
theorem nodeEnds_snoc (lan : Int) (L : List Nk) (n : Nk) : nodeEnds lan (L ++ [n]) = nodeEnds lan L ++ nodeEnd lan n := by simp [nodeEnds]
theorem rtsOf_snoc (self : Int) (L : List Nk) (n : Nk) : rtsOf self (L ++ [n]) = rtsOf self L ++ rtOf self n := by simp [rtsOf]
theorem leafEnds_snoc (self lan : Int) (nodes : List Nk) (F : List Lf) (f : Lf) : leafEnds self lan nodes (F ++ [f]) = leafEnds self lan nodes F ++ nodes.flatMap (leafEnd self lan f) := by simp [leafEnds]
theorem nodeEnd_at {lan : Int} {n : Nk} (h1 : n.v.kind = 2) (h2 : n.v.id / 16 = lan) : nodeEnd lan n = [(n.a.c, n.next)] := if_pos ⟨h1, h2⟩
theorem nodeEnd_ne {lan : Int} {n : Nk} (h : ¬ (n.v.kind = 2 ∧ n.v.id / 16 = lan)) : nodeEnd lan n = [] := if_neg h
/-- what is wanted of nodes -/
structure NodesOk (L : List Nk) : Prop where
  sorted : L.Pairwise fun x y => ltX x.v y.v
  may : ∀ n ∈ L, mayV n.v = true
  cost : ∀ n ∈ L, n.a.c ≤ 100000000
  net : ∀ n ∈ L, n.v.kind = 2 → 1 ≤ n.a.c
  hops : ∀ n ∈ L, ∀ h ∈ n.next, okHp h
theorem nodesOk {E : List Ed} {DD : Vx → Vx → Option Val2} {self : Int} {L : List Nk} (hD : Dists E DD) (hE : E.length ≤ 4000) (h : TreeOf E DD ⟨1, self⟩ L) : NodesOk L := by
  cases hm : mayV ⟨1, self⟩ with
  | false =>
    rw [h.2 hm]
    exact ⟨List.Pairwise.nil, by simp, by simp, by simp, by simp⟩
  | true =>
    have hT := h.1 hm
    refine ⟨hT.sorted, fun n hn => (hD _).may hm _ _ (hT.val n hn), fun n hn => (dist_low hD hE (hT.val n hn)).1, fun n hn hk => ?_, fun n hn x hx => isHop_ok rfl (((hT.next n hn).2 x).1 hx)⟩
    rcases (hD _).pos rfl _ _ (hT.val n hn) with ⟨e, -⟩ | ⟨-, e, -⟩
    · rw [e] at hk; cases hk
    · exact e
theorem NodesOk.low {L : List Nk} (h : NodesOk L) {E : List Ed} {DD : Vx → Vx → Option Val2} {self : Int} (hT : TreeOf E DD ⟨1, self⟩ L) : ∀ n ∈ L, n.next.length ≤ 64 := fun n hn => by
  have hI := treeOf_in hT hn
  exact hops_few (hI.next n hn).1 (h.hops n hn)
/-- what is wanted of leaves -/
def LeavesOk (F : List Lf) : Prop := ∀ f ∈ F, (1 ≤ f.router ∧ f.router ≤ 15) ∧ (0 ≤ f.lan ∧ f.lan ≤ 3) ∧ (1 ≤ f.cost ∧ f.cost ≤ 100)
theorem leavesOk (l : List VX) : LeavesOk (leavesV l) := by
  intro f hf
  obtain ⟨r, n, c, hr, hn, hc, rfl⟩ := mem_leaves.1 hf
  exact leaf_bounds (countsV_ok l) (leaf_is hc)
/-- of nodes in order there is one of a vertex, or none -/
theorem leaf_flat {self lan : Int} {f : Lf} : ∀ {L : List Nk}, (L.Pairwise fun x y => ltX x.v y.v) → L.flatMap (leafEnd self lan f) = match L.find? fun n => decide (n.v = ⟨1, f.router⟩) with
    | some n => leafEnd self lan f n
    | none => []
  | [], _ => rfl
  | n :: L, h => by
    obtain ⟨h1, h2⟩ := List.pairwise_cons.1 h
    rw [List.flatMap_cons, List.find?_cons]
    by_cases e : n.v = ⟨1, f.router⟩
    · rw [decide_eq_true e]
      have hnil : L.flatMap (leafEnd self lan f) = [] := by
        rw [List.flatMap_eq_nil_iff]
        intro m hm
        unfold leafEnd
        rw [if_neg]
        rintro ⟨-, e2⟩
        have := h1 m hm
        rw [e, e2] at this
        exact ltX_irr _ this
      rw [hnil, List.append_nil]
    · rw [decide_eq_false e]
      have hnil : leafEnd self lan f n = [] := by
        unfold leafEnd
        rw [if_neg]
        exact fun h => e h.2
      rw [hnil, List.nil_append]
      exact leaf_flat h2
theorem leafEnd_at {self lan : Int} {f : Lf} {n : Nk} (h1 : f.lan = lan) (h2 : n.v = ⟨1, f.router⟩) : leafEnd self lan f n = [(n.a.c + f.cost.toNat, if f.router = self then [⟨lan, 0⟩] else n.next)] := if_pos ⟨h1, h2⟩
theorem leafEnd_ne {self lan : Int} {f : Lf} {n : Nk} (h : f.lan ≠ lan) : leafEnd self lan f n = [] := if_neg fun g => h g.1
theorem nodeEnds_len (lan : Int) (L : List Nk) : (nodeEnds lan L).length ≤ L.length := by
  unfold nodeEnds
  induction L with
  | nil => simp
  | cons n L ih =>
    rw [List.flatMap_cons, List.length_append, List.length_cons]
    have : (nodeEnd lan n).length ≤ 1 := by unfold nodeEnd; split <;> simp
    omega
theorem leafEnd_len (self lan : Int) (f : Lf) (L : List Nk) : (L.flatMap (leafEnd self lan f)).length ≤ L.length := by
  induction L with
  | nil => simp
  | cons n L ih =>
    rw [List.flatMap_cons, List.length_append, List.length_cons]
    have : (leafEnd self lan f n).length ≤ 1 := by unfold leafEnd; split <;> simp
    omega
theorem leafEnds_len {self lan : Int} {nodes : List Nk} (hs : nodes.Pairwise fun x y => ltX x.v y.v) (F : List Lf) : (leafEnds self lan nodes F).length ≤ F.length := by
  unfold leafEnds
  induction F with
  | nil => simp
  | cons f F ih =>
    rw [List.flatMap_cons, List.length_append, List.length_cons]
    have : (nodes.flatMap (leafEnd self lan f)).length ≤ 1 := by
      rw [leaf_flat hs]
      split
      · unfold leafEnd; split <;> simp
      · simp
    omega
/-- all four networks' routes -/
def AllOk (f : Nat → RtM) (X : Int → List EndV) : Prop := ∀ k : Nat, k < 4 → NetOk k (X k) (f k) ∧ (f k).cost ≤ 2 ^ 40 ∧ ∀ p ∈ X k, ∀ y ∈ p.2, okHp y
theorem AllOk.low {f : Nat → RtM} {X : Int → List EndV} (h : AllOk f X) {k : Nat} (hk : k < 4) : (f k).next.length ≤ 64 := (h k hk).1.low (h k hk).2.2
theorem AllOk.same {f : Nat → RtM} {X X' : Int → List EndV} (h : AllOk f X) (he : ∀ k : Nat, k < 4 → X' k = X k) : AllOk f X' := fun k hk => by rw [he k hk]; exact h k hk
theorem AllOk.put {f : Nat → RtM} {X X' : Int → List EndV} (h : AllOk f X) {k : Nat} {x : RtM} {p : EndV} (hx : NetOk k (X k ++ [p]) x) (hc : x.cost ≤ 2 ^ 40) (hp : ∀ y ∈ p.2, okHp y) (hk : X' k = X k ++ [p]) (he : ∀ j : Nat, j < 4 → j ≠ k → X' j = X j) : AllOk (updN f k x) X' := by
  intro j hj
  by_cases e : j = k
  · subst e
    rw [updN_at, hk]
    refine ⟨hx, hc, fun q hq y hy => ?_⟩
    rcases List.mem_append.1 hq with hq | hq
    · exact (h j hj).2.2 q hq y hy
    · rw [List.mem_singleton] at hq
      subst hq
      exact hp y hy
  · rw [updN_ne f x e, he j hj e]
    exact h j hj
def rtZ : RtM := ⟨0, 0, 0, none, 0, []⟩
theorem AllOk.start {X : Int → List EndV} (h : ∀ k : Nat, k < 4 → X k = []) : AllOk (fun _ => rtZ) X := fun k hk => ⟨.inl ⟨rfl, rfl, rfl, rfl, h k hk⟩, show (0 : Nat) ≤ 2 ^ 40 by decide, by rw [h k hk]; simp⟩
/-- the routes at the end -/
def rtN (x : RtM) : List RtM := if 0 < x.cost then [x] else []
theorem routes_are {self : Int} {nodes : List Nk} {F : List Lf} {f : Nat → RtM} {M : List RtM} (hM : M.map RtM.rt = rtsOf self nodes) (h : AllOk f fun lan => endsV self lan nodes F) : RoutesAre self nodes F ((M ++ rtN (f 0) ++ rtN (f 1) ++ rtN (f 2) ++ rtN (f 3)).map RtM.rt) := by
  refine ⟨fun lan => if 0 < (f lan.toNat).cost then some ((f lan.toNat).cost, (f lan.toNat).next) else none, fun lan h0 h3 => ?_, ?_⟩
  · obtain ⟨k, rfl⟩ := Int.eq_ofNat_of_zero_le h0
    have hk : k < 4 := by omega
    have hx := (h k hk).1
    simp only [Int.toNat_natCast]
    rcases hx with ⟨-, -, e, -, e2⟩ | ⟨e1, e2, e3, e4⟩
    · rw [if_neg (by omega)]
      exact e2
    · rw [if_pos (by omega)]
      exact e4
  · have hone : ∀ k : Nat, k < 4 → (rtN (f k)).map RtM.rt = netOf (fun lan : Int => if 0 < (f lan.toNat).cost then some ((f lan.toNat).cost, (f lan.toNat).next) else none) k := by
      intro k hk
      unfold rtN netOf
      simp only [Int.toNat_natCast]
      rcases (h k hk).1 with ⟨-, -, e, -, e2⟩ | ⟨e1, e2, e3, e4⟩
      · rw [if_neg (by omega), if_neg (by omega)]
        rfl
      · rw [if_pos (by omega), if_pos (by omega)]
        simp [RtM.rt, e1, e2]
    have h0 := hone 0 (by omega)
    have h1 := hone 1 (by omega)
    have h2 := hone 2 (by omega)
    have h3 := hone 3 (by omega)
    rw [List.map_append, List.map_append, List.map_append, List.map_append, hM, h0, h1, h2, h3]
    simp [netsOf]

end Go.Proofs.YtpfjgecdlilkcaaGreat

/-
  The library's slices.SortFunc, laid at this program: written by lay-plain.mjs of the kit.
-/
namespace Go.Proofs
open Go.Shelf
def Tryz.sortEdge_ren : Go.Shelf.Ren := ⟨fun | 6 => 42 | 15 => 62 | 14 => 69 | 28 => 85 | 29 => 86 | 20 => 97 | 21 => 98 | 22 => 99 | 23 => 100 | 24 => 101 | 25 => 102 | 26 => 103 | 27 => 104 | 46 => 122 | 47 => 114 | 48 => 115 | 49 => 123 | 50 => 124 | 57 => 130 | n => n, fun | 22 => 58 | 24 => 96 | 25 => 116 | 3 => 3 | 39 => 65 | 0 => 0 | 53 => 156 | 55 => 158 | 4 => 4 | 46 => 150 | 45 => 149 | 50 => 84 | 5 => 5 | 9 => 9 | 66 => 175 | 70 => 179 | 76 => 188 | 77 => 189 | n => n, fun | n => n⟩
theorem Tryz.sortEdge : Go.Proofs.SlLaysF0.n6 Tryz.prog Tryz.sortEdge_ren := {
  mixed := by kernel_rfl
  f6 := ⟨Tryz.f42.name, by decide, Tryz.func42.trans (congrArg some (by kernel_rfl))⟩
  f14 := ⟨Tryz.f69.name, by decide, Tryz.func69.trans (congrArg some (by kernel_rfl))⟩
  f15 := Tryz.func62.trans (congrArg some (by kernel_rfl))
  f20 := ⟨Tryz.f97.name, by decide, Tryz.func97.trans (congrArg some (by kernel_rfl))⟩
  f21 := ⟨Tryz.f98.name, by decide, Tryz.func98.trans (congrArg some (by kernel_rfl))⟩
  f22 := ⟨Tryz.f99.name, by decide, Tryz.func99.trans (congrArg some (by kernel_rfl))⟩
  f23 := ⟨Tryz.f100.name, by decide, Tryz.func100.trans (congrArg some (by kernel_rfl))⟩
  f24 := ⟨Tryz.f101.name, by decide, Tryz.func101.trans (congrArg some (by kernel_rfl))⟩
  f25 := ⟨Tryz.f102.name, by decide, Tryz.func102.trans (congrArg some (by kernel_rfl))⟩
  f26 := ⟨Tryz.f103.name, by decide, Tryz.func103.trans (congrArg some (by kernel_rfl))⟩
  f27 := ⟨Tryz.f104.name, by decide, Tryz.func104.trans (congrArg some (by kernel_rfl))⟩
  f28 := Tryz.func85.trans (congrArg some (by kernel_rfl))
  f29 := Tryz.func86.trans (congrArg some (by kernel_rfl))
  f46 := ⟨Tryz.f122.name, by decide, Tryz.func122.trans (congrArg some (by kernel_rfl))⟩
  f47 := Tryz.func114.trans (congrArg some (by kernel_rfl))
  f48 := Tryz.func115.trans (congrArg some (by kernel_rfl))
  f49 := ⟨Tryz.f123.name, by decide, Tryz.func123.trans (congrArg some (by kernel_rfl))⟩
  f50 := ⟨Tryz.f124.name, by decide, Tryz.func124.trans (congrArg some (by kernel_rfl))⟩
  f57 := ⟨Tryz.f130.name, by decide, Tryz.func130.trans (congrArg some (by kernel_rfl))⟩
  t0 := Tryz.underlying0
  a0 := Tryz.isAgg0
  z0 := Tryz.sizeOf0
  v0 := Tryz.zeroValue0
  t3 := Tryz.underlying3
  a3 := Tryz.isAgg3
  z3 := Tryz.sizeOf3
  v3 := Tryz.zeroValue3
  t4 := Tryz.underlying4
  a4 := Tryz.isAgg4
  z4 := Tryz.sizeOf4
  v4 := Tryz.zeroValue4
  t5 := Tryz.underlying5
  a5 := Tryz.isAgg5
  z5 := Tryz.sizeOf5
  v5 := Tryz.zeroValue5
  t9 := Tryz.underlying9
  a9 := Tryz.isAgg9
  z9 := Tryz.sizeOf9
  v9 := Tryz.zeroValue9
  t22 := Tryz.underlying58
  a22 := Tryz.isAgg58
  z22 := Tryz.sizeOf58
  v22 := Tryz.zeroValue58
  t25 := Tryz.underlying116
  a25 := Tryz.isAgg116
  z25 := Tryz.sizeOf116
  v25 := Tryz.zeroValue116
  t39 := Tryz.underlying65
  a39 := Tryz.isAgg65
  z39 := Tryz.sizeOf65
  v39 := Tryz.zeroValue65
  t45 := Tryz.underlying149
  a45 := Tryz.isAgg149
  z45 := Tryz.sizeOf149
  v45 := Tryz.zeroValue149
  t46 := Tryz.underlying150
  a46 := Tryz.isAgg150
  z46 := Tryz.sizeOf150
  v46 := Tryz.zeroValue150
  t50 := Tryz.underlying84
  a50 := Tryz.isAgg84
  z50 := Tryz.sizeOf84
  v50 := Tryz.zeroValue84
  t53 := Tryz.underlying156
  a53 := Tryz.isAgg156
  z53 := Tryz.sizeOf156
  v53 := Tryz.zeroValue156
  t55 := Tryz.underlying158
  a55 := Tryz.isAgg158
  z55 := Tryz.sizeOf158
  v55 := Tryz.zeroValue158
  t66 := Tryz.underlying175
  a66 := Tryz.isAgg175
  z66 := Tryz.sizeOf175
  v66 := Tryz.zeroValue175
  t70 := Tryz.underlying179
  a70 := Tryz.isAgg179
  z70 := Tryz.sizeOf179
  v70 := Tryz.zeroValue179
  t76 := Tryz.underlying188
  a76 := Tryz.isAgg188
  z76 := Tryz.sizeOf188
  v76 := Tryz.zeroValue188
  t77 := Tryz.underlying189
  a77 := Tryz.isAgg189
  z77 := Tryz.sizeOf189
  v77 := Tryz.zeroValue189 }
end Go.Proofs

/-
  The library's slices.SortFunc, laid at this program: written by lay-plain.mjs of the kit.
-/
namespace Go.Proofs
open Go.Shelf
def Tryz.sortLeaf_ren : Go.Shelf.Ren := ⟨fun | 6 => 30 | 15 => 62 | 14 => 61 | 28 => 85 | 29 => 86 | 20 => 77 | 21 => 78 | 22 => 79 | 23 => 80 | 24 => 81 | 25 => 82 | 26 => 83 | 27 => 84 | 46 => 113 | 47 => 114 | 48 => 115 | 49 => 116 | 50 => 117 | 57 => 128 | n => n, fun | 22 => 42 | 24 => 45 | 25 => 88 | 3 => 3 | 39 => 65 | 0 => 0 | 53 => 156 | 55 => 158 | 4 => 4 | 46 => 150 | 45 => 149 | 50 => 84 | 5 => 5 | 9 => 9 | 66 => 175 | 70 => 179 | 76 => 188 | 77 => 189 | n => n, fun | n => n⟩
theorem Tryz.sortLeaf : Go.Proofs.SlLaysF0.n6 Tryz.prog Tryz.sortLeaf_ren := {
  mixed := by kernel_rfl
  f6 := ⟨Tryz.f30.name, by decide, Tryz.func30.trans (congrArg some (by kernel_rfl))⟩
  f14 := ⟨Tryz.f61.name, by decide, Tryz.func61.trans (congrArg some (by kernel_rfl))⟩
  f15 := Tryz.func62.trans (congrArg some (by kernel_rfl))
  f20 := ⟨Tryz.f77.name, by decide, Tryz.func77.trans (congrArg some (by kernel_rfl))⟩
  f21 := ⟨Tryz.f78.name, by decide, Tryz.func78.trans (congrArg some (by kernel_rfl))⟩
  f22 := ⟨Tryz.f79.name, by decide, Tryz.func79.trans (congrArg some (by kernel_rfl))⟩
  f23 := ⟨Tryz.f80.name, by decide, Tryz.func80.trans (congrArg some (by kernel_rfl))⟩
  f24 := ⟨Tryz.f81.name, by decide, Tryz.func81.trans (congrArg some (by kernel_rfl))⟩
  f25 := ⟨Tryz.f82.name, by decide, Tryz.func82.trans (congrArg some (by kernel_rfl))⟩
  f26 := ⟨Tryz.f83.name, by decide, Tryz.func83.trans (congrArg some (by kernel_rfl))⟩
  f27 := ⟨Tryz.f84.name, by decide, Tryz.func84.trans (congrArg some (by kernel_rfl))⟩
  f28 := Tryz.func85.trans (congrArg some (by kernel_rfl))
  f29 := Tryz.func86.trans (congrArg some (by kernel_rfl))
  f46 := ⟨Tryz.f113.name, by decide, Tryz.func113.trans (congrArg some (by kernel_rfl))⟩
  f47 := Tryz.func114.trans (congrArg some (by kernel_rfl))
  f48 := Tryz.func115.trans (congrArg some (by kernel_rfl))
  f49 := ⟨Tryz.f116.name, by decide, Tryz.func116.trans (congrArg some (by kernel_rfl))⟩
  f50 := ⟨Tryz.f117.name, by decide, Tryz.func117.trans (congrArg some (by kernel_rfl))⟩
  f57 := ⟨Tryz.f128.name, by decide, Tryz.func128.trans (congrArg some (by kernel_rfl))⟩
  t0 := Tryz.underlying0
  a0 := Tryz.isAgg0
  z0 := Tryz.sizeOf0
  v0 := Tryz.zeroValue0
  t3 := Tryz.underlying3
  a3 := Tryz.isAgg3
  z3 := Tryz.sizeOf3
  v3 := Tryz.zeroValue3
  t4 := Tryz.underlying4
  a4 := Tryz.isAgg4
  z4 := Tryz.sizeOf4
  v4 := Tryz.zeroValue4
  t5 := Tryz.underlying5
  a5 := Tryz.isAgg5
  z5 := Tryz.sizeOf5
  v5 := Tryz.zeroValue5
  t9 := Tryz.underlying9
  a9 := Tryz.isAgg9
  z9 := Tryz.sizeOf9
  v9 := Tryz.zeroValue9
  t22 := Tryz.underlying42
  a22 := Tryz.isAgg42
  z22 := Tryz.sizeOf42
  v22 := Tryz.zeroValue42
  t25 := Tryz.underlying88
  a25 := Tryz.isAgg88
  z25 := Tryz.sizeOf88
  v25 := Tryz.zeroValue88
  t39 := Tryz.underlying65
  a39 := Tryz.isAgg65
  z39 := Tryz.sizeOf65
  v39 := Tryz.zeroValue65
  t45 := Tryz.underlying149
  a45 := Tryz.isAgg149
  z45 := Tryz.sizeOf149
  v45 := Tryz.zeroValue149
  t46 := Tryz.underlying150
  a46 := Tryz.isAgg150
  z46 := Tryz.sizeOf150
  v46 := Tryz.zeroValue150
  t50 := Tryz.underlying84
  a50 := Tryz.isAgg84
  z50 := Tryz.sizeOf84
  v50 := Tryz.zeroValue84
  t53 := Tryz.underlying156
  a53 := Tryz.isAgg156
  z53 := Tryz.sizeOf156
  v53 := Tryz.zeroValue156
  t55 := Tryz.underlying158
  a55 := Tryz.isAgg158
  z55 := Tryz.sizeOf158
  v55 := Tryz.zeroValue158
  t66 := Tryz.underlying175
  a66 := Tryz.isAgg175
  z66 := Tryz.sizeOf175
  v66 := Tryz.zeroValue175
  t70 := Tryz.underlying179
  a70 := Tryz.isAgg179
  z70 := Tryz.sizeOf179
  v70 := Tryz.zeroValue179
  t76 := Tryz.underlying188
  a76 := Tryz.isAgg188
  z76 := Tryz.sizeOf188
  v76 := Tryz.zeroValue188
  t77 := Tryz.underlying189
  a77 := Tryz.isAgg189
  z77 := Tryz.sizeOf189
  v77 := Tryz.zeroValue189 }
end Go.Proofs

/-
  Layer 20: how edges, and leaves, are compared; sorted.
-/
namespace Go.Proofs.YtpfjgecdlilkcaaGreat
open Go.RowKit Go.Sort Go.Proofs

def cmpE (a b : Ed) : Int := orL [cmp2 a.fk a.fi b.fk b.fi, cmp2 a.tk a.ti b.tk b.ti]
def cmpF (a b : Lf) : Int := cmp2 a.router a.lan b.router b.lan
set_option maxHeartbeats 2000000 in
set_option maxRecDepth 100000 in
theorem compare_g (a1 a2 b1 b2 : Int) (w : World) : Calls Tryz.prog 44 #[.agg #[.int .i64 a1, .int .i64 a2], .agg #[.int .i64 b1, .int .i64 b2]] w fun r w' => r = .returned (.int .i64 (cmp2 a1 a2 b1 b2)) ∧ ∃ q os', w' = grow (w.drewN q) os' := by
  obtain ⟨w0, hW0⟩ : ∃ w0, (w.alloc (.cells #[.int .i64 a1, .int .i64 a2] 61)).alloc (.cells #[.int .i64 b1, .int .i64 b2] 61) = w0 := ⟨_, rfl⟩
  have hA : Blk w0 w.heap.size 61 #[.int .i64 a1, .int .i64 a2] := by rw [← hW0]; exact (Blk.new w _ _).alloc _
  have hB : Blk w0 (w.heap.size + 1) 61 #[.int .i64 b1, .int .i64 b2] := by rw [← hW0]; exact Blk.size (by simp)
  have Hg : Hid (∃ os, w0 = grow w os) := Lib.hid ⟨_, by rw [← hW0, alloc_eq_grow, alloc_eq_grow, grow_grow]⟩
  obtain ⟨a_0, a_1⟩ : _ ∧ _ := ⟨hA.cell 0, hA.cell 1⟩
  obtain ⟨b_0, b_1⟩ : _ ∧ _ := ⟨hB.cell 0, hB.cell 1⟩
  simp only [List.getElem?_toArray, List.getElem?_cons_zero, List.getElem?_cons_succ] at a_0 a_1 b_0 b_1
  clear hA hB
  go_enter Tryz.func44, Tryz.ntmps44
  go_wp2_with fail
  refine wp_drew_tail 10 (by kernel_rfl) (by kernel_rfl) ?_
  simp only [List.take_succ_cons, List.take_zero, List.drop_succ_cons, List.drop_zero]
  repeat (go_big_quiet_step (exact cmp_q _ _ _ _))
  refine wpQuiet_nil ?_
  rintro w3 ⟨dq, rfl⟩
  go_wp2_with (go_at_call 32; (with_reducible refine Calls.mono (or2_s _ _ _) ?_); rintro r w4 ⟨rfl, rfl⟩)
  go_ret
  obtain ⟨os, hos⟩ := Hg.out
  refine ⟨rfl, dq, os.push (.cells #[.int .i64 (cmpI a1 b1), .int .i64 (cmpI a2 b2)] 3), ?_⟩
  subst hos
  simp [grow, World.alloc, World.drewN]
theorem leavesCmp_any (a b : Lf) (w : World) : Calls Tryz.prog 31 #[.agg a.cells.toArray, .agg b.cells.toArray] w fun r w' => r = .returned (.int .i64 (cmpF a b)) ∧ ∃ q os', w' = grow (w.drewN q) os' := by
  obtain ⟨a1, a2, a3⟩ := a
  obtain ⟨b1, b2, b3⟩ := b
  unfold cmpF Lf.cells
  simp only
  obtain ⟨w0, hW0⟩ : ∃ w0, (w.alloc (.cells #[.int .i64 a1, .int .i64 a2, .int .i64 a3] 45)).alloc (.cells #[.int .i64 b1, .int .i64 b2, .int .i64 b3] 45) = w0 := ⟨_, rfl⟩
  have hA : Blk w0 w.heap.size 45 #[.int .i64 a1, .int .i64 a2, .int .i64 a3] := by rw [← hW0]; exact (Blk.new w _ _).alloc _
  have hB : Blk w0 (w.heap.size + 1) 45 #[.int .i64 b1, .int .i64 b2, .int .i64 b3] := by rw [← hW0]; exact Blk.size (by simp)
  have Hg : Hid (∃ os, w0 = grow w os) := Lib.hid ⟨_, by rw [← hW0, alloc_eq_grow, alloc_eq_grow, grow_grow]⟩
  obtain ⟨a_0, a_1⟩ : _ ∧ _ := ⟨hA.cell 0, hA.cell 1⟩
  obtain ⟨b_0, b_1⟩ : _ ∧ _ := ⟨hB.cell 0, hB.cell 1⟩
  simp only [List.getElem?_toArray, List.getElem?_cons_zero, List.getElem?_cons_succ] at a_0 a_1 b_0 b_1
  clear hA hB
  go_enter Tryz.func31, Tryz.ntmps31
  go_wp2_with fail
  refine wp_drew_tail 10 (by kernel_rfl) (by kernel_rfl) ?_
  simp only [List.take_succ_cons, List.take_zero, List.drop_succ_cons, List.drop_zero]
  repeat (go_big_quiet_step (exact cmp_q _ _ _ _))
  refine wpQuiet_nil ?_
  rintro w3 ⟨dq, rfl⟩
  go_wp2_with (go_at_call 32; (with_reducible refine Calls.mono (or2_s _ _ _) ?_); rintro r w4 ⟨rfl, rfl⟩)
  go_ret
  obtain ⟨os, hos⟩ := Hg.out
  refine ⟨rfl, dq, os.push (.cells #[.int .i64 (cmpI a1 b1), .int .i64 (cmpI a2 b2)] 3), ?_⟩
  subst hos
  simp [grow, World.alloc, World.drewN]
set_option maxHeartbeats 2000000 in
set_option maxRecDepth 100000 in
theorem edgesCmp_any (a b : Ed) (w : World) : Calls Tryz.prog 43 #[.agg a.cells.toArray, .agg b.cells.toArray] w fun r w' => r = .returned (.int .i64 (cmpE a b)) ∧ ∃ q os', w' = grow (w.drewN q) os' := by
  obtain ⟨a1, a2, a3, a4, a5⟩ := a
  obtain ⟨b1, b2, b3, b4, b5⟩ := b
  unfold cmpE Ed.cells
  simp only
  obtain ⟨w0, hW0⟩ : ∃ w0, (w.alloc (.cells #[.int .i64 a1, .int .i64 a2, .int .i64 a3, .int .i64 a4, .int .i64 a5] 96)).alloc (.cells #[.int .i64 b1, .int .i64 b2, .int .i64 b3, .int .i64 b4, .int .i64 b5] 96) = w0 := ⟨_, rfl⟩
  have hA : Blk w0 w.heap.size 96 #[.int .i64 a1, .int .i64 a2, .int .i64 a3, .int .i64 a4, .int .i64 a5] := by rw [← hW0]; exact (Blk.new w _ _).alloc _
  have hB : Blk w0 (w.heap.size + 1) 96 #[.int .i64 b1, .int .i64 b2, .int .i64 b3, .int .i64 b4, .int .i64 b5] := by rw [← hW0]; exact Blk.size (by simp)
  have Hg : Hid (∃ os, w0 = grow w os) := Lib.hid ⟨_, by rw [← hW0, alloc_eq_grow, alloc_eq_grow, grow_grow]⟩
  obtain ⟨a_0, a_1, a_2, a_3⟩ : _ ∧ _ ∧ _ ∧ _ := ⟨cell_gd (hA.cell 0), cell_gd (hA.cell 1), cell_gd (hA.cell 2), cell_gd (hA.cell 3)⟩
  obtain ⟨b_0, b_1, b_2, b_3⟩ : _ ∧ _ ∧ _ ∧ _ := ⟨cell_gd (hB.cell 0), cell_gd (hB.cell 1), cell_gd (hB.cell 2), cell_gd (hB.cell 3)⟩
  have CB := Lib.hid (fun x1 x2 y1 y2 q os => gd_of (w := w0) (q := q) (os := os) (compare_g x1 x2 y1 y2 _))
  clear hA hB
  go_enter Tryz.func43, Tryz.ntmps43
  go_wp2_with fail
  refine wp_gd_tail 10 (by kernel_rfl) (by kernel_rfl) ?_
  simp only [List.take_succ_cons, List.take_zero, List.drop_succ_cons, List.drop_zero]
  repeat (go_big_quiet_step (exact CB.out _ _ _ _ _ _))
  refine wpQuiet_nil ?_
  rintro w3 ⟨⟨dq, osq⟩, hw3⟩
  have Hw3 := Lib.hid hw3
  clear hw3
  go_wp2_with (go_at_call 32; (with_reducible refine Calls.mono (or2_s _ _ _) ?_); rintro r w4 ⟨rfl, rfl⟩)
  go_ret
  obtain ⟨os, hos⟩ := Hg.out
  refine ⟨rfl, dq, (os ++ osq).push (.cells #[.int .i64 (cmp2 a1 a2 b1 b2), .int .i64 (cmp2 a3 a4 b3 b4)] 3), ?_⟩
  rw [Hw3.out]
  subst hos
  simp [grow, World.alloc, World.drewN, Array.append_assoc]

theorem cmpE_lt (a b : Ed) : cmpE a b < 0 ↔ ltE a b := by
  unfold cmpE ltE
  rw [or2_lt, (cmp2_lt _ _ _ _).1, (cmp2_lt _ _ _ _).2, (cmp2_lt _ _ _ _).1]
  omega
theorem cmpF_lt (a b : Lf) : cmpF a b < 0 ↔ ltF a b := by
  unfold cmpF ltF
  rw [(cmp2_lt _ _ _ _).1]
theorem ltOf_E {a b : Ed} : (ltOf cmpE a b = true ↔ ltE a b) ∧ (ltOf cmpE a b = false ↔ ¬ ltE a b) := by
  unfold ltOf
  rw [← cmpE_lt]
  simp
theorem ltOf_F {a b : Lf} : (ltOf cmpF a b = true ↔ ltF a b) ∧ (ltOf cmpF a b = false ↔ ¬ ltF a b) := by
  unfold ltOf
  rw [← cmpF_lt]
  simp
theorem swoE : SWO (ltOf cmpE) where
  irrefl := fun x => ltOf_E.2.2 (ltE_irr x)
  trans := fun x y z h1 h2 => by rw [ltOf_E.1] at *; unfold ltE at *; omega
  ntrans := fun x y z h1 h2 => by rw [ltOf_E.2] at *; unfold ltE at *; omega
theorem swoF : SWO (ltOf cmpF) where
  irrefl := fun x => ltOf_F.2.2 (ltF_irr x)
  trans := fun x y z h1 h2 => by rw [ltOf_F.1] at *; unfold ltF at *; omega
  ntrans := fun x y z h1 h2 => by rw [ltOf_F.2] at *; unfold ltF at *; omega
theorem call_E (xs : Array Value) (w : World) : (callFunc 43 xs).run Tryz.prog w = .ok (.enter 43 xs) w := callOf Tryz.func43 rfl (by kernel_rfl) xs w
theorem call_F (xs : Array Value) (w : World) : (callFunc 31 xs).run Tryz.prog w = .ok (.enter 31 xs) w := callOf Tryz.func31 rfl (by kernel_rfl) xs w
theorem sortEs (v : Value) (M : List Ed) (B : Nat) (w : World) (hown : OwnR 96 5 Ed.cells w B v M) (hlen : M.length ≤ 2 ^ 20) (ha : M.Pairwise fun x y => ltE x y ∨ ltE y x) :
    Calls Tryz.prog 42 #[v, .func (.func 43) #[] #[]] w fun r w' => r = .returned (.tuple #[]) ∧ (∃ N, OwnR 96 5 Ed.cells w' B v N ∧ N.Perm M ∧ N.Pairwise ltE) ∧ w.grownBy w' v.ownBlock := by
  have h := sort_row Tryz.sortEdge (C := 5) Tryz.isAgg96 Tryz.sizeOf96 Ed.cells (fun _ => rfl) onesE cmpE swoE 43 call_E (fun x y w => edgesCmp_any x y w) v M B w hown hlen
  change Calls Tryz.prog 42 _ _ _ at h
  refine h.mono ?_
  rintro r w' ⟨rfl, N, hN, hpN, hsN, hg⟩
  exact ⟨rfl, ⟨N, hN, hpN, sort_strict hpN (hsN.imp fun {x y} h => ltOf_E.2.1 h) ha⟩, hg⟩
theorem sortFs (v : Value) (M : List Lf) (B : Nat) (w : World) (hown : OwnR 45 3 Lf.cells w B v M) (hlen : M.length ≤ 2 ^ 20) (ha : M.Pairwise fun x y => ltF x y ∨ ltF y x) :
    Calls Tryz.prog 30 #[v, .func (.func 31) #[] #[]] w fun r w' => r = .returned (.tuple #[]) ∧ (∃ N, OwnR 45 3 Lf.cells w' B v N ∧ N.Perm M ∧ N.Pairwise ltF) ∧ w.grownBy w' v.ownBlock := by
  have h := sort_row Tryz.sortLeaf (C := 3) Tryz.isAgg45 Tryz.sizeOf45 Lf.cells (fun _ => rfl) onesF cmpF swoF 31 call_F (fun x y w => leavesCmp_any x y w) v M B w hown hlen
  change Calls Tryz.prog 30 _ _ _ at h
  refine h.mono ?_
  rintro r w' ⟨rfl, N, hN, hpN, hsN, hg⟩
  exact ⟨rfl, ⟨N, hN, hpN, sort_strict hpN (hsN.imp fun {x y} h => ltOf_F.2.1 h) ha⟩, hg⟩

end Go.Proofs.YtpfjgecdlilkcaaGreat

/-
  Layer 20: all edges: the program's way.
-/
namespace Go.Proofs.YtpfjgecdlilkcaaGreat
open Go.RowKit Go.Sort Go.Proofs

theorem zeroSl (w : World) : (zeroValue 39).run Tryz.prog w = .ok (.slice none 0 0) w := by kernel_rfl
/-- what the map of networks has of a number -/
theorem net_val {W : World} {O : List Lsa} (hr : ∀ x ∈ O, rowsX W x) (hl : ∀ x ∈ O, x.links.length ≤ 1000 ∧ x.members.length ≤ 1000) (n : Int) : ∃ ma mc, (getL n (netL O)).getD (.slice none 0 0) = .slice ma (memV (O.map vX) n).length mc ∧ RowsAt 1 icell W W.heap.size ma (memV (O.map vX) n) ∧ (memV (O.map vX) n).length ≤ 1000 := by
  rw [net_get, memV_of]
  cases h : O.find? fun x => isNet n (vX x) with
  | none => exact ⟨none, 0, rfl, RowsAt.nil, by simp⟩
  | some x =>
    have hx := List.mem_of_find?_eq_some h
    exact ⟨x.ma, x.mcap, rfl, (hr x hx).2, (hl x hx).2⟩
/-- what lies in memory -/
structure EdSt (w2 wr : World) (bc : Nat) (T : List (Int × Int × Int)) (M : List (P4 × Int)) : Prop where
  map : MapAt P4.enc wr bc (intL M)
  cost : CostM wantE M T
  bel : Below w2.heap.size w2 wr
theorem EdSt.keep {w2 wr wr' : World} {bc : Nat} {T : List (Int × Int × Int)} {M : List (P4 × Int)} (h : EdSt w2 wr bc T M) (hb : Below wr.heap.size wr wr') : EdSt w2 wr' bc T M := ⟨h.map.below hb h.map.lt, h.cost, below_trans h.bel h.bel.size hb⟩
theorem blk4 {w : World} {g : Nat} {t : TypeId} {a b c d : Value} (h : Blk w g t #[a, b, c, d]) : w.cell? ⟨g, 0, none⟩ = some a ∧ w.cell? ⟨g, 1, none⟩ = some b ∧ w.cell? ⟨g, 2, none⟩ = some c ∧ w.cell? ⟨g, 3, none⟩ = some d := ⟨h.cell 0, h.cell 1, h.cell 2, h.cell 3⟩

set_option maxHeartbeats 16000000 in
set_option maxRecDepth 100000 in
theorem Edges_any (A : Option Addr) (cap : Nat) (l : List Lsa) (w : World) (hl : RowsAt 9 Lsa.cells w w.heap.size A l) (he : ∀ x ∈ l, RowsAt 4 Lnk.cells w w.heap.size x.ka x.links ∧ RowsAt 1 icell w w.heap.size x.ma x.members) (hlens : ∀ x ∈ l, x.links.length ≤ 1000 ∧ x.members.length ≤ 1000) (hm : l.length ≤ 60) (nn : Nat) (hnn : nn = l.length) :
    Calls Tryz.prog 17 #[.slice A nn cap] w fun r w' => (∃ v, r = .returned v ∧ OwnR 96 5 Ed.cells w' w.heap.size v (edgesV (l.map vX))) ∧ Below w.heap.size w w' := by
  have HCo := Lib.hid (Counts_any A cap l w hl he hlens (by omega) nn hnn)
  clear hl he hlens hnn
  go_enter Tryz.func17, Tryz.ntmps17
  go_wp2_with fail
  with_reducible refine Calls.mono HCo.out ?_
  rintro r w1 ⟨⟨v1, rfl, O, hx1, hO1⟩, hb1⟩
  obtain ⟨A1, c1, hv1⟩ := hx1.own.shape
  subst hv1
  have hOl : O.length ≤ 60 := by
    have h1 := congrArg List.length hO1
    have h2 := countsV_len (l.map vX)
    rw [List.length_map] at h1 h2
    omega
  have hcn : CntOk (O.map vX) := by rw [hO1]; exact countsV_ok _
  have HOn := Lib.hid (on_any A1 c1 O w1 (OwnR.rows (C := 9) (cells := Lsa.cells) (fun _ => rfl) hx1.own).2 hcn (by omega) O.length rfl)
  have Hx1 := Lib.hid hx1
  have HO1 := Lib.hid hO1
  have Hcn := Lib.hid hcn
  have Hb1 := Lib.hid hb1
  clear hx1 hO1 hcn hb1 HCo
  go_wp2_with fail
  with_reducible refine Calls.mono HOn.out ?_
  rintro r w2 ⟨rfl, hm2, hb2⟩
  obtain ⟨bn, hbn⟩ : ∃ bn, w1.heap.size = bn := ⟨_, rfl⟩
  rw [hbn] at hm2
  have HX2 := Lib.hid (Hx1.out.keep hb2)
  have HM2 := Lib.hid hm2
  have Hb2 := Lib.hid (below_trans Hb1.out Hb1.out.size hb2)
  clear hm2 hb2 HOn
  have hmm := @run_makeMap Tryz.prog
  obtain ⟨bc, hbc⟩ : ∃ bc, w2.heap.size = bc := ⟨_, rfl⟩
  have HS0 := Lib.hid (show EdSt w2 (w2.alloc (.map #[] 0)) bc [] [] from ⟨by rw [← hbc]; exact MapAt.new w2, costM_nil wantE_nil, (Below.refl _ _).alloc (Nat.le_refl _) _⟩)
  have Hbc := Lib.hid hbc
  rw [hbn]
  go_wp2
  clear hmm
  go_loopw [22] (fun i wr => ∃ (k : Nat) (M : List (P4 × Int)), i = .int .i64 k ∧ k ≤ O.length ∧ EdSt w2 wr bc (candC (O.map vX) ((O.map vX).take k)) M) (fun i _ => O.length - (intOf i).toNat)
  case atStart => exact ⟨0, [], rfl, Nat.zero_le _, HS0.out⟩
  case round =>
    obtain ⟨k, M, rfl, hk, hst⟩ := hrel
    clear HS0
    have HSt := Lib.hid hst
    by_cases hlt : k < O.length
    · obtain ⟨g, o, hA, -, x0, x1, x2, x3, x4, x5, x6, x7, x8⟩ := row_lsa9b ((OwnR.rows (C := 9) (cells := Lsa.cells) (fun _ => rfl) HX2.out.own).2.below hst.bel) k hlt
      have hkl : (k : Int) < (O.length : Int) := by omega
      have hrw := HX2.out.rows O[k] (List.getElem_mem hlt)
      have hln := HX2.out.lens O[k] (List.getElem_mem hlt)
      have hmore := candC_more (O.map vX) (O.map vX) (k := k) (by simpa using hlt)
      rw [List.getElem_map] at hmore
      have HA := Lib.hid hA
      rw [hA]
      have Hlt := Lib.hid hlt
      generalize O[k] = x at *
      obtain ⟨⟨y1, y2, y3, y4, y5, y6, y7⟩, ka, kc, ls, ma, mc, ms⟩ := x
      have hls := hrw.1
      simp only at x0 x1 x2 x3 x4 x5 x6 x7 x8 hln hls
      change candC (O.map vX) ((O.map vX).take (k + 1)) = candC (O.map vX) ((O.map vX).take k) ++ candL (O.map vX) (⟨y1, y2, y3, y4, y5, y6, y7⟩, ls, ms) ls at hmore
      obtain ⟨nl, hnl⟩ : ∃ nl, ls.length = nl := ⟨_, rfl⟩
      obtain ⟨nm, hnm⟩ : ∃ nm, ms.length = nm := ⟨_, rfl⟩
      rw [hnl] at x7
      rw [hnm] at x8
      have Hmore := Lib.hid hmore
      have Hls := Lib.hid hls
      have Hnl := Lib.hid hnl
      obtain ⟨w6, hw6⟩ : ∃ w6, wr.alloc (.cells #[.int .i64 y1, .int .i64 y2, .int .i64 y3, .int .i64 y4, .int .i64 y5, .int .i64 y6, .int .i64 y7, .slice ka nl kc, .slice ma nm mc] 41) = w6 := ⟨_, rfl⟩
      obtain ⟨g6, hg6⟩ : ∃ g6, wr.heap.size = g6 := ⟨_, rfl⟩
      have hk6 := Blk.new wr 41 #[.int .i64 y1, .int .i64 y2, .int .i64 y3, .int .i64 y4, .int .i64 y5, .int .i64 y6, .int .i64 y7, .slice ka nl kc, .slice ma nm mc]
      have hb6 := below_new wr (.cells #[.int .i64 y1, .int .i64 y2, .int .i64 y3, .int .i64 y4, .int .i64 y5, .int .i64 y6, .int .i64 y7, .slice ka nl kc, .slice ma nm mc] 41)
      rw [hw6, hg6] at hk6
      rw [hw6] at hb6
      have HS6 := Lib.hid (hst.keep hb6)
      have HK6 := Lib.hid hk6
      have Hg6 := Lib.hid (show g6 ≠ bc from fun e => by have := hst.map.lt; omega)
      have hnl2 : (nl : Int) ≤ 1000 := by omega
      have hnl3 : nl ≤ 1000 := by omega
      obtain ⟨z0, z1, z2, z3, z4, z5, z6, z7, z8, zf⟩ := blk9 hk6
      clear hnl hnm hA hlt hk6 hb6 hk hst hrw hln hls hmore
      go_wp2
      clear z0 z1 z2 z3 z4 z5 z6 z7 z8 zf x0 x1 x2 x3 x4 x5 x6 x7 x8
      go_loopw [29] (fun i wq => ∃ (j : Nat) (M : List (P4 × Int)), i = .int .i64 j ∧ j ≤ nl ∧ EdSt w2 wq bc (candC (O.map vX) ((O.map vX).take k) ++ candL (O.map vX) (⟨y1, y2, y3, y4, y5, y6, y7⟩, ls, ms) (ls.take j)) M ∧ Blk wq g6 41 #[.int .i64 y1, .int .i64 y2, .int .i64 y3, .int .i64 y4, .int .i64 y5, .int .i64 y6, .int .i64 y7, .slice ka nl kc, .slice ma nm mc]) (fun i _ => nl - (intOf i).toNat)
      case atStart => exact ⟨0, M, rfl, Nat.zero_le _, by simpa [candL] using HS6.out, HK6.out⟩
      case round =>
        obtain ⟨j, M, rfl, hj, hsq, hkq⟩ := hrel
        clear HS6 HK6 HSt
        by_cases hjl : j < nl
        · have hjl2 : j < ls.length := by have := Hnl.out; omega
          obtain ⟨g', o', hA', -, v0, v1, v2, v3⟩ := row_lnk (Hls.out.below hsq.bel) j hjl2
          have hjk : (j : Int) < (nl : Int) := by omega
          have hmq := candL_more (O.map vX) (⟨y1, y2, y3, y4, y5, y6, y7⟩, ls, ms) hjl2
          have HA' := Lib.hid hA'
          rw [hA']
          have Hjl := Lib.hid hjl
          generalize ls[j]'hjl2 = y at *
          obtain ⟨e1, e2, e3, e4⟩ := y
          simp only at v0 v1 v2 v3 hmq
          obtain ⟨T, hT⟩ : ∃ T, candC (O.map vX) ((O.map vX).take k) ++ candL (O.map vX) (⟨y1, y2, y3, y4, y5, y6, y7⟩, ls, ms) (ls.take j) = T := ⟨_, rfl⟩
          have hmq2 : candC (O.map vX) ((O.map vX).take k) ++ candL (O.map vX) (⟨y1, y2, y3, y4, y5, y6, y7⟩, ls, ms) (ls.take (j + 1)) = T ++ if e1 = 2 ∧ y4 ∈ memV (O.map vX) e2 then [(y4, e2, e4)] else [] := by rw [hmq, ← hT, List.append_assoc]
          rw [hT] at hsq
          have Hmq := Lib.hid hmq2
          obtain ⟨w8, hw8⟩ : ∃ w8, wr.alloc (.cells #[.int .i64 e1, .int .i64 e2, .int .i64 e3, .int .i64 e4] 53) = w8 := ⟨_, rfl⟩
          obtain ⟨g8, hg8⟩ : ∃ g8, wr.heap.size = g8 := ⟨_, rfl⟩
          have hk8 := Blk.new wr 53 #[.int .i64 e1, .int .i64 e2, .int .i64 e3, .int .i64 e4]
          have hb8 := below_new wr (.cells #[.int .i64 e1, .int .i64 e2, .int .i64 e3, .int .i64 e4] 53)
          rw [hw8, hg8] at hk8
          rw [hw8] at hb8
          have HS8 := Lib.hid (hsq.keep hb8)
          have HK8 := Lib.hid (hkq.below hb8 hkq.lt)
          have HL8 := Lib.hid hk8
          obtain ⟨ma2, mc2, hnv, hnr, hnlen⟩ := net_val (W := w8) (fun x hx => (HX2.out.rows x hx).keep HS8.out.bel) HX2.out.lens e2
          obtain ⟨nmem, hnmem⟩ : ∃ nmem, (memV (O.map vX) e2).length = nmem := ⟨_, rfl⟩
          rw [hnmem] at hnv
          have hlk := (HM2.out.below HS8.out.bel HM2.out.lt).look_run keyInt Tryz.underlying108 (zeroSl _) e2 false
          simp only [Bool.false_eq_true, if_false, hnv, encI] at hlk
          obtain ⟨tm, htm⟩ : ∃ tm, decide (y4 ∈ memV (O.map vX) e2) = tm := ⟨_, rfl⟩
          have HCt := Lib.hid (containsI ma2 mc2 (memV (O.map vX) e2) y4 w8 w8.heap.size hnr (Nat.le_refl _) (by omega) nmem hnmem.symm htm)
          have Htm := Lib.hid htm
          obtain ⟨z0, z1, z2, z3, z4, z5, z6, z7, z8, zf⟩ := blk9 HK8.out
          obtain ⟨q0, q1, q2, q3⟩ := blk4 hk8
          clear hA' hjl hjl2 hmq hmq2 hT hsq hkq hk8 hb8 hnv hnr hnlen hnmem htm hj
          by_cases h2 : e1 = 2
          · subst h2
            cases tm with
            | false =>
              have hnm := of_decide_eq_false Htm.out
              have HSn := Lib.hid (show EdSt w2 w8 bc (candC (O.map vX) ((O.map vX).take k) ++ candL (O.map vX) (⟨y1, y2, y3, y4, y5, y6, y7⟩, ls, ms) (ls.take (j + 1))) M by
                rw [Hmq.out, if_neg (fun h => hnm h.2), List.append_nil]; exact HS8.out)
              clear hnm
              go_wp2_with (go_at_call 41; (with_reducible refine Calls.mono HCt.out ?_); rintro r wx ⟨rfl, rfl⟩)
              go_roundw
              case measure => have := Hjl.out; simp [intOf]; omega
              case rel => exact ⟨j + 1, M, by go_num, Hjl.out, HSn.out, by have h := HK8.out; rw [HA'.out] at h; exact h⟩
            | true =>
              have hym := of_decide_eq_true Htm.out
              have hmq3 : candC (O.map vX) ((O.map vX).take k) ++ candL (O.map vX) (⟨y1, y2, y3, y4, y5, y6, y7⟩, ls, ms) (ls.take (j + 1)) = T ++ [(y4, e2, e4)] := by
                rw [Hmq.out, if_pos ⟨rfl, hym⟩]
              have Hmq3 := Lib.hid hmq3
              clear hym hmq3
              obtain ⟨w9, hw9⟩ : ∃ w9, w8.alloc (.cells #[.int .i64 1, .int .i64 y4, .int .i64 2, .int .i64 e2] 113) = w9 := ⟨_, rfl⟩
              obtain ⟨g9, hg9⟩ : ∃ g9, w8.heap.size = g9 := ⟨_, rfl⟩
              have hk9 := Blk.new w8 113 #[.int .i64 1, .int .i64 y4, .int .i64 2, .int .i64 e2]
              have hb9 := below_new w8 (.cells #[.int .i64 1, .int .i64 y4, .int .i64 2, .int .i64 e2] 113)
              rw [hw9, hg9] at hk9
              rw [hw9] at hb9
              have HS9 := Lib.hid (HS8.out.keep hb9)
              have HK9 := Lib.hid (HK8.out.below hb9 HK8.out.lt)
              have hl9 := HL8.out.below hb9 HL8.out.lt
              obtain ⟨p0, p1, p2, p3⟩ := blk4 hk9
              obtain ⟨r0, r1, r2, r3⟩ := blk4 hl9
              have hlp := HS9.out.map.look_run keyP4 Tryz.underlying110 (zeroI20 _) ⟨1, y4, 2, e2⟩ true
              rw [HS9.out.cost.get] at hlp
              clear hk9 hb9 hl9
              cases hw : wantE ⟨1, y4, 2, e2⟩ T with
              | none =>
                simp only [if_true, P4.enc, hw, Option.map, Option.getD, Option.isSome] at hlp
                have Hw := Lib.hid hw
                clear hw
                go_wp2_with (first
                  | (go_at_call 41; (with_reducible refine Calls.mono HCt.out ?_); rintro r wx ⟨rfl, rfl⟩)
                  | (at_mapUpdate; (refine wpList_update_st _ (by rfl) _ _ _ 110 (by rfl) 113 3 keyP4 Tryz.underlying110 (by rfl) HS9.out.map ⟨1, y4, 2, e2⟩ (by rfl) (.int .i64 e4) (by rfl) ?_); intro w10 hm10 hg10 hs10; rw [setL_int] at hm10; have HSn := Lib.hid (EdSt.mk (w2 := w2) hm10 (HS9.out.cost.set_ (wantE_snoc y4 e2 e4 T) (.inl Hw.out)) (HS9.out.bel.grown hg10 HS9.out.bel.size (fun m e => by injection e with e; rw [← e, Hbc.out]; exact Nat.le_refl _))); have HKn := Lib.hid (HK9.out.grown hg10 (fun e => Hg6.out (by injection e))); clear hm10 hg10 hs10))
                go_roundw
                case measure => have := Hjl.out; simp [intOf]; omega
                case rel => exact ⟨j + 1, _, by go_num, Hjl.out, by rw [Hmq3.out]; exact HSn.out, by have h := HKn.out; rw [HA'.out] at h; exact h⟩
              | some b =>
                simp only [if_true, P4.enc, hw, Option.map, Option.getD, Option.isSome] at hlp
                have Hw := Lib.hid hw
                clear hw
                by_cases hlt4 : e4 < b
                · go_wp2_with (first
                    | (go_at_call 41; (with_reducible refine Calls.mono HCt.out ?_); rintro r wx ⟨rfl, rfl⟩)
                    | (at_mapUpdate; (refine wpList_update_st _ (by rfl) _ _ _ 110 (by rfl) 113 3 keyP4 Tryz.underlying110 (by rfl) HS9.out.map ⟨1, y4, 2, e2⟩ (by rfl) (.int .i64 e4) (by rfl) ?_); intro w10 hm10 hg10 hs10; rw [setL_int] at hm10; have HSn := Lib.hid (EdSt.mk (w2 := w2) hm10 (HS9.out.cost.set_ (wantE_snoc y4 e2 e4 T) (.inr ⟨b, Hw.out, hlt4⟩)) (HS9.out.bel.grown hg10 HS9.out.bel.size (fun m e => by injection e with e; rw [← e, Hbc.out]; exact Nat.le_refl _))); have HKn := Lib.hid (HK9.out.grown hg10 (fun e => Hg6.out (by injection e))); clear hm10 hg10 hs10))
                  go_roundw
                  case measure => have := Hjl.out; simp [intOf]; omega
                  case rel => exact ⟨j + 1, _, by go_num, Hjl.out, by rw [Hmq3.out]; exact HSn.out, by have h := HKn.out; rw [HA'.out] at h; exact h⟩
                · have HSn := Lib.hid (EdSt.mk HS9.out.map (HS9.out.cost.keep (wantE_snoc y4 e2 e4 T) ⟨b, Hw.out, hlt4⟩) HS9.out.bel)
                  go_wp2_with (go_at_call 41; (with_reducible refine Calls.mono HCt.out ?_); rintro r wx ⟨rfl, rfl⟩)
                  go_roundw
                  case measure => have := Hjl.out; simp [intOf]; omega
                  case rel => exact ⟨j + 1, M, by go_num, Hjl.out, by rw [Hmq3.out]; exact HSn.out, by have h := HK9.out; rw [HA'.out] at h; exact h⟩
          · have HSn := Lib.hid (show EdSt w2 w8 bc (candC (O.map vX) ((O.map vX).take k) ++ candL (O.map vX) (⟨y1, y2, y3, y4, y5, y6, y7⟩, ls, ms) (ls.take (j + 1))) M by
              rw [Hmq.out, if_neg (fun h => h2 h.1), List.append_nil]; exact HS8.out)
            go_wp2
            go_roundw
            case measure => have := Hjl.out; simp [intOf]; omega
            case rel => exact ⟨j + 1, M, by go_num, Hjl.out, HSn.out, by have h := HK8.out; rw [HA'.out] at h; exact h⟩
        · have hje : j = nl := by omega
          subst hje
          have hls2 : ls.take ls.length = ls := List.take_length
          have hsq2 : EdSt w2 wr bc (candC (O.map vX) ((O.map vX).take (k + 1))) M := by
            rw [Hmore.out]
            rw [← Hnl.out, hls2] at hsq
            exact hsq
          have HSq := Lib.hid hsq2
          have hjk : ¬ (j : Int) < (j : Int) := by omega
          clear hjl hsq hkq hsq2 hls2 hj
          go_wp2
          go_roundw
          case measure => have := Hlt.out; simp [intOf]; omega
          case rel => exact ⟨k + 1, M, by go_num, Hlt.out, HSq.out⟩
    · have hke : k = O.length := by omega
      subst hke
      have hkl : ¬ (O.length : Int) < (O.length : Int) := by omega
      have hst2 : EdSt w2 wr bc (candC (O.map vX) (O.map vX)) M := by
        have h := hst
        rw [show (O.map vX).take O.length = O.map vX from by rw [← List.length_map (f := vX), List.take_length]] at h
        exact h
      have HSE := Lib.hid hst2
      have hMl : M.length ≤ 60000 := by
        have h1 := hst2.cost.len
        have h2 := candC_len (O.map vX) (m := 1000) (O.map vX) (fun x hx => by
          obtain ⟨y, hy, rfl⟩ := List.mem_map.1 hx
          exact (HX2.out.lens y hy).1)
        rw [List.length_map] at h2
        omega
      have hnd : (M.map (·.1)).Nodup := by rw [← intL_keys]; exact hst2.map.nodup
      have Hnd := Lib.hid hnd
      obtain ⟨ri, hri⟩ : ∃ ri, wr.heap.size = ri := ⟨_, rfl⟩
      have Hri := Lib.hid (show bc < ri by have := hst2.map.lt; omega)
      have Hri2 := Lib.hid hri
      clear hst hst2 hlt hk HSt hnd
      go_wp2_with (at_range; refine wpList_range_st _ rfl _ 110 rfl 113 3 Tryz.underlying110 rfl HSE.out.map ?_; intro w3 hr3 hb3 hs3; rw [Hri2.out] at hr3; have HR3 := Lib.hid hr3; have Hb3 := Lib.hid (below_trans HSE.out.bel HSE.out.bel.size hb3); have Hs3 := Lib.hid (show w3.heap.size = ri + 1 by rw [hs3, Hri2.out]); clear hr3 hb3 hs3)
      go_loopw [12] (fun v wr => ∃ D R, RangeAt P4.enc wr bc ri (intL M) (intL R) ∧ (D ++ R).Perm M ∧ OwnR 96 5 Ed.cells wr (ri + 1) v (D.flatMap two) ∧ Below w2.heap.size w2 wr ∧ ri + 1 ≤ wr.heap.size) (fun _ wr => wr.rangeLeft bc ri)
      case atStart => exact ⟨[], M, HR3.out, by rw [List.nil_append], OwnR.nil _ _, Hb3.out, by rw [Hs3.out]; exact Nat.le_refl _⟩
      case round =>
        obtain ⟨D, R, hrg, hperm, hown, hb, hsz⟩ := hrel
        obtain ⟨A7, c7, hv7⟩ := hown.shape
        subst hv7
        have hDl : D.length ≤ 60000 := by
          have h1 := hperm.length_eq
          rw [List.length_append] at h1
          omega
        have hEl : (D.flatMap two).length ≤ 120000 := by rw [two_len]; omega
        have Hel := Lib.hid hEl
        obtain ⟨nE, hnE⟩ : ∃ nE, (D.flatMap two).length = nE := ⟨_, rfl⟩
        rw [hnE] at hown ⊢
        have HnE := Lib.hid hnE
        have Hrg := Lib.hid hrg
        have Hperm := Lib.hid hperm
        have Hown := Lib.hid hown
        have Hb := Lib.hid hb
        have Hsz := Lib.hid hsz
        clear hrg hperm hown hb hsz HR3 Hb3 hEl hnE
        go_wp2_with (at_next; refine wpList_next_st _ rfl _ rfl keyP4.inj rfl Hrg.out ?_ ?_)
        · intro h0
          have hR0 : R = [] := by simpa [intL] using h0
          subst hR0
          clear h0
          have hperm := Hperm.out
          rw [List.append_nil] at hperm
          have hnd : (D.map (·.1)).Nodup := ((hperm.map _).nodup_iff).2 Hnd.out
          have hkeys := edge_keys HSE.out.cost Hnd.out
          have HS := Lib.hid (fun W hO => sortEs (.slice A7 nE c7) (D.flatMap two) (ri + 1) W hO (by have := Hel.out; omega) (edges_apart (fun e he => hkeys e (hperm.subset he)) hnd))
          have Hp := Lib.hid hperm
          clear hperm hnd hkeys
          go_wp2_with (go_at_call 42; (with_reducible refine Calls.mono (HS.out _ Hown.out) ?_); rintro r w4 ⟨rfl, ⟨N, hown4, hpN, hsN⟩, hg4⟩; have HO4 := Lib.hid hown4; have HN := Lib.hid (edges_laid Hcn.out HSE.out.cost Hnd.out Hp.out hpN hsN); have HNl := Lib.hid hpN.length_eq; have Hg4 := Lib.hid hg4; clear hown4 hg4 hpN hsN)
          obtain ⟨A8, c8, hv8⟩ := HO4.out.shape
          go_ret
          have hE : edgesV (l.map vX) = N := by rw [HN.out]; unfold edgesV; rw [HO1.out]
          refine ⟨⟨_, rfl, ?_⟩, ?_⟩
          · rw [hE]
            exact HO4.out.lower (by have := Hb2.out.size; have := Hri.out; have := Hbc.out; omega)
          · have h1 := below_trans Hb2.out Hb2.out.size Hb.out
            exact h1.grown Hg4.out h1.size (fun m e => by have := (Hown.out.block m e).1; have := Hb2.out.size; have := Hri.out; have := Hbc.out; omega)
        · intro pre e ev post w5 hsplit hrg5 hg5 hs5 hen
          obtain ⟨P, ⟨⟨a, b, c, d⟩, ct⟩, Q, hR, rfl, rfl, he⟩ := intL_split hsplit
          injection he with he1 he2
          subst he1 he2
          rw [intL_append] at hrg5
          have hmeas : (intL (P ++ Q)).length < (intL R).length := by rw [hR]; simp [intL]
          have hperm2 : (D ++ [((⟨a, b, c, d⟩ : P4), ct)] ++ (P ++ Q)).Perm M := by
            refine List.Perm.trans ?_ Hperm.out
            rw [hR, List.append_assoc]
            refine List.Perm.append_left D ?_
            rw [List.singleton_append]
            exact List.perm_middle.symm
          have Hmeas := Lib.hid hmeas
          have Hperm2 := Lib.hid hperm2
          have Hrg5 := Lib.hid hrg5
          have Hb5 := Lib.hid (show Below w2.heap.size w2 w5 from Hb.out.grown hg5 Hb.out.size (fun m e => by injection e with e; have := Hri.out; have := Hbc.out; omega))
          have Hown5 := Lib.hid (Hown.out.kept hg5 (by
            cases hv : (Value.slice A7 nE c7).ownBlock with
            | none => exact .inl rfl
            | some m => right; intro e; injection e with e; have := (Hown.out.block m hv).1; omega))
          have Hs5 := Lib.hid (show ri + 1 ≤ w5.heap.size by rw [hs5]; exact Hsz.out)
          clear hsplit hrg5 hg5 hs5 hR hmeas hperm2
          unfold P4.enc at hen
          simp only at hen
          obtain ⟨w6, hw6⟩ : ∃ w6, w5.alloc (.cells #[.int .i64 a, .int .i64 b, .int .i64 c, .int .i64 d] 113) = w6 := ⟨_, rfl⟩
          obtain ⟨g6, hg6⟩ : ∃ g6, w5.heap.size = g6 := ⟨_, rfl⟩
          have hk6 := Blk.new w5 113 #[.int .i64 a, .int .i64 b, .int .i64 c, .int .i64 d]
          have hb6 := below_new w5 (.cells #[.int .i64 a, .int .i64 b, .int .i64 c, .int .i64 d] 113)
          rw [hw6, hg6] at hk6
          rw [hw6] at hb6
          obtain ⟨p0, p1, p2, p3⟩ := blk4 hk6
          have hb7 := below_new w6 (.cells #[.int .i64 a, .int .i64 b, .int .i64 c, .int .i64 d, .int .i64 ct, .int .i64 c, .int .i64 d, .int .i64 a, .int .i64 b, .int .i64 0] 96)
          have hk7 := Blk.new w6 96 #[.int .i64 a, .int .i64 b, .int .i64 c, .int .i64 d, .int .i64 ct, .int .i64 c, .int .i64 d, .int .i64 a, .int .i64 b, .int .i64 0]
          have hb67 := below_trans hb6 hb6.size hb7
          have HRE := Lib.hid (rowsE_of_blk (L := two (⟨a, b, c, d⟩, ct)) hk7 (B := w6.heap.size + 1) (by omega))
          have HB7 := Lib.hid (below_trans Hb5.out Hb5.out.size hb67)
          have HO7 := Lib.hid (Hown5.out.below hb67)
          have HR7 := Lib.hid (Hrg5.out.below hb67 Hrg5.out.map.lt Hrg5.out.lt)
          have HS7 := Lib.hid (show ri + 1 ≤ (w6.alloc (.cells #[.int .i64 a, .int .i64 b, .int .i64 c, .int .i64 d, .int .i64 ct, .int .i64 c, .int .i64 d, .int .i64 a, .int .i64 b, .int .i64 0] 96)).heap.size from Nat.le_trans Hs5.out hb67.size)
          clear hk6 hb6 hk7 hb7 hb67
          go_wp2_with (at_builtin; (refine app_rows (e := 96) Ed.cells (fun _ => rfl) (by decide) (bytes := 40) (by decide) infoE rfl Tryz.underlying58 onesE (by rfl) _ _ (by rfl) (ri + 1) _ (D.flatMap two) (by rfl) HO7.out (some ⟨w6.heap.size, 0, none⟩) _ 2 (two (⟨a, b, c, d⟩, ct)) rfl (by rfl) (by simpa using HRE.out) (by have h1 := Hel.out; have h2 : (two (⟨a, b, c, d⟩, ct)).length = 2 := rfl; omega) HS7.out ?_); intro v8 w8 hown8 hg8 hor8; have HO8 := Lib.hid (show OwnR 96 5 Ed.cells w8 (ri + 1) v8 ((D ++ [((⟨a, b, c, d⟩ : P4), ct)]).flatMap two) by rw [List.flatMap_append, List.flatMap_singleton]; exact hown8); have Hg8 := Lib.hid hg8; clear hown8 hg8 hor8)
          have hne : ∀ m, (Value.slice A7 nE c7).ownBlock = some m → ri + 1 ≤ m := fun m hm => (Hown.out.block m hm).1
          have HR8 := Lib.hid (HR7.out.grown Hg8.out (fun e => by have := hne _ e.symm; have := Hri.out; omega) (fun e => by have := hne _ e.symm; omega))
          have HB8 := Lib.hid (show Below w2.heap.size w2 w8 from HB7.out.grown Hg8.out HB7.out.size (fun m hm => by have := hne m hm; have := Hri.out; have := Hbc.out; omega))
          have HS8 := Lib.hid (Nat.le_trans HS7.out Hg8.out.size)
          clear hne
          go_wp2
          go_roundw
          case measure => rw [HR8.out.left_eq, Hrg.out.left_eq]; exact Hmeas.out
          case rel => exact ⟨D ++ [((⟨a, b, c, d⟩ : P4), ct)], P ++ Q, HR8.out, Hperm2.out, HO8.out, HB8.out, HS8.out⟩

end Go.Proofs.YtpfjgecdlilkcaaGreat
