/-
  Layer 21 in plain words: the document's hops, row by row of its costs.
-/
import Derived.Test.YtpfjgecdlilkcaaGreatBab
import Derived.Test.YtpfjgecdlilkcaaGreatBac
import Derived.Test.YtpfjgecdlilkcaaGreatBae
import Derived.Test.YtpfjgecdlilkcaaGreatBaf
namespace Go.Proofs.YtpfjgecdlilkcaaGreat

/-- each row's hops: in order, just those for which P holds -/
structure HopsOf (R : List RowV) (N : List (List Hp)) (P : Vx → Nat → Hp → Prop) : Prop where
  len : N.length = R.length
  each : ∀ j (hj : j < R.length), (N[j]'(by omega)).Pairwise ltH ∧ ∀ h, h ∈ N[j]'(by omega) ↔ P R[j].1 R[j].2.c h
section
variable {R : List RowV} {N : List (List Hp)} {P P' : Vx → Nat → Hp → Prop}
theorem HopsOf.congr (h : HopsOf R N P) (hp : ∀ p ∈ R, ∀ x, P p.1 p.2.c x ↔ P' p.1 p.2.c x) : HopsOf R N P' :=
  ⟨h.len, fun j hj => ⟨(h.each j hj).1, fun x => ((h.each j hj).2 x).trans (hp _ (List.getElem_mem hj) x)⟩⟩
theorem HopsOf.add (h : HopsOf R N P) (hn : (R.map (·.1)).Nodup) {j : Nat} (hj : j < R.length) (x : Hp) : HopsOf R (N.set j (addHp x (N[j]'(by have := h.len; omega)))) (fun v c y => P v c y ∨ (v = R[j].1 ∧ y = x)) := by
  have hl := h.len
  refine ⟨by rw [List.length_set]; exact hl, fun k hk => ?_⟩
  by_cases hjk : j = k
  · subst hjk
    rw [List.getElem_set_self]
    refine ⟨add_sorted (h.each j hj).1, fun y => ?_⟩
    rw [mem_add, (h.each j hj).2]
    constructor
    · rintro (g | g)
      · exact .inr ⟨rfl, g⟩
      · exact .inl g
    · rintro (g | ⟨-, g⟩)
      · exact .inr g
      · exact .inl g
  · rw [List.getElem_set_ne hjk]
    refine ⟨(h.each k hk).1, fun y => ?_⟩
    rw [(h.each k hk).2]
    constructor
    · exact .inl
    · rintro (g | ⟨g, -⟩)
      · exact g
      · exfalso
        have h1 : (R.map (·.1))[j]'(by simpa using hj) = (R.map (·.1))[k]'(by simpa using hk) := by simp [g]
        exact hjk ((List.getElem_inj hn).1 h1)
theorem HopsOf.start (R : List RowV) : HopsOf R (List.replicate R.length []) (fun _ _ _ => False) :=
  ⟨List.length_replicate, fun j hj => by rw [List.getElem_replicate]; exact ⟨List.Pairwise.nil, by simp⟩⟩
end

/-- a hop right over an edge -/
def Hop1 (r : Vx) (e : Ed) (v : Vx) (c : Nat) (h : Hp) : Prop := cntE e = true ∧ e.src = r ∧ e.dst = v ∧ c = e.cost.toNat ∧ h = ⟨e.ti / 16, 0⟩
/-- a hop over two edges, and by the least cost from there -/
def Hop2 (DD : Vx → Vx → Option Val2) (r : Vx) (e f : Ed) (v : Vx) (c : Nat) (h : Hp) : Prop :=
  cntE e = true ∧ e.src = r ∧ cntE f = true ∧ f.src = e.dst ∧ (∃ b, DD f.dst v = some b ∧ e.cost.toNat + b.c = c) ∧ h = ⟨e.ti / 16, f.ti⟩
/-- behind some of the edges -/
def HopA (E : List Ed) (DD : Vx → Vx → Option Val2) (r : Vx) (X : List Ed) (v : Vx) (c : Nat) (h : Hp) : Prop := ∃ e ∈ X, Hop1 r e v c h ∨ ∃ f ∈ E, Hop2 DD r e f v c h
def HopB (E : List Ed) (DD : Vx → Vx → Option Val2) (r : Vx) (X : List Ed) (e : Ed) (Y : List Ed) (v : Vx) (c : Nat) (h : Hp) : Prop := HopA E DD r X v c h ∨ Hop1 r e v c h ∨ ∃ f ∈ Y, Hop2 DD r e f v c h
def HopC (E : List Ed) (DD : Vx → Vx → Option Val2) (r : Vx) (X : List Ed) (e : Ed) (Y : List Ed) (f : Ed) (V : List Vx) (v : Vx) (c : Nat) (h : Hp) : Prop := HopB E DD r X e Y v c h ∨ (v ∈ V ∧ Hop2 DD r e f v c h)
section
variable {E X Y : List Ed} {r : Vx} {DD : Vx → Vx → Option Val2} {R : List RowV} {N : List (List Hp)} {e f : Ed} {V : List Vx}
theorem hopA_start : HopsOf R (List.replicate R.length []) (HopA E DD r []) := (HopsOf.start R).congr fun p _ x => by simp [HopA]
/-- an edge that does not count, or that begins elsewhere -/
theorem hopA_skip (h : HopsOf R N (HopA E DD r X)) (hc : ¬ (cntE e = true ∧ e.src = r)) : HopsOf R N (HopA E DD r (X ++ [e])) := h.congr fun p _ x => by
  unfold HopA
  constructor
  · rintro ⟨d, hd, g⟩
    exact ⟨d, List.mem_append_left _ hd, g⟩
  · rintro ⟨d, hd, g⟩
    rcases List.mem_append.1 hd with hd | hd
    · exact ⟨d, hd, g⟩
    · rw [List.mem_singleton] at hd
      subst hd
      exfalso
      rcases g with ⟨g1, g2, -⟩ | ⟨f, -, g1, g2, -⟩
      · exact hc ⟨g1, g2⟩
      · exact hc ⟨g1, g2⟩
/-- the edge's own hop is laid -/
theorem hopB_first (h : HopsOf R N (HopA E DD r X)) (hn : (R.map (·.1)).Nodup) (hc : cntE e = true) (hs : e.src = r) {j : Nat} (hj : j < R.length) (hv : R[j].1 = e.dst) (hcost : R[j].2.c = e.cost.toNat) :
    HopsOf R (N.set j (addHp ⟨e.ti / 16, 0⟩ (N[j]'(by have := h.len; omega)))) (HopB E DD r X e []) := (h.add hn hj _).congr fun p hp x => by
  unfold HopB Hop1
  constructor
  · rintro (g | ⟨g1, g2⟩)
    · exact .inl g
    · refine .inr (.inl ⟨hc, hs, by rw [g1, hv], ?_, g2⟩)
      obtain ⟨k, hk, rfl⟩ := List.getElem_of_mem hp
      have h1 : (R.map (·.1))[k]'(by simpa using hk) = (R.map (·.1))[j]'(by simpa using hj) := by simpa using g1
      have := (List.getElem_inj hn).1 h1
      subst this
      exact hcost
  · rintro (g | ⟨-, -, g1, -, g2⟩ | ⟨d, hd, -⟩)
    · exact .inl g
    · exact .inr ⟨by rw [← g1, hv], g2⟩
    · cases hd
theorem hopB_none (h : HopsOf R N (HopA E DD r X)) (hn : (R.map (·.1)).Nodup) {j : Nat} (hj : j < R.length) (hv : R[j].1 = e.dst) (hcost : R[j].2.c ≠ e.cost.toNat) : HopsOf R N (HopB E DD r X e []) := h.congr fun p hp x => by
  unfold HopB Hop1
  constructor
  · exact .inl
  · rintro (g | ⟨-, -, g1, g3, -⟩ | ⟨d, hd, -⟩)
    · exact g
    · exfalso
      obtain ⟨k, hk, rfl⟩ := List.getElem_of_mem hp
      have h1 : (R.map (·.1))[k]'(by simpa using hk) = (R.map (·.1))[j]'(by simpa using hj) := by simpa using (g1.symm.trans hv.symm)
      have := (List.getElem_inj hn).1 h1
      subst this
      exact hcost g3
    · cases hd
theorem hopB_skip (h : HopsOf R N (HopB E DD r X e Y)) (hc : ¬ (cntE f = true ∧ f.src = e.dst)) : HopsOf R N (HopB E DD r X e (Y ++ [f])) := h.congr fun p _ x => by
  unfold HopB
  constructor
  · rintro (g | g | ⟨d, hd, g⟩)
    · exact .inl g
    · exact .inr (.inl g)
    · exact .inr (.inr ⟨d, List.mem_append_left _ hd, g⟩)
  · rintro (g | g | ⟨d, hd, g⟩)
    · exact .inl g
    · exact .inr (.inl g)
    · rcases List.mem_append.1 hd with hd | hd
      · exact .inr (.inr ⟨d, hd, g⟩)
      · rw [List.mem_singleton] at hd
        subst hd
        exact absurd ⟨g.2.2.1, g.2.2.2.1⟩ hc
theorem hopC_start (h : HopsOf R N (HopB E DD r X e Y)) : HopsOf R N (HopC E DD r X e Y f []) := h.congr fun p _ x => by simp [HopC]
/-- a row that is reached at that cost -/
theorem hopC_add (h : HopsOf R N (HopC E DD r X e Y f V)) (hn : (R.map (·.1)).Nodup) (hc : cntE e = true) (hs : e.src = r) (hcf : cntE f = true) (hsf : f.src = e.dst) {j : Nat} (hj : j < R.length) {b : Val2} (hb : DD f.dst R[j].1 = some b) (hcost : e.cost.toNat + b.c = R[j].2.c) :
    HopsOf R (N.set j (addHp ⟨e.ti / 16, f.ti⟩ (N[j]'(by have := h.len; omega)))) (HopC E DD r X e Y f (V ++ [R[j].1])) := (h.add hn hj _).congr fun p hp x => by
  unfold HopC
  constructor
  · rintro ((g | ⟨g1, g2⟩) | ⟨g1, g2⟩)
    · exact .inl g
    · exact .inr ⟨List.mem_append_left _ g1, g2⟩
    · refine .inr ⟨by rw [g1]; simp, hc, hs, hcf, hsf, ?_, g2⟩
      obtain ⟨k, hk, rfl⟩ := List.getElem_of_mem hp
      have h1 : (R.map (·.1))[k]'(by simpa using hk) = (R.map (·.1))[j]'(by simpa using hj) := by simpa using g1
      have := (List.getElem_inj hn).1 h1
      subst this
      exact ⟨b, hb, hcost⟩
  · rintro (g | ⟨g1, g2⟩)
    · exact .inl (.inl g)
    · rcases List.mem_append.1 g1 with g1 | g1
      · exact .inl (.inr ⟨g1, g2⟩)
      · rw [List.mem_singleton] at g1
        exact .inr ⟨g1, g2.2.2.2.2.2⟩
theorem hopC_not (h : HopsOf R N (HopC E DD r X e Y f V)) (hn : (R.map (·.1)).Nodup) {j : Nat} (hj : j < R.length) (hcost : ∀ b, DD f.dst R[j].1 = some b → e.cost.toNat + b.c ≠ R[j].2.c) : HopsOf R N (HopC E DD r X e Y f (V ++ [R[j].1])) := h.congr fun p hp x => by
  unfold HopC
  constructor
  · rintro (g | ⟨g1, g2⟩)
    · exact .inl g
    · exact .inr ⟨List.mem_append_left _ g1, g2⟩
  · rintro (g | ⟨g1, g2⟩)
    · exact .inl g
    · rcases List.mem_append.1 g1 with g1 | g1
      · exact .inr ⟨g1, g2⟩
      · rw [List.mem_singleton] at g1
        exfalso
        obtain ⟨k, hk, rfl⟩ := List.getElem_of_mem hp
        have h1 : (R.map (·.1))[k]'(by simpa using hk) = (R.map (·.1))[j]'(by simpa using hj) := by simpa using g1
        have := (List.getElem_inj hn).1 h1
        subst this
        obtain ⟨-, -, -, -, ⟨b, hb, hc⟩, -⟩ := g2
        exact hcost b hb hc
theorem hopC_end (h : HopsOf R N (HopC E DD r X e Y f (R.map (·.1)))) : HopsOf R N (HopB E DD r X e (Y ++ [f])) := h.congr fun p hp x => by
  unfold HopC HopB
  constructor
  · rintro ((g | g | ⟨d, hd, g⟩) | ⟨-, g⟩)
    · exact .inl g
    · exact .inr (.inl g)
    · exact .inr (.inr ⟨d, List.mem_append_left _ hd, g⟩)
    · exact .inr (.inr ⟨f, by simp, g⟩)
  · rintro (g | g | ⟨d, hd, g⟩)
    · exact .inl (.inl g)
    · exact .inl (.inr (.inl g))
    · rcases List.mem_append.1 hd with hd | hd
      · exact .inl (.inr (.inr ⟨d, hd, g⟩))
      · rw [List.mem_singleton] at hd
        subst hd
        exact .inr ⟨List.mem_map.2 ⟨p, hp, rfl⟩, g⟩
theorem hopB_end (h : HopsOf R N (HopB E DD r X e E)) : HopsOf R N (HopA E DD r (X ++ [e])) := h.congr fun p hp x => by
  unfold HopB HopA
  constructor
  · rintro (⟨d, hd, g⟩ | g | ⟨d, hd, g⟩)
    · exact ⟨d, List.mem_append_left _ hd, g⟩
    · exact ⟨e, by simp, .inl g⟩
    · exact ⟨e, by simp, .inr ⟨d, hd, g⟩⟩
  · rintro ⟨d, hd, g⟩
    rcases List.mem_append.1 hd with hd | hd
    · exact .inl ⟨d, hd, g⟩
    · rw [List.mem_singleton] at hd
      subst hd
      rcases g with g | g
      · exact .inr (.inl g)
      · exact .inr (.inr g)
end
/-- a row's value and hops -/
def rowT (R : List RowV) (N : List (List Hp)) (v : Vx) : Option (Val2 × List Hp) := (getR R v).map fun a => (a, N.getD (ixV v R) [])
theorem tree_of_rows {E : List Ed} {r : Vx} {DD : Vx → Vx → Option Val2} {N : List (List Hp)} (hD : Dists E DD) (hm : mayV r = true) (h : HopsOf (iterR E 200 [(r, ⟨0, 0⟩)]) N (HopA E DD r E)) : TreeIs E DD r (nodesO (rowT (iterR E 200 [(r, ⟨0, 0⟩)]) N) ordV) := by
  have hc := costs_dist (hD r)
  refine tree_of_ord hD hm ?_ ?_
  · intro v
    rw [← hc]
    unfold rowT
    rw [Option.map_map]
    cases getR (iterR E 200 [(r, ⟨0, 0⟩)]) v <;> rfl
  · intro v a n hv
    unfold rowT at hv
    obtain ⟨a', ha, e⟩ := Option.map_eq_some_iff.1 hv
    injection e with e1 e2
    subst e1
    obtain ⟨hi, hx⟩ := ix_lt ha
    have hl := h.len
    obtain ⟨h1, h2⟩ := h.each _ hi
    have hn : N[ixV v (iterR E 200 [(r, ⟨0, 0⟩)])]'(by omega) = n := by
      rw [← e2, List.getD_eq_getElem?_getD, List.getElem?_eq_getElem (by omega)]
      rfl
    rw [hn] at h1 h2
    rw [hx] at h2
    refine ⟨h1, fun x => (h2 x).trans ?_⟩
    rw [hc] at ha
    unfold HopA isHop Hop1 Hop2
    constructor
    · rintro ⟨e, he, ⟨g1, g2, g3, g4, g5⟩ | ⟨f, hf, g1, g2, g3, g4, ⟨b, g5, g6⟩, g7⟩⟩
      · exact ⟨e, he, g1, g2, _, ha, .inl ⟨g3, g4, g5⟩⟩
      · exact ⟨e, he, g1, g2, _, ha, .inr ⟨f, hf, g3, g4, b, g5, g6, g7⟩⟩
    · rintro ⟨e, he, g1, g2, a2, ha2, g⟩
      rw [ha] at ha2
      cases ha2
      rcases g with ⟨g3, g4, g5⟩ | ⟨f, hf, g3, g4, b, g5, g6, g7⟩
      · exact ⟨e, he, .inl ⟨g1, g2, g3, g4, g5⟩⟩
      · exact ⟨e, he, .inr ⟨f, hf, g1, g2, g3, g4, ⟨b, g5, g6⟩, g7⟩⟩

end Go.Proofs.YtpfjgecdlilkcaaGreat

/-
  Layer 21: the document's costs: its walk.
-/
namespace Go.Proofs.YtpfjgecdlilkcaaGreat
open Go.RowKit

set_option maxHeartbeats 8000000 in
set_option maxRecDepth 100000 in
theorem refCosts_any (A : Option Addr) (c : Nat) (E : List Ed) (k1 k2 : Int) (w : World) (hE : RowsAt 5 Ed.cells w w.heap.size A E) (hlen : E.length ≤ 4000) (hm : mayV ⟨k1, k2⟩ = true) (n : Nat) (hn : n = E.length) :
    Calls Tryz.prog 50 #[.agg #[.int .i64 k1, .int .i64 k2], .slice A n c] w fun r w' => (∃ v, r = .returned v ∧ OwnRw w' w.heap.size v (iterR E 200 [(⟨k1, k2⟩, ⟨0, 0⟩)])) ∧ Below w.heap.size w w' := by
  subst hn
  have HE := Lib.hid hE
  have Hm := Lib.hid hm
  have Hlen := Lib.hid hlen
  have hlen' : (E.length : Int) ≤ 4000 := by omega
  have hb0 := below_new w (.cells #[.int .i64 k1, .int .i64 k2] 61)
  have hk0 := Blk.new w 61 #[.int .i64 k1, .int .i64 k2]
  obtain ⟨w0, hW0⟩ : ∃ w0, w.alloc (.cells #[.int .i64 k1, .int .i64 k2] 61) = w0 := ⟨_, rfl⟩
  rw [hW0] at hk0 hb0
  have Hb0 := Lib.hid hb0
  have hb1 := below_new w0 (.cells #[.int .i64 k1, .int .i64 k2, .int .i64 0, .int .i64 0] 127)
  have ho1 := OwnR.lit (e := 127) (C := 4) (cells := rcells) (fun _ => rfl) (L := [(⟨k1, k2⟩, ⟨0, 0⟩)]) (n := 1) (B := w.heap.size) (Blk.new w0 127 #[.int .i64 k1, .int .i64 k2, .int .i64 0, .int .i64 0]) hb0.size rfl (by decide) (by unfold maxLen; omega)
  have HB1 := Lib.hid (below_trans hb0 hb0.size hb1)
  have HO1 := Lib.hid ho1
  obtain ⟨a0, a1, -, -⟩ := hk0.cells2
  clear hE hm hlen hb0 hk0 hb1 ho1
  go_enter Tryz.func50, Tryz.ntmps50
  go_wp2
  go_loopw [5, 6] (fun v i wr => ∃ k : Nat, i = .int .i64 k ∧ k ≤ 200 ∧ OwnRw wr w.heap.size v (iterR E k [(⟨k1, k2⟩, ⟨0, 0⟩)]) ∧ Below w.heap.size w wr) (fun _ i _ => 200 - (intOf i).toNat)
  case atStart => exact ⟨0, rfl, Nat.zero_le _, HO1.out, HB1.out⟩
  case round =>
    obtain ⟨k, rfl, hk, hown, hb⟩ := hrel
    obtain ⟨A5, c5, hv5⟩ := hown.shape
    subst hv5
    obtain ⟨wo, hwo⟩ : ∃ wo, wr = wo := ⟨_, rfl⟩
    subst hwo
    have Hown := Lib.hid hown
    have Hb := Lib.hid hb
    have Hk := Lib.hid hk
    obtain ⟨nL, hnL⟩ : ∃ nL, (iterR E k [(⟨k1, k2⟩, ⟨0, 0⟩)]).length = nL := ⟨_, rfl⟩
    rw [hnL]
    have HnL := Lib.hid hnL
    by_cases hlt : k < 200
    · have hkl : (k : Int) < 200 := by omega
      clear hown hb hk hnL
      go_wp2
      go_loopw [5, 7, 8] (fun v ch i wr => ∃ (j : Nat) (b : Bool), i = .int .i64 j ∧ ch = .bool b ∧ j ≤ E.length ∧ OwnRw wr w.heap.size v (rowsV E ⟨k1, k2⟩ k j) ∧ (b = false → rowsV E ⟨k1, k2⟩ k j = iterR E k [(⟨k1, k2⟩, ⟨0, 0⟩)]) ∧ Below w.heap.size w wr) (fun _ _ i _ => E.length - (intOf i).toNat)
      case atStart => exact ⟨0, false, rfl, rfl, Nat.zero_le _, by rw [rowsV_zero, HnL.out.symm]; exact Hown.out, fun _ => rfl, Hb.out⟩
      case round =>
        obtain ⟨j, b, rfl, rfl, hj, hown, hch, hb⟩ := hrel
        obtain ⟨A6, c6, hv6⟩ := hown.shape
        subst hv6
        have hsm := rowsV_small (r := ⟨k1, k2⟩) Hk.out hj Hlen.out
        have hok := rowsV_ok (E := E) Hm.out k j
        have hnx := fun h => rowsV_next E ⟨k1, k2⟩ k (i := j) h
        obtain ⟨L, hL⟩ : ∃ L, rowsV E ⟨k1, k2⟩ k j = L := ⟨_, rfl⟩
        rw [hL] at hown hch hsm hok hnx ⊢
        obtain ⟨nM, hnM⟩ : ∃ nM, L.length = nM := ⟨_, rfl⟩
        rw [hnM] at hown ⊢
        have Hsm := Lib.hid hsm
        have Hok := Lib.hid hok
        have HnM := Lib.hid hnM
        have Ho := Lib.hid hown
        have Hch := Lib.hid hch
        have HL := Lib.hid hL
        by_cases hlj : j < E.length
        · have Hnx := Lib.hid (hnx hlj)
          have hjl : (j : Int) < (E.length : Int) := by omega
          obtain ⟨g, o, hA', -, x0, x1, x2, x3, x4⟩ := row_ed ((HE.out.below hb).more hb.size) j hlj
          have HA' := Lib.hid hA'
          rw [hA']
          have Hlj := Lib.hid hlj
          generalize hx : E[j] = x at *
          obtain ⟨e1, e2, e3, e4, e5⟩ := x
          simp only at x0 x1 x2 x3 x4
          have hb9 := below_new wr (.cells #[.int .i64 e1, .int .i64 e2, .int .i64 e3, .int .i64 e4, .int .i64 e5] 96)
          have hk9 := Blk.new wr 96 #[.int .i64 e1, .int .i64 e2, .int .i64 e3, .int .i64 e4, .int .i64 e5]
          obtain ⟨w9, hw9⟩ : ∃ w9, wr.alloc (.cells #[.int .i64 e1, .int .i64 e2, .int .i64 e3, .int .i64 e4, .int .i64 e5] 96) = w9 := ⟨_, rfl⟩
          obtain ⟨g9, hg9⟩ : ∃ g9, wr.heap.size = g9 := ⟨_, rfl⟩
          rw [hw9, hg9] at hk9
          rw [hw9] at hb9
          have HK9 := Lib.hid hk9
          have HB9 := Lib.hid (below_trans hb hb.size hb9)
          have HO9 := Lib.hid (hown.below hb9)
          have HF := Lib.hid (fun W (hO : OwnRw W w.heap.size (.slice A6 nM c6) L) p q => refFind_any A6 c6 L p q W (OwnR.rows (C := 4) (cells := rcells) (fun _ => rfl) hO).2 (by have := Hok.out; omega) nM HnM.out.symm rfl)
          obtain ⟨t, ht⟩ : ∃ t, cntE ⟨e1, e2, e3, e4, e5⟩ = t := ⟨_, rfl⟩
          have HC := Lib.hid (fun W => refCnt_any e1 e2 e3 e4 e5 W ht)
          have Ht := Lib.hid ht
          obtain ⟨z0, z1, z2, z3, z4, -⟩ := hk9.cells5
          clear hown hch hsm hok hnx hnM hb hj hlj hx hb9 hk9 hA' hL ht
          go_wp2_with fail
          clear x0 x1 x2 x3 x4 z0 z1 z2 z3 z4
          with_reducible refine Calls.mono (HF.out _ HO9.out _ _) ?_
          rintro r wa ⟨rfl, hba⟩
          have HBa := Lib.hid (below_trans HB9.out HB9.out.size hba)
          have HKa := Lib.hid (HK9.out.below hba HK9.out.lt)
          have HOa := Lib.hid (HO9.out.below hba)
          obtain ⟨z0, z1, z2, z3, z4, -⟩ := HKa.out.cells5
          clear hba
          go_wp2_with fail
          clear z0 z1 z2 z3 z4
          with_reducible refine Calls.mono (HC.out _) ?_
          rintro r wb ⟨rfl, hbb⟩
          have HBb := Lib.hid (below_trans HBa.out HBa.out.size hbb)
          have KB := Lib.hid (HKa.out.below hbb HKa.out.lt)
          have HOb := Lib.hid (HOa.out.below hbb)
          obtain ⟨z0, z1, z2, z3, z4, -⟩ := KB.out.cells5
          clear hbb
          cases t with
          | false =>
            have Hsame := Lib.hid (Hnx.out.trans (relax_off Ht.out))
            go_wp2
            go_roundw
            case measure => have := Hlj.out; simp [intOf]; omega
            case rel => exact ⟨j + 1, b, by go_num, rfl, Hlj.out, by rw [Hsame.out]; have h := HOb.out; rw [← HnM.out] at h ⊢; exact h, fun hbf => by rw [Hsame.out]; exact Hch.out hbf, HBb.out⟩
          | true =>
            cases hsr : getR L (⟨e1, e2, e3, e4, e5⟩ : Ed).src with
            | none =>
              have Hsame := Lib.hid (Hnx.out.trans (relax_out hsr))
              have hfx := fix_none hsr
              simp only [Ed.src] at hfx
              clear hsr
              go_wp2
              go_roundw
              case measure => have := Hlj.out; simp [intOf]; omega
              case rel => exact ⟨j + 1, b, by go_num, rfl, Hlj.out, by rw [Hsame.out]; have h := HOb.out; rw [← HnM.out] at h ⊢; exact h, fun hbf => by rw [Hsame.out]; exact Hch.out hbf, HBb.out⟩
            | some a =>
              obtain ⟨p, hp, hfx, -, hLp⟩ := fix_some hsr
              have Hsr := Lib.hid hsr
              have Hp := Lib.hid hp
              have HLp := Lib.hid (show ∃ h : p < L.length, L[p] = ((⟨e1, e2, e3, e4, e5⟩ : Ed).src, a) from ⟨hp, hLp⟩)
              simp only [Ed.src] at hfx
              have hpm : (p : Int) < (nM : Int) := by have := HnM.out; omega
              obtain ⟨g6, hg6⟩ := HOb.out.first (by omega)
              subst hg6
              have has := Hsm.out _ (show (_, a) ∈ L by rw [← hLp]; exact List.getElem_mem hp)
              have hac := cost_le Ht.out
              simp only at has hac
              have PRow := Lib.hid (show ∀ W, Below wb.heap.size wb W → W.cell? ⟨g6, p * 4, none⟩ = some (.int .i64 e1) ∧ W.cell? ⟨g6, p * 4 + 1, none⟩ = some (.int .i64 e2) ∧ W.cell? ⟨g6, p * 4 + 2, none⟩ = some (.int .i64 a.c) ∧ W.cell? ⟨g6, p * 4 + 3, none⟩ = some (.int .i64 a.h) from fun W hW => by
                obtain ⟨g', o', e, -, r0, r1, r2, r3⟩ := row_rw (OwnR.rows (C := 4) (cells := rcells) (fun _ => rfl) (HOb.out.below hW)).2 p hp
                injection e with e
                injection e with e e'
                subst e e'
                rw [hLp] at r0 r1 r2 r3
                simp only [Nat.zero_add] at r0 r1 r2 r3
                exact ⟨r0, r1, r2, r3⟩)
              obtain ⟨sc, hsc⟩ : ∃ s : Nat, (stepV a ⟨e1, e2, e3, e4, e5⟩).c = s := ⟨_, rfl⟩
              have hsc2 : (a.c : Int) + e5 = (sc : Int) := by rw [← hsc]; unfold stepV; simp only; omega
              have Hsc := Lib.hid hsc
              have hac1 := hac.2.1
              have hac2 : (a.c : Int) ≤ 100000000 := by omega
              have hac3 : (a.h : Int) ≤ 1000000 := by omega
              have hac4 : 0 ≤ (a.c : Int) := by omega
              have hac5 : 0 ≤ (a.h : Int) := by omega
              have hac6 := hac1.1
              have hac7 := hac1.2
              have hsc3 : (sc : Int) ≤ 100000100 := by omega
              have hsc4 : 0 ≤ (sc : Int) := by omega
              have hwr : IntKind.i64.wrap (sc : Int) = (sc : Int) := IntWalk.i64_in _ (by omega)
              clear hsr hp hLp has hac hsc hac1
              go_wp2_with fail
              clear z0 z1 z2 z3 z4
              refine wp_region_F (F := fun W => Below wb.heap.size wb W) (n := 17) (m := 18) (s := #[false, false, false, false, false, false, false, false, false, false, false, false, false, false, false, false, false, false]) (by kernel_rfl) (by kernel_rfl) (by kernel_rfl) ?_
              intro wd hwd
              have hF : Below wb.heap.size wb wd := by rw [hwd.out]; exact (Below.refl _ _).drew
              clear hwd
              refine F_take (i := 0) (d := some 41) (by kernel_rfl) (by kernel_rfl) (by decide) (s' := #[true, false, false, false, false, false, false, false, false, false, false, false, false, false, false, false, false, false]) (by kernel_rfl) rfl rfl (by kernel_rfl) (by kernel_rfl) (by kernel_rfl) (fun _ _ _ h => h) (Or.inl ⟨by kernel_rfl, fun W hW => by go_simp; try with_reducible rfl⟩) hF ?_
              go_frame
              refine F_take (i := 1) (d := some 42) (by kernel_rfl) (by kernel_rfl) (by decide) (s' := #[true, true, false, false, false, false, false, false, false, false, false, false, false, false, false, false, false, false]) (by kernel_rfl) rfl rfl (by kernel_rfl) (by kernel_rfl) (by kernel_rfl) (fun _ _ _ h => h) (Or.inl ⟨by kernel_rfl, fun W hW => by obtain ⟨a0, a1, a2, a3, a4, -⟩ := (KB.out.below hW KB.out.lt).cells5; go_simp; try with_reducible rfl⟩) hF ?_
              go_frame
              refine F_take (i := 2) (d := some 43) (by kernel_rfl) (by kernel_rfl) (by decide) (s' := #[true, true, true, false, false, false, false, false, false, false, false, false, false, false, false, false, false, false]) (by kernel_rfl) rfl rfl (by kernel_rfl) (by kernel_rfl) (by kernel_rfl) (fun _ _ _ h => h) (Or.inl ⟨by kernel_rfl, fun W hW => by go_simp; try with_reducible rfl⟩) hF ?_
              go_frame
              refine F_take (i := 3) (d := some 44) (by kernel_rfl) (by kernel_rfl) (by decide) (s' := #[true, true, true, true, false, false, false, false, false, false, false, false, false, false, false, false, false, false]) (by kernel_rfl) rfl rfl (by kernel_rfl) (by kernel_rfl) (by kernel_rfl) (fun _ _ _ h => h) (Or.inl ⟨by kernel_rfl, fun W hW => by go_simp; try with_reducible rfl⟩) hF ?_
              go_frame
              refine F_take (i := 4) (d := some 45) (by kernel_rfl) (by kernel_rfl) (by decide) (s' := #[true, true, true, true, true, false, false, false, false, false, false, false, false, false, false, false, false, false]) (by kernel_rfl) rfl rfl (by kernel_rfl) (by kernel_rfl) (by kernel_rfl) (fun _ _ _ h => h) (Or.inl ⟨by kernel_rfl, fun W hW => by go_simp; try with_reducible rfl⟩) hF ?_
              go_frame
              refine F_take (i := 5) (d := some 46) (by kernel_rfl) (by kernel_rfl) (by decide) (s' := #[true, true, true, true, true, true, false, false, false, false, false, false, false, false, false, false, false, false]) (by kernel_rfl) rfl rfl (by kernel_rfl) (by kernel_rfl) (by kernel_rfl) (fun _ _ _ h => h) (Or.inl ⟨by kernel_rfl, fun W hW => by go_simp; try with_reducible rfl⟩) hF ?_
              go_frame
              refine F_take (i := 6) (d := some 47) (by kernel_rfl) (by kernel_rfl) (by decide) (s' := #[true, true, true, true, true, true, true, false, false, false, false, false, false, false, false, false, false, false]) (by kernel_rfl) rfl rfl (by kernel_rfl) (by kernel_rfl) (by kernel_rfl) (fun _ _ _ h => h) (Or.inl ⟨by kernel_rfl, fun W hW => by obtain ⟨b0, b1, b2, b3⟩ := PRow.out W hW; go_simp; try with_reducible rfl⟩) hF ?_
              go_frame
              refine F_take (i := 7) (d := some 48) (by kernel_rfl) (by kernel_rfl) (by decide) (s' := #[true, true, true, true, true, true, true, true, false, false, false, false, false, false, false, false, false, false]) (by kernel_rfl) rfl rfl (by kernel_rfl) (by kernel_rfl) (by kernel_rfl) (fun _ _ _ h => h) (Or.inl ⟨by kernel_rfl, fun W hW => by go_simp; try with_reducible rfl⟩) hF ?_
              go_frame
              refine F_take (i := 8) (d := some 49) (by kernel_rfl) (by kernel_rfl) (by decide) (s' := #[true, true, true, true, true, true, true, true, true, false, false, false, false, false, false, false, false, false]) (by kernel_rfl) rfl rfl (by kernel_rfl) (by kernel_rfl) (by kernel_rfl) (fun _ _ _ h => h) (Or.inl ⟨by kernel_rfl, fun W hW => by obtain ⟨a0, a1, a2, a3, a4, -⟩ := (KB.out.below hW KB.out.lt).cells5; go_simp; try with_reducible rfl⟩) hF ?_
              go_frame
              refine F_take (i := 9) (d := some 50) (by kernel_rfl) (by kernel_rfl) (by decide) (s' := #[true, true, true, true, true, true, true, true, true, true, false, false, false, false, false, false, false, false]) (by kernel_rfl) rfl rfl (by kernel_rfl) (by kernel_rfl) (by kernel_rfl) (fun _ _ _ h => h) (Or.inl ⟨by kernel_rfl, fun W hW => by go_simp; try with_reducible rfl⟩) hF ?_
              go_frame
              refine F_take (i := 10) (d := some 51) (by kernel_rfl) (by kernel_rfl) (by decide) (s' := #[true, true, true, true, true, true, true, true, true, true, true, false, false, false, false, false, false, false]) (by kernel_rfl) rfl rfl (by kernel_rfl) (by kernel_rfl) (by kernel_rfl) (fun _ _ _ h => h) (Or.inl ⟨by kernel_rfl, fun W hW => by go_simp; try with_reducible rfl⟩) hF ?_
              go_frame
              refine F_take (i := 11) (d := some 52) (by kernel_rfl) (by kernel_rfl) (by decide) (s' := #[true, true, true, true, true, true, true, true, true, true, true, true, false, false, false, false, false, false]) (by kernel_rfl) rfl rfl (by kernel_rfl) (by kernel_rfl) (by kernel_rfl) (fun _ _ _ h => h) (Or.inl ⟨by kernel_rfl, fun W hW => by go_simp; try with_reducible rfl⟩) hF ?_
              go_frame
              refine F_take (i := 12) (d := some 53) (by kernel_rfl) (by kernel_rfl) (by decide) (s' := #[true, true, true, true, true, true, true, true, true, true, true, true, true, false, false, false, false, false]) (by kernel_rfl) rfl rfl (by kernel_rfl) (by kernel_rfl) (by kernel_rfl) (fun _ _ _ h => h) (Or.inl ⟨by kernel_rfl, fun W hW => by go_simp; try with_reducible rfl⟩) hF ?_
              go_frame
              refine F_take (i := 13) (d := some 54) (by kernel_rfl) (by kernel_rfl) (by decide) (s' := #[true, true, true, true, true, true, true, true, true, true, true, true, true, true, false, false, false, false]) (by kernel_rfl) rfl rfl (by kernel_rfl) (by kernel_rfl) (by kernel_rfl) (fun _ _ _ h => h) (Or.inl ⟨by kernel_rfl, fun W hW => by go_simp; try with_reducible rfl⟩) hF ?_
              go_frame
              refine F_take (i := 14) (d := some 55) (by kernel_rfl) (by kernel_rfl) (by decide) (s' := #[true, true, true, true, true, true, true, true, true, true, true, true, true, true, true, false, false, false]) (by kernel_rfl) rfl rfl (by kernel_rfl) (by kernel_rfl) (by kernel_rfl) (fun _ _ _ h => h) (Or.inl ⟨by kernel_rfl, fun W hW => by obtain ⟨b0, b1, b2, b3⟩ := PRow.out W hW; go_simp; try with_reducible rfl⟩) hF ?_
              go_frame
              refine F_take (i := 15) (d := some 56) (by kernel_rfl) (by kernel_rfl) (by decide) (s' := #[true, true, true, true, true, true, true, true, true, true, true, true, true, true, true, true, false, false]) (by kernel_rfl) rfl rfl (by kernel_rfl) (by kernel_rfl) (by kernel_rfl) (fun _ _ _ h => h) (Or.inl ⟨by kernel_rfl, fun W hW => by go_simp; try with_reducible rfl⟩) hF ?_
              go_frame
              refine F_one (i := 16) (s' := #[true, true, true, true, true, true, true, true, true, true, true, true, true, true, true, true, true, false]) (by kernel_rfl) (by kernel_rfl) ?_
              obtain ⟨we, hwe⟩ : ∃ v, wd.alloc (.cells #[.int .i64 0, .int .i64 0, .int .i64 0, .int .i64 0] 127) = v := ⟨_, rfl⟩
              have hbx := below_new wd (.cells #[.int .i64 0, .int .i64 0, .int .i64 0, .int .i64 0] 127)
              have kx := Blk.new wd 127 #[.int .i64 0, .int .i64 0, .int .i64 0, .int .i64 0]
              obtain ⟨px, hpx⟩ : ∃ p, wd.heap.size = p := ⟨_, rfl⟩
              rw [hwe] at hbx kx
              rw [hpx] at kx
              have hBp : wb.heap.size ≤ px := by have := hF.size; omega
              have hF := below_trans hF hF.size hbx
              refine wpOp_valueL (i := 16) (d := some 11) (w' := we) (v := .pointer (some ⟨px, 0, none⟩)) rfl rfl (by kernel_rfl) (by go_simp) ⟨fun _ => hF, ?_⟩
              go_frame
              clear hbx hwe hpx
              refine F_one (i := 17) (s' := #[true, true, true, true, true, true, true, true, true, true, true, true, true, true, true, true, true, true]) (by kernel_rfl) (by kernel_rfl) ?_
              obtain ⟨wz, hwz⟩ : ∃ v, (((we.setCell ⟨px, 0, none⟩ (.int .i64 e3)).setCell ⟨px, 1, none⟩ (.int .i64 e4)).setCell ⟨px, 2, none⟩ (.int .i64 sc)).setCell ⟨px, 3, none⟩ (.int .i64 a.h) = v := ⟨_, rfl⟩
              obtain ⟨s0, s1, s2, s3, sf0, sf1, sf2, sf3⟩ := kx.cells4
              have kx := kx.set4s (.int .i64 e3) (.int .i64 e4) (.int .i64 sc) (.int .i64 a.h)
              have hF := below_set4z hF hBp (.int .i64 e3) (.int .i64 e4) (.int .i64 sc) (.int .i64 a.h)
              rw [hwz] at kx hF
              refine wpOp_skipL (i := 17) (w' := wz) rfl rfl (by kernel_rfl) (by go_simp) ⟨fun h => absurd h (by decide), ?_⟩
              go_frame
              clear hwz s0 s1 s2 s3 sf0 sf1 sf2 sf3
              refine F_done (by kernel_rfl) ?_ _
              have hne6 : g6 ≠ px := by have := (HOb.out.block g6 rfl).2; omega
              have HNe := Lib.hid hne6
              have HNe9 := Lib.hid (show g9 ≠ px by have := KB.out.lt; omega)
              have KX := Lib.hid kx
              have HBz := Lib.hid (below_trans HBb.out HBb.out.size hF)
              have KEz := Lib.hid (KB.out.below hF KB.out.lt)
              have HOz := Lib.hid (HOb.out.below hF)
              have HBp := Lib.hid (show w.heap.size ≤ px by have := HBb.out.size; omega)
              obtain ⟨sh, hsh⟩ : ∃ s : Nat, (stepV a ⟨e1, e2, e3, e4, e5⟩).h = s := ⟨_, rfl⟩
              have Hsh := Lib.hid hsh
              have Hstep := Lib.hid (show stepV a ⟨e1, e2, e3, e4, e5⟩ = ⟨sc, sh⟩ by rw [← Hsc.out, ← hsh])
              clear kx hF hne6 hBp PRow
              obtain ⟨q0, q1, q2, q3, qf0, qf1, qf2, qf3⟩ := KX.out.cells4
              obtain ⟨z0, z1, z2, z3, z4, -⟩ := KEz.out.cells5
              have hway : ∃ w12, Blk w12 px 127 #[.int .i64 e3, .int .i64 e4, .int .i64 sc, .int .i64 sh] ∧ Below w.heap.size w w12 ∧ Blk w12 g9 96 #[.int .i64 e1, .int .i64 e2, .int .i64 e3, .int .i64 e4, .int .i64 e5] ∧ OwnRw w12 w.heap.size (.slice (some ⟨g6, 0, none⟩) nM c6) L ∧ ((e3 = 2 ∧ wz.setCell ⟨px, 3, none⟩ (.int .i64 ((a.h : Int) + 1)) = w12) ∨ (¬ e3 = 2 ∧ wz = w12)) := by
                by_cases h2 : e3 = 2
                · have hs1 : (a.h : Int) + 1 = (sh : Int) := by
                    rw [← hsh]
                    simp [stepV, hopN, h2]
                  refine ⟨_, ?_, HBz.out.setCell (p := ⟨px, 3, none⟩) HBp.out _, KEz.out.far (p := ⟨px, 3, none⟩) HNe9.out _, HOz.out.far (p := ⟨px, 3, none⟩) (fun e => HNe.out (by injection e)) _, .inl ⟨h2, rfl⟩⟩
                  rw [hs1]
                  exact (KX.out.set_ 3 _).to (by simp)
                · have hs1 : (a.h : Int) = (sh : Int) := by
                    rw [← hsh]
                    simp [stepV, hopN, h2]
                  refine ⟨wz, by rw [← hs1]; exact KX.out, HBz.out, KEz.out, HOz.out, .inr ⟨h2, rfl⟩⟩
              obtain ⟨w12, k12, b12, ke12, o12, hway⟩ := hway
              have K12 := Lib.hid k12
              have B12 := Lib.hid b12
              have KE12 := Lib.hid ke12
              have O12 := Lib.hid o12
              clear k12 b12 ke12 o12 hsh
              have Hgen := Lib.hid (fun (W : World) (q : Nat) (d : Val2) (O : OwnRw W w.heap.size (.slice (some ⟨g6, 0, none⟩) nM c6) L) (hq : q < L.length) (hix : ixV (⟨e1, e2, e3, e4, e5⟩ : Ed).dst L = q) (hod : getR L (⟨e1, e2, e3, e4, e5⟩ : Ed).dst = some d) (hl : sc < d.c ∨ (sc = d.c ∧ sh < d.h)) => (show OwnRw ((((W.setCell ⟨g6, q * 4, none⟩ (.int .i64 e3)).setCell ⟨g6, q * 4 + 1, none⟩ (.int .i64 e4)).setCell ⟨g6, q * 4 + 2, none⟩ (.int .i64 sc)).setCell ⟨g6, q * 4 + 3, none⟩ (.int .i64 sh)) w.heap.size (.slice (some ⟨g6, 0, none⟩) nM c6) (rowsV E ⟨k1, k2⟩ k (j + 1)) from by
                rw [Hnx.out.trans (relax_old Ht.out Hsr.out hod), Hstep.out, if_pos (show lessV ⟨sc, sh⟩ d = true by simpa [lessV] using hl), hix]
                exact OwnRw.set4 O HnM.out.symm q hq (⟨e3, e4⟩, ⟨sc, sh⟩)))
              obtain ⟨od, hod⟩ : ∃ od, getR L (⟨e1, e2, e3, e4, e5⟩ : Ed).dst = od := ⟨_, rfl⟩
              have Hod := Lib.hid hod
              clear hod
              rcases hway with ⟨rfl, hw12⟩ | ⟨h2, rfl⟩
              all_goals
                obtain ⟨y0, y1, y2, y3, y4, -⟩ := KE12.out.cells5
                go_wp2_with fail
                clear q0 q1 q2 q3 qf0 qf1 qf2 qf3 z0 z1 z2 z3 z4 y0 y1 y2 y3 y4
                with_reducible refine Calls.mono (HF.out _ O12.out _ _) ?_
                rintro r wc ⟨rfl, hbc⟩
                have K13 := Lib.hid (K12.out.below hbc K12.out.lt)
                have B13 := Lib.hid (below_trans B12.out B12.out.size hbc)
                have O13 := Lib.hid (O12.out.below hbc)
                clear hbc
                obtain ⟨q0, q1, q2, q3, qf0, qf1, qf2, qf3⟩ := K13.out.cells4
                cases od with
                | none =>
                  have Hsame := Lib.hid (Hnx.out.trans (relax_new Ht.out Hsr.out Hod.out))
                  have hfx := fix_none Hod.out
                  simp only [Ed.dst] at hfx
                  go_wp2_with (at_builtin; (refine app_row (e := 127) rcells (fun _ => rfl) (by decide) (bytes := 32) (by decide) infoRw rfl Tryz.underlying122 onesRw (by rfl) _ _ (by rfl) w.heap.size _ L (by rfl) (O13.out.alloc _) wc.heap.size (⟨_, _⟩, ⟨sc, sh⟩) (by rfl) (Blk.new _ _ _) (by have := Hok.out; omega) (by have := B13.out.size; simp; omega) ?_); intro v15 w15 hown15 hg15 hor15; have HO15 := Lib.hid hown15; have HB15 := Lib.hid ((B13.out.alloc B13.out.size _).grown hg15 (by have := B13.out.size; simp; omega) (fun m hm => (O13.out.block m hm).1)); clear hown15 hg15 hor15)
                  go_roundw
                  case measure => have := Hlj.out; simp [intOf]; omega
                  case rel => exact ⟨j + 1, true, by go_num, rfl, Hlj.out, by rw [Hsame.out, Hstep.out]; exact HO15.out, fun h => absurd h (by decide), HB15.out⟩
                | some d =>
                  obtain ⟨q, hq, hfx, hix, hLq⟩ := fix_some Hod.out
                  simp only [Ed.dst] at hfx
                  have Hq := Lib.hid hq
                  have Hold := Lib.hid (Hnx.out.trans (relax_old Ht.out Hsr.out Hod.out))
                  have Hix := Lib.hid hix
                  have hqm : (q : Int) < (nM : Int) := by have := HnM.out; omega
                  have hd := Hsm.out _ (show (_, d) ∈ L by rw [← hLq]; exact List.getElem_mem hq)
                  simp only at hd
                  obtain ⟨g', o', e, -, r0, r1, r2, r3⟩ := row_rw (OwnR.rows (C := 4) (cells := rcells) (fun _ => rfl) O13.out).2 q hq
                  injection e with e
                  injection e with e e'
                  subst e e'
                  rw [hLq] at r0 r1 r2 r3
                  simp only [Nat.zero_add] at r0 r1 r2 r3
                  clear hLq hq hix
                  have Oq := Lib.hid (fun n => O13.out.below (below_drewN (Below.refl _ _) n))
                  have Bq := Lib.hid (fun n => below_drewN B13.out n)
                  have Hg6 := Lib.hid (O13.out.block g6 rfl).1
                  have Hkeep := Lib.hid (show ¬ lessV (stepV a _) d = true → rowsV E ⟨k1, k2⟩ k (j + 1) = L from fun h => by rw [Hold.out, if_neg h])
                  have Hle := Lib.hid (show lessV (stepV a _) d = true ↔ sc < d.c ∨ (sc = d.c ∧ sh < d.h) by rw [Hstep.out]; simp [lessV])
                  have Hf := Lib.hid (fun i => O13.out.froz i)
                  clear Hold
                  by_cases h5 : sc < d.c
                  · have Hl := Lib.hid (show sc < d.c ∨ (sc = d.c ∧ sh < d.h) from .inl h5)
                    have h5b : decide (sc < d.c) = true := by simp [h5]
                    have f0 := Hf.out (q * 4)
                    have f1 := Hf.out (q * 4 + 1)
                    have f2 := Hf.out (q * 4 + 2)
                    have f3 := Hf.out (q * 4 + 3)
                    clear h5
                    go_wp2
                    go_quiet (fail)
                    go_wp2
                    go_roundw
                    case measure => have := Hlj.out; simp [intOf]; omega
                    case rel => exact ⟨j + 1, true, by go_num, rfl, Hlj.out, by exact Hgen.out _ q d (Oq.out _) Hq.out Hix.out Hod.out Hl.out, fun h => absurd h (by decide), below_set4 (Bq.out _) Hg6.out _ _ _ _⟩
                  · have h5b : decide (sc < d.c) = false := by simp; omega
                    by_cases h6 : sc = d.c
                    · have h6b : ((sc : Int) == (d.c : Int)) = true := by simp; omega
                      have h6c : (sc == d.c) = true := by simp; omega
                      by_cases h7 : sh < d.h
                      · have Hl := Lib.hid (show sc < d.c ∨ (sc = d.c ∧ sh < d.h) from .inr ⟨h6, h7⟩)
                        have h7b : decide (sh < d.h) = true := by simp [h7]
                        have f0 := Hf.out (q * 4)
                        have f1 := Hf.out (q * 4 + 1)
                        have f2 := Hf.out (q * 4 + 2)
                        have f3 := Hf.out (q * 4 + 3)
                        clear h5 h6 h7
                        go_wp2
                        go_quiet (fail)
                        go_wp2
                        go_roundw
                        case measure => have := Hlj.out; simp [intOf]; omega
                        case rel => exact ⟨j + 1, true, by go_num, rfl, Hlj.out, by exact Hgen.out _ q d (Oq.out _) Hq.out Hix.out Hod.out Hl.out, fun h => absurd h (by decide), below_set4 (Bq.out _) Hg6.out _ _ _ _⟩
                      · have Hsame := Lib.hid (Hkeep.out (fun h => by rcases Hle.out.1 h with g | ⟨-, g⟩ <;> omega))
                        have h7b : decide (sh < d.h) = false := by simp; omega
                        clear h5 h6 h7
                        go_wp2
                        go_quiet (fail)
                        go_wp2
                        go_roundw
                        case measure => have := Hlj.out; simp [intOf]; omega
                        case rel => exact ⟨j + 1, b, by go_num, rfl, Hlj.out, by rw [Hsame.out]; have h := Oq.out; rw [← HnM.out] at h ⊢; exact h _, fun hbf => by rw [Hsame.out]; exact Hch.out hbf, Bq.out _⟩
                    · have Hsame := Lib.hid (Hkeep.out (fun h => by rcases Hle.out.1 h with g | ⟨g, -⟩ <;> omega))
                      have h6b : ((sc : Int) == (d.c : Int)) = false := by simp; omega
                      have h6c : (sc == d.c) = false := by simp; omega
                      clear h5 h6
                      go_wp2
                      go_quiet (fail)
                      go_wp2
                      go_roundw
                      case measure => have := Hlj.out; simp [intOf]; omega
                      case rel => exact ⟨j + 1, b, by go_num, rfl, Hlj.out, by rw [Hsame.out]; have h := Oq.out; rw [← HnM.out] at h ⊢; exact h _, fun hbf => by rw [Hsame.out]; exact Hch.out hbf, Bq.out _⟩
        · have hje : j = E.length := by omega
          subst hje
          have hjk : ¬ (E.length : Int) < (E.length : Int) := by omega
          have Hbq := Lib.hid hb
          have Hk1 := Lib.hid (show k + 1 ≤ 200 by omega)
          clear hown hch hsm hok hnx hnM hb hj hlj
          cases b with
          | false =>
            have hst := rowsV_stop Hk.out (HL.out.trans (Hch.out rfl))
            rw [HL.out] at hst
            have Hst := Lib.hid hst
            clear hst
            go_wp2
            go_ret
            exact ⟨⟨_, rfl, by rw [Hst.out]; exact Ho.out⟩, Hbq.out⟩
          | true =>
            go_wp2
            go_roundw
            case measure => simp [intOf]; omega
            case rel => exact ⟨k + 1, by go_num, Hk1.out, by rw [← rowsV_last, HL.out]; exact Ho.out, Hbq.out⟩
    · have hke : k = 200 := by omega
      subst hke
      clear hown hb hk hnL hlt
      go_wp2
      go_ret
      exact ⟨⟨_, rfl, by have h := Hown.out; rw [HnL.out] at h; exact h⟩, Hb.out⟩

end Go.Proofs.YtpfjgecdlilkcaaGreat

/-
  slices.Clone at the slices that a description has.
-/
namespace Go.Proofs.YtpfjgecdlilkcaaGreat
open Go.RowKit

theorem own_empty {α : Type} {e : TypeId} {C : Nat} {cells : α → List Value} (w : World) : OwnR e C cells (w.alloc (.cells #[] e)) w.heap.size (.slice (some ⟨w.heap.size, 0, none⟩) 0 0) ([] : List α) := by
  exact ⟨by simp, .inr ⟨w.heap.size, 0, #[], rfl, Nat.le_refl _, Blk.new w e #[], by simp, by unfold maxLen; omega, by simp, by simp⟩⟩
theorem infoInt' : (Tryz.prog.info? 3).map (fun i => (i.zero, i.size, i.bytes)) = some (some (.int .i64 0), 1, 8) := by kernel_rfl
theorem onesI (x : Int) : ∀ u ∈ icell x, u.oneCell' = true := by
  intro u hu
  simp [icell] at hu
  subst hu
  rfl
theorem infoLnk : (Tryz.prog.info? 53).map (fun i => (i.zero, i.size, i.bytes)) = some (some (.agg #[.int .i64 0, .int .i64 0, .int .i64 0, .int .i64 0]), 4, 32) := by kernel_rfl
theorem onesL (x : Lnk) : ∀ u ∈ Lnk.cells x, u.oneCell' = true := by
  intro u hu
  simp [Lnk.cells] at hu
  rcases hu with rfl | rfl | rfl | rfl <;> rfl
set_option maxHeartbeats 2000000 in
set_option maxRecDepth 100000 in
theorem cloneInt (A : Option Addr) (c : Nat) (M : List Int) (w : World) (B : Nat) (h : RowsAt 1 icell w B A M) (hB : B ≤ w.heap.size) (hl : M.length ≤ 2 ^ 20) (n : Nat) (hn : n = M.length) :
    Calls Tryz.prog 60 #[.slice A n c] w fun r w' => ∃ v, r = .returned v ∧ OwnR 3 1 icell w' w.heap.size v M ∧ Below w.heap.size w w' := by
  subst hn
  cases A with
  | none =>
    have hM : M = [] := by
      rcases Nat.eq_zero_or_pos M.length with h0 | h0
      · exact List.eq_nil_of_length_eq_zero h0
      · obtain ⟨b, o, e, -⟩ := h h0
        cases e
    subst hM
    clear h
    have hnil := fun (w : World) => Lib.run_eql_slice_nil (P := Tryz.prog) w 39 3 none 0 c 0 0 Tryz.underlying39
    simp only [List.length_nil]
    go_enter Tryz.func60, Tryz.ntmps60
    go_wp2
    go_ret
    exact ⟨_, rfl, OwnR.nil _ _, Below.refl _ _⟩
  | some a =>
    have H := Lib.hid (h.more hB)
    have HE : Hid (OwnR 3 1 icell (w.alloc (.cells #[] 3)) w.heap.size (.slice (some ⟨w.heap.size, 0, none⟩) 0 0) ([] : List Int)) := Lib.hid (own_empty _)
    have hb1 := (Below.refl w.heap.size w).alloc (Nat.le_refl _) (.cells #[] 3)
    have Hb1 := Lib.hid hb1
    clear h hB hb1
    have hnil := fun (w : World) => Lib.run_eql_slice_nil (P := Tryz.prog) w 39 3 (some a) M.length c 0 0 Tryz.underlying39
    go_enter Tryz.func60, Tryz.ntmps60
    go_wp2_with (at_builtin; (refine app_rows (e := 3) icell (fun _ => rfl) (by decide) (bytes := 8) (by decide) infoInt' rfl Tryz.underlying39 onesI (by rfl) _ _ (by rfl) w.heap.size _ [] (by rfl) HE.out (some a) c M.length M rfl (by rfl) ((H.out.below Hb1.out).more (by simp)) (by simp; omega) (by simp) ?_); intro v5 w5 hown5 hg5 hor5; have Hown5 := Lib.hid hown5; have Hb5 := Lib.hid (Hb1.out.grown hg5 (by simp) (fun j hj => (HE.out.block j hj).1)); clear hown5 hg5 hor5)
    go_ret
    exact ⟨_, rfl, by simpa using Hown5.out, Hb5.out⟩
set_option maxHeartbeats 2000000 in
set_option maxRecDepth 100000 in
theorem cloneLnk (A : Option Addr) (c : Nat) (M : List Lnk) (w : World) (B : Nat) (h : RowsAt 4 Lnk.cells w B A M) (hB : B ≤ w.heap.size) (hl : M.length ≤ 2 ^ 20) (n : Nat) (hn : n = M.length) :
    Calls Tryz.prog 59 #[.slice A n c] w fun r w' => ∃ v, r = .returned v ∧ OwnR 53 4 Lnk.cells w' w.heap.size v M ∧ Below w.heap.size w w' := by
  subst hn
  cases A with
  | none =>
    have hM : M = [] := by
      rcases Nat.eq_zero_or_pos M.length with h0 | h0
      · exact List.eq_nil_of_length_eq_zero h0
      · obtain ⟨b, o, e, -⟩ := h h0
        cases e
    subst hM
    clear h
    have hnil := fun (w : World) => Lib.run_eql_slice_nil (P := Tryz.prog) w 38 53 none 0 c 0 0 Tryz.underlying38
    simp only [List.length_nil]
    go_enter Tryz.func59, Tryz.ntmps59
    go_wp2
    go_ret
    exact ⟨_, rfl, OwnR.nil _ _, Below.refl _ _⟩
  | some a =>
    have H := Lib.hid (h.more hB)
    have HE : Hid (OwnR 53 4 Lnk.cells (w.alloc (.cells #[] 53)) w.heap.size (.slice (some ⟨w.heap.size, 0, none⟩) 0 0) ([] : List Lnk)) := Lib.hid (own_empty _)
    have hb1 := (Below.refl w.heap.size w).alloc (Nat.le_refl _) (.cells #[] 53)
    have Hb1 := Lib.hid hb1
    clear h hB hb1
    have hnil := fun (w : World) => Lib.run_eql_slice_nil (P := Tryz.prog) w 38 53 (some a) M.length c 0 0 Tryz.underlying38
    go_enter Tryz.func59, Tryz.ntmps59
    go_wp2_with (at_builtin; (refine app_rows (e := 53) Lnk.cells (fun _ => rfl) (by decide) (bytes := 32) (by decide) infoLnk rfl Tryz.underlying38 onesL (by rfl) _ _ (by rfl) w.heap.size _ [] (by rfl) HE.out (some a) c M.length M rfl (by rfl) ((H.out.below Hb1.out).more (by simp)) (by simp; omega) (by simp) ?_); intro v5 w5 hown5 hg5 hor5; have Hown5 := Lib.hid hown5; have Hb5 := Lib.hid (Hb1.out.grown hg5 (by simp) (fun j hj => (HE.out.block j hj).1)); clear hown5 hg5 hor5)
    go_ret
    exact ⟨_, rfl, by simpa using Hown5.out, Hb5.out⟩

end Go.Proofs.YtpfjgecdlilkcaaGreat
