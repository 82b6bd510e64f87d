/-
  Layer 14: two sides, and what each of them is to take, side by side.
-/
import Derived.Test.YtfpjkeddcagfcaaBad
import Derived.Test.YtfpjkeddcagfcaaBae
import Derived.Test.YtfpjkeddcagfcaaBaf
namespace Go.Proofs.Ytfpjkeddcagfcaa
open Go.RowKit Go.Sort

/-- the rows that each side has, besides -/
structure AnyM (w0 W : World) (sa sb pa pb qa qb : Nat) (VA VB : Value) (x y : ExM) (ta tb : Value) (tx ty : List Hd) (u0 u1 : Value) (H0 H1 : List Hd) : Prop where
  s : Sides w0 W sa sb pa pb qa qb VA VB x y ta tb tx ty
  o0 : OwnT W w0.heap.size u0 H0
  o1 : OwnT W w0.heap.size u1 H1
  d0 : ∀ g, u0.ownBlock = some g → ta.ownBlock ≠ some g ∧ tb.ownBlock ≠ some g
  d1 : ∀ g, u1.ownBlock = some g → ta.ownBlock ≠ some g ∧ tb.ownBlock ≠ some g
section
variable {w0 W W' : World} {sa sb pa pb qa qb : Nat} {VA VB : Value} {x y : ExM} {ta tb : Value} {tx ty : List Hd} {u0 u1 : Value} {H0 H1 : List Hd}
theorem AnyM.keep (h : AnyM w0 W sa sb pa pb qa qb VA VB x y ta tb tx ty u0 u1 H0 H1) (hb : Below W.heap.size W W') : AnyM w0 W' sa sb pa pb qa qb VA VB x y ta tb tx ty u0 u1 H0 H1 :=
  ⟨h.s.keep hb, h.o0.below hb, h.o1.below hb, h.d0, h.d1⟩
theorem AnyM.left {S : List Hd} {r : Ending} (h : AnyM w0 W sa sb pa pb qa qb VA VB x y ta tb tx ty u0 u1 H0 H1) (hh : Hears w0 W W' sa sb pa pb qb VA VB x y ta tb tx ty S r) :
    r = .returned (.bool ((hearM x y.said S).2 != 3)) ∧ ∃ q t, AnyM w0 W' sa sb pa pb q qb VA VB (hearM x y.said S).1 y t tb (tookX tx (hearM x y.said S).2 y.said.hs) ty u0 u1 H0 H1 := by
  obtain ⟨hr, q, t, hs, hf⟩ := hh
  obtain ⟨f0, e0⟩ := hf _ _ _ h.o0 (fun g e => (h.d0 g e).1)
  obtain ⟨f1, e1⟩ := hf _ _ _ h.o1 (fun g e => (h.d1 g e).1)
  exact ⟨hr, q, t, hs, f0, f1, fun g e => ⟨e0 g e, (h.d0 g e).2⟩, fun g e => ⟨e1 g e, (h.d1 g e).2⟩⟩
theorem AnyM.right {S : List Hd} {r : Ending} (h : AnyM w0 W sa sb pa pb qa qb VA VB x y ta tb tx ty u0 u1 H0 H1) (hh : Hears w0 W W' sb sa pb pa qa VB VA y x tb ta ty tx S r) :
    r = .returned (.bool ((hearM y x.said S).2 != 3)) ∧ ∃ q t, AnyM w0 W' sa sb pa pb qa q VA VB x (hearM y x.said S).1 ta t tx (tookX ty (hearM y x.said S).2 x.said.hs) u0 u1 H0 H1 := by
  obtain ⟨hr, q, t, hs, hf⟩ := hh
  obtain ⟨f0, e0⟩ := hf _ _ _ h.o0 (fun g e => (h.d0 g e).2)
  obtain ⟨f1, e1⟩ := hf _ _ _ h.o1 (fun g e => (h.d1 g e).2)
  exact ⟨hr, q, t, hs.swap, f0, f1, fun g e => ⟨(h.d0 g e).1, e0 g e⟩, fun g e => ⟨(h.d1 g e).1, e1 g e⟩⟩
end
set_option maxHeartbeats 2000000 in
set_option maxRecDepth 100000 in
theorem begins_any (A A' : Option Addr) (n c n' c' : Nat) (T H : List Hd) (w : World) (h : RowsAt 7 Hd.cells w w.heap.size A T) (h' : RowsAt 7 Hd.cells w w.heap.size A' H) (hn : T.length = n) (hn' : H.length = n') (hc' : n' ≤ c') (hT : T = H.take n) (hl : n ≤ n') (hm : n' ≤ 2 ^ 20) :
    Calls Try.prog 16 #[.slice A n c, .slice A' n' c'] w fun r w' => r = .returned (.bool true) ∧ Below w.heap.size w w' := by
  have HS := Lib.hid (fun c1 => Same13s A A' c c1 T w w.heap.size w.heap.size h (by rw [hT]; exact rows_take h' n) (Nat.le_refl _) (Nat.le_refl _) (by omega) n n hn.symm hn.symm)
  have hln : (n : Int) ≤ (n' : Int) := by omega
  have hlc : (n : Int) ≤ (c' : Int) := by omega
  clear h h' hn hn' hT hl hm hc'
  go_enter Try.func16, Try.ntmps16
  go_wp2_with fail
  with_reducible refine Calls.mono (HS.out _) ?_
  rintro r w2 ⟨rfl, hb2⟩
  have Hb2 := Lib.hid hb2
  clear hb2
  go_wp2
  go_ret
  exact ⟨rfl, Hb2.out⟩

end Go.Proofs.Ytfpjkeddcagfcaa

/-
  Layer 14: the document's exchange in memory; its pieces; what it says.
-/
namespace Go.Proofs.Ytfpjkeddcagfcaa
open Go.RowKit Go.Sort

/-- the document's exchange: its cells -/
def rxA (a b n : Int) (ag ld dn l1 l2 l3 : Bool) (l4 : Int) (hl : Value) (s1 s2 s3 : Bool) (s4 : Int) (hv pv : Value) (j : Int) : Array Value :=
  #[.int .i64 a, .int .i64 b, .int .i64 n, .bool ag, .bool ld, .bool dn, .bool l1, .bool l2, .bool l3, .int .i64 l4, hl, .bool s1, .bool s2, .bool s3, .int .i64 s4, hv, pv, .int .i64 j]
theorem blk18 {w : World} {g : Nat} {t : TypeId} {x0 x1 x2 x3 x4 x5 x6 x7 x8 x9 xa xb xc xd xe xf xg xh : Value} (h : Blk w g t #[x0, x1, x2, x3, x4, x5, x6, x7, x8, x9, xa, xb, xc, xd, xe, xf, xg, xh]) : w.cell? ⟨g, 0, none⟩ = some x0 ∧ w.cell? ⟨g, 1, none⟩ = some x1 ∧ w.cell? ⟨g, 2, none⟩ = some x2 ∧ w.cell? ⟨g, 3, none⟩ = some x3 ∧ w.cell? ⟨g, 4, none⟩ = some x4 ∧ w.cell? ⟨g, 5, none⟩ = some x5 ∧ w.cell? ⟨g, 6, none⟩ = some x6 ∧ w.cell? ⟨g, 7, none⟩ = some x7 ∧ w.cell? ⟨g, 8, none⟩ = some x8 ∧ w.cell? ⟨g, 9, none⟩ = some x9 ∧ w.cell? ⟨g, 10, none⟩ = some xa ∧ w.cell? ⟨g, 11, none⟩ = some xb ∧ w.cell? ⟨g, 12, none⟩ = some xc ∧ w.cell? ⟨g, 13, none⟩ = some xd ∧ w.cell? ⟨g, 14, none⟩ = some xe ∧ w.cell? ⟨g, 15, none⟩ = some xf ∧ w.cell? ⟨g, 16, none⟩ = some xg ∧ w.cell? ⟨g, 17, none⟩ = some xh :=
  ⟨h.cell 0, h.cell 1, h.cell 2, h.cell 3, h.cell 4, h.cell 5, h.cell 6, h.cell 7, h.cell 8, h.cell 9, h.cell 10, h.cell 11, h.cell 12, h.cell 13, h.cell 14, h.cell 15, h.cell 16, h.cell 17⟩
/-- a slice as a value -/
structure SlV where
  a : Option Addr
  n : Nat
  c : Nat
def SlV.val (x : SlV) : Value := .slice x.a x.n x.c
abbrev vcell (v : SlV) : List Value := [v.val]
/-- all pieces, laid out -/
structure Pcs (w : World) (pv : Value) (V : List SlV) (H : List Hd) : Prop where
  row : OwnR 31 1 vcell w 0 pv V
  each : ∀ j (hj : j < V.length), OwnR 56 7 Hd.cells w 0 V[j].val (pieceAt H (3 * j))
  num : V.length = if H.length = 0 then 1 else (H.length + 2) / 3
theorem Pcs.more {w : World} {pv : Value} {V : List SlV} {H : List Hd} (h : Pcs w pv V H) (j : Nat) : decide (j + 1 < V.length) = moreP H j := by
  have := h.num
  unfold moreP
  rw [Bool.eq_iff_iff, decide_eq_true_eq, decide_eq_true_eq]
  split at this <;> omega
theorem Pcs.past {w : World} {pv : Value} {V : List SlV} {H : List Hd} (h : Pcs w pv V H) {j : Nat} (hj : V.length ≤ j) : pcP H j = [] ∧ moreP H j = false := by
  have := h.num
  have h3 : H.length ≤ 3 * j := by split at this <;> omega
  refine ⟨?_, ?_⟩
  · unfold pcP pieceAt kOf
    rw [if_neg (by omega), List.drop_eq_nil_of_le (Nat.le_refl _), List.take_nil]
  · unfold moreP
    rw [decide_eq_false_iff_not]
    omega
theorem Pcs.here {w : World} {pv : Value} {V : List SlV} {H : List Hd} (h : Pcs w pv V H) {j : Nat} (hj : j < V.length) : OwnR 56 7 Hd.cells w 0 V[j].val (pcP H j) := by
  have h1 := h.each j hj
  have := h.num
  unfold pcP kOf
  split
  · exact h1
  · have h0 : H.length = 0 := by split at this <;> omega
    have e : ∀ k, pieceAt H k = [] := fun k => by unfold pieceAt; rw [List.eq_nil_of_length_eq_zero h0]; simp
    rw [e] at h1 ⊢
    exact h1
theorem Pcs.below {w w' : World} {pv : Value} {V : List SlV} {H : List Hd} (h : Pcs w pv V H) (hb : Below w.heap.size w w') : Pcs w' pv V H := ⟨h.row.below hb, fun j hj => (h.each j hj).below hb, h.num⟩
/-- a block of another type grows -/
theorem Pcs.grown {w w' : World} {pv : Value} {V : List SlV} {H : List Hd} {p : Nat} {t : TypeId} {cs : Array Value} (h : Pcs w pv V H) (hb : Blk w p t cs) (h1 : 31 ≠ t) (h2 : 56 ≠ t) (hg : w.grownBy w' (some p)) : Pcs w' pv V H :=
  ⟨h.row.kept hg (.inr (own_ne14 h.row hb h1)), fun j hj => (h.each j hj).kept hg (.inr (own_ne14 (h.each j hj) hb h2)), h.num⟩
theorem Pcs.cell {w : World} {A : Option Addr} {n c : Nat} {V : List SlV} {H : List Hd} (h : Pcs w (.slice A n c) V H) {j : Nat} (hj : j < V.length) : ∃ g, A = some ⟨g, 0, none⟩ ∧ w.cell? ⟨g, j, none⟩ = some V[j].val := by
  rcases h.row.2 with ⟨e, h0⟩ | ⟨g, cap, cur, e, h1⟩
  · omega
  · injection e with e1 e2 e3
    refine ⟨g, e1, ?_⟩
    obtain ⟨g2, o, e4, hb, hc⟩ := (OwnR.rows (C := 1) (cells := vcell) (fun _ => rfl) h.row).2 (by omega)
    rw [e1] at e4
    injection e4 with e4
    injection e4 with e5 e6
    subst e5 e6
    simpa using hc j hj 0 _ (by omega) rfl
set_option maxHeartbeats 4000000 in
set_option maxRecDepth 100000 in
theorem rxSay_any (p : Nat) (a b n : Int) (ag ld dn l1 l2 l3 : Bool) (l4 : Int) (hl : Value) (s1 s2 s3 : Bool) (s4 : Int) (hv pv : Value) (j : Nat) (V : List SlV) (H : List Hd) (w : World) (hp : Blk w p 68 (rxA a b n ag ld dn l1 l2 l3 l4 hl s1 s2 s3 s4 hv pv j)) (hP : Pcs w pv V H) (hj : j ≤ 2 ^ 20) (hH : H.length ≤ 2 ^ 20) :
    Calls Try.prog 28 #[.pointer (some ⟨p, 0, none⟩)] w fun r w' => r = .returned (.tuple #[]) ∧ (∃ hv', Blk w' p 68 (rxA a b n ag ld dn l1 l2 l3 l4 hl false (moreP H j) ld n hv' pv j) ∧ OwnR 56 7 Hd.cells w' 0 hv' (pcP H j)) ∧ w.grownBy w' (some p) := by
  have HP := Lib.hid hp
  have HPc := Lib.hid hP
  obtain ⟨x0, x1, x2, x3, x4, x5, x6, x7, x8, x9, xa, xb, xc, xd, xe, xf, xg, xh⟩ := blk18 hp
  have hfz := fun i => hp.frozen i
  obtain ⟨A, c, hpv⟩ := hP.row.shape
  obtain ⟨nv, hnv⟩ : ∃ z, V.length = z := ⟨_, rfl⟩
  rw [hnv] at hpv
  subst hpv
  have hj2 : (j : Int) ≤ 1048576 := by omega
  have hnb : (nv : Int) ≤ 1048576 := by have := hP.num; split at this <;> omega
  clear hp hP
  go_enter Try.func28, Try.ntmps28
  go_wp2_with fail
  go_region
  obtain ⟨w1, hw1⟩ : ∃ w1, (((((w.setCell ⟨p, 11, none⟩ (.bool false)).setCell ⟨p, 12, none⟩ (.bool false)).setCell ⟨p, 13, none⟩ (.bool ld)).setCell ⟨p, 14, none⟩ (.int .i64 n)).setCell ⟨p, 15, none⟩ (.slice none 0 0)).drew = w1 := ⟨_, rfl⟩
  rw [hw1]
  have hg1 : w.grownBy w1 (some p) := by rw [← hw1]; exact gr_trans (gr_set (gr_set (gr_set (gr_set (grown_set w p 11 _) 12 _) 13 _) 14 _) 15 _) (gr_below ((Below.refl _ _).drew))
  have hp1 : Blk w1 p 68 (rxA a b n ag ld dn l1 l2 l3 l4 hl false false ld n (.slice none 0 0) (.slice A nv c) j) := by
    rw [← hw1]
    have hset := ((((HP.out.set_ 11 (.bool false)).set_ 12 (.bool false)).set_ 13 (.bool ld)).set_ 14 (.int .i64 n)).set_ 15 (.slice none 0 0)
    have hset2 : Blk (((((w.setCell ⟨p, 11, none⟩ (.bool false)).setCell ⟨p, 12, none⟩ (.bool false)).setCell ⟨p, 13, none⟩ (.bool ld)).setCell ⟨p, 14, none⟩ (.int .i64 n)).setCell ⟨p, 15, none⟩ (.slice none 0 0)) p 68 (rxA a b n ag ld dn l1 l2 l3 l4 hl false false ld n (.slice none 0 0) (.slice A nv c) j) := by simpa [rxA] using hset
    exact hset2.below ((Below.refl _ _).drew) hset2.lt
  have hP1 := HPc.out.grown HP.out (by decide) (by decide) hg1
  have HP1 := Lib.hid hp1
  have HPc1 := Lib.hid hP1
  have Hg1 := Lib.hid hg1
  clear x0 x1 x2 x3 x4 x5 x6 x7 x8 x9 xa xb xc xd xe xf xg xh hfz hw1 hP1 hg1
  obtain ⟨x0, x1, x2, x3, x4, x5, x6, x7, x8, x9, xa, xb, xc, xd, xe, xf, xg, xh⟩ := blk18 hp1
  have hfz := fun i => hp1.frozen i
  clear hp1
  go_wp2_with fail
  by_cases hin : j < nv
  · obtain ⟨g, hA, hcell⟩ := HPc1.out.cell (j := j) (by omega)
    have hown := HPc1.out.here (j := j) (by omega)
    have hji : (j : Int) < (nv : Int) := by omega
    have hmo : decide ((j : Int) < (nv : Int) - 1) = moreP H j := by
      rw [← HPc1.out.more j, hnv, Bool.eq_iff_iff, decide_eq_true_eq, decide_eq_true_eq]
      omega
    obtain ⟨mo, hmo2⟩ : ∃ mo, moreP H j = mo := ⟨_, rfl⟩
    rw [hmo2] at hmo
    have Hmo := Lib.hid hmo2
    obtain ⟨vj, hvj⟩ : ∃ vj, (V[j]'(by omega)).val = vj := ⟨_, rfl⟩
    rw [hvj] at hcell hown
    obtain ⟨Aj, cj, hvs⟩ := hown.shape
    subst hvs hA
    obtain ⟨nj, hnj⟩ : ∃ z, (pcP H j).length = z := ⟨_, rfl⟩
    rw [hnj] at hcell hown
    have HO := Lib.hid hown
    clear hown hvj hmo2 hin hnj
    go_quiet (fail)
    go_wp2_with fail
    obtain ⟨w2, hw2⟩ : ∃ w2, w1.drewN nq = w2 := ⟨_, rfl⟩
    rw [hw2]
    have hb2 : Below w1.heap.size w1 w2 := by rw [← hw2]; exact below_drewN (Below.refl _ _) _
    have hp2 := HP1.out.below hb2 HP1.out.lt
    have HP2 := Lib.hid hp2
    have HO2 := Lib.hid (HO.out.below hb2)
    have Hg2 := Lib.hid (gr_trans Hg1.out (gr_below hb2))
    have hc2 : w2.cell? ⟨g, j, none⟩ = some (.slice Aj nj cj) := by rw [← hw2]; simpa using hcell
    clear x0 x1 x2 x3 x4 x5 x6 x7 x8 x9 xa xb xc xd xe xf xg xh hfz hw2 hb2 hcell
    obtain ⟨x0, x1, x2, x3, x4, x5, x6, x7, x8, x9, xa, xb, xc, xd, xe, xf, xg, xh⟩ := blk18 hp2
    have hfz := fun i => hp2.frozen i
    clear hp2
    go_region
    obtain ⟨w3, hw3⟩ : ∃ w3, (w2.setCell ⟨p, 15, none⟩ (.slice Aj nj cj)).drew = w3 := ⟨_, rfl⟩
    rw [hw3]
    have hset := HP2.out.set_ 15 (.slice Aj nj cj)
    have hp3 : Blk w3 p 68 (rxA a b n ag ld dn l1 l2 l3 l4 hl false false ld n (.slice Aj nj cj) (.slice (some ⟨g, 0, none⟩) nv c) j) := by
      rw [← hw3]
      have hset2 : Blk (w2.setCell ⟨p, 15, none⟩ (.slice Aj nj cj)) p 68 (rxA a b n ag ld dn l1 l2 l3 l4 hl false false ld n (.slice Aj nj cj) (.slice (some ⟨g, 0, none⟩) nv c) j) := by simpa [rxA] using hset
      exact hset2.below ((Below.refl _ _).drew) hset2.lt
    have hg3 : w2.grownBy w3 (some p) := by rw [← hw3]; exact gr_trans (grown_set w2 p 15 _) (gr_below ((Below.refl _ _).drew))
    have HP3 := Lib.hid hp3
    have HO3 := Lib.hid (HO2.out.kept hg3 (.inr (own_ne14 HO2.out HP2.out (by decide))))
    have Hg3 := Lib.hid (gr_trans Hg2.out hg3)
    clear x0 x1 x2 x3 x4 x5 x6 x7 x8 x9 xa xb xc xd xe xf xg xh hfz hw3 hg3 hset hc2
    obtain ⟨x0, x1, x2, x3, x4, x5, x6, x7, x8, x9, xa, xb, xc, xd, xe, xf, xg, xh⟩ := blk18 hp3
    have hfz := fun i => hp3.frozen i
    clear hp3
    go_wp2_with fail
    go_region
    go_wp2
    refine bodyPost_end (results_none rfl _ _ _) rfl ?_
    refine ⟨rfl, ⟨.slice Aj nj cj, ?_, ?_⟩, ?_⟩
    · rw [Hmo.out]
      have hset := HP3.out.set_ 12 (.bool mo)
      have hset2 : Blk (w3.setCell ⟨p, 12, none⟩ (.bool mo)) p 68 (rxA a b n ag ld dn l1 l2 l3 l4 hl false mo ld n (.slice Aj nj cj) (.slice (some ⟨g, 0, none⟩) nv c) j) := by simpa [rxA] using hset
      exact hset2.below ((Below.refl _ _).drew) hset2.lt
    · exact (HO3.out.kept (gr_trans (grown_set w3 p 12 (.bool mo)) (gr_below ((Below.refl _ _).drew))) (.inr (own_ne14 HO3.out HP3.out (by decide))))
    · exact gr_trans Hg3.out (gr_trans (grown_set w3 p 12 (.bool mo)) (gr_below ((Below.refl _ _).drew)))
  · have hji : ¬ (j : Int) < (nv : Int) := by omega
    have Hpast := Lib.hid (HPc1.out.past (j := j) (by omega))
    go_quiet (fail)
    go_wp2
    refine bodyPost_end (results_none rfl _ _ _) rfl ?_
    rw [Hpast.out.1, Hpast.out.2]
    exact ⟨rfl, ⟨.slice none 0 0, HP1.out.below (below_drewN (Below.refl _ _) _) HP1.out.lt, OwnR.nil _ _⟩, gr_trans Hg1.out (gr_below (below_drewN (Below.refl _ _) _))⟩

end Go.Proofs.Ytfpjkeddcagfcaa

/-
  Layer 14: a new exchange of the document's; which pieces are told the same.
-/
namespace Go.Proofs.Ytfpjkeddcagfcaa
open Go.RowKit Go.Sort

theorem alike_keys (i m s i' m' s' : Bool) (q q' : Int) {t : Bool} (ht : decide (i = i' ∧ m = m' ∧ s = s' ∧ q = q') = t) :
    ((i == i') = false ∧ t = false) ∨ ((i == i') = true ∧ (m == m') = false ∧ t = false) ∨ ((i == i') = true ∧ (m == m') = true ∧ (s == s') = false ∧ t = false) ∨ ((i == i') = true ∧ (m == m') = true ∧ (s == s') = true ∧ (q == q') = t) := by
  subst ht
  cases i <;> cases i' <;> cases m <;> cases m' <;> cases s <;> cases s' <;> by_cases h : q = q' <;> simp [h]
set_option maxHeartbeats 4000000 in
set_option maxRecDepth 100000 in
theorem alike_any (i m s : Bool) (q : Int) (hv : Value) (i' m' s' : Bool) (q' : Int) (hv' : Value) {t : Bool} (ht : decide (i = i' ∧ m = m' ∧ s = s' ∧ q = q') = t) (h1 : ∃ A n c, hv = .slice A n c) (h2 : ∃ A n c, hv' = .slice A n c) (w : World) :
    Calls Try.prog 29 #[.agg #[.bool i, .bool m, .bool s, .int .i64 q, hv], .agg #[.bool i', .bool m', .bool s', .int .i64 q', hv']] w fun r w' => r = .returned (.bool t) ∧ Below w.heap.size w w' := by
  obtain ⟨A, n, c, rfl⟩ := h1
  obtain ⟨A', n', c', rfl⟩ := h2
  have hk := alike_keys i m s i' m' s' q q' ht
  have hb := fun o o' => (below_new w o).alloc (show w.heap.size ≤ (w.alloc o).heap.size by simp) o'
  have HB := Lib.hid hb
  clear ht hb
  rcases hk with ⟨e1, rfl⟩ | ⟨e1, e2, rfl⟩ | ⟨e1, e2, e3, rfl⟩ | ⟨e1, e2, e3, e4⟩
  all_goals
    go_enter Try.func29, Try.ntmps29
    go_wp2
    go_ret
    exact ⟨rfl, HB.out _ _⟩
theorem top14 (w : World) : Calls Try.prog 23 #[] w fun r w' => r = .returned (.int .i64 4294967296) ∧ w' = w := by
  go_enter Try.func23, Try.ntmps23
  go_wp2
  go_ret
  exact ⟨rfl, rfl⟩
set_option maxHeartbeats 1000000 in
theorem rxNew (a b n : Int) (w : World) : Calls Try.prog 9 #[.int .i64 a, .int .i64 b, .int .i64 n] w fun r w' => r = .returned (.pointer (some ⟨w.heap.size, 0, none⟩)) ∧ Blk w' w.heap.size 68 (rxA a b (n % 4294967296) false false false false false false 0 (.slice none 0 0) true true true (n % 4294967296) (.slice none 0 0) (.slice none 0 0) 0) ∧ Below w.heap.size w w' := by
  have HB := Lib.hid (fun o => below_new w o)
  have HK := Lib.hid (Blk.new w 68 (rxA a b (n % 4294967296) false false false false false false 0 (.slice none 0 0) true true true (n % 4294967296) (.slice none 0 0) (.slice none 0 0) 0))
  have ht : (0 ≤ n.tmod 4294967296 ∧ n.tmod 4294967296 = n % 4294967296) ∨ (n.tmod 4294967296 < 0 ∧ -4294967296 < n.tmod 4294967296 ∧ n.tmod 4294967296 + 4294967296 = n % 4294967296) := by
    by_cases h : 0 ≤ n
    · rw [Int.tmod_eq_emod_of_nonneg h]; omega
    · have e : n.tmod 4294967296 = -((-n) % 4294967296) := by
        rw [← Int.neg_neg n, Int.neg_tmod, Int.neg_neg, Int.tmod_eq_emod_of_nonneg (by omega)]
      rw [e]; omega
  obtain ⟨z, hz⟩ : ∃ z, n.tmod 4294967296 = z := ⟨_, rfl⟩
  rw [hz] at ht
  rcases ht with ⟨h0, e⟩ | ⟨h0, h1, e⟩
  · subst e
    have h2 : ¬ n % 4294967296 < 0 := by omega
    go_enter Try.func9, Try.ntmps9
    go_wp2_with (go_at_call 23; (with_reducible refine Calls.mono (top14 _) ?_); rintro r wx ⟨rfl, rfl⟩)
    go_ret
    exact ⟨rfl, HK.out, HB.out _⟩
  · go_enter Try.func9, Try.ntmps9
    go_wp2_with (go_at_call 23; (with_reducible refine Calls.mono (top14 _) ?_); rintro r wx ⟨rfl, rfl⟩)
    go_ret
    exact ⟨rfl, HK.out, HB.out _⟩

end Go.Proofs.Ytfpjkeddcagfcaa

/-
  Layer 14: the document's exchange, not agreed on, lets a piece be: way by way.
-/
namespace Go.Proofs.Ytfpjkeddcagfcaa
open Go.RowKit Go.Sort

theorem top14_q (W : World) (n : Nat) : Calls Try.prog 23 #[] (W.drewN n) fun r w' => r = .returned (.int .i64 4294967296) ∧ ∃ q, w' = W.drewN q :=
  (top14 _).mono (by rintro r w' ⟨rfl, rfl⟩; exact ⟨rfl, n, rfl⟩)
set_option maxHeartbeats 4000000 in
set_option maxRecDepth 100000 in
theorem rxNo_far0 (p : Nat) (a b n : Int) (l1 l2 l3 : Bool) (l4 : Int) (hlv : Value) (si sm ss : Bool) (sq : Int) (hv pv : Value) (j : Nat) (ag ld dn : Bool) (i m s : Bool) (q : Int) (hA : Option Addr) (nh hc : Nat) (A : Option Addr) (nn cap : Nat) (hq0 : q < 0) (_hnhi : (nh : Int) ≤ 1099511627776) (w : World) (hp : Blk w p 68 (rxA a b n ag ld dn l1 l2 l3 l4 hlv si sm ss sq hv pv j)) :
    Calls Try.prog 12 #[.pointer (some ⟨p, 0, none⟩), .agg #[.bool i, .bool m, .bool s, .int .i64 q, .slice hA nh hc], .slice A nn cap] w fun r w' => r = .returned (.int .i64 0) ∧ Below w.heap.size w w' := by
  obtain ⟨w1, hw1⟩ : ∃ w1, w.alloc (.cells #[.bool i, .bool m, .bool s, .int .i64 q, .slice hA nh hc] 33) = w1 := ⟨_, rfl⟩
  obtain ⟨g1, hg1⟩ : ∃ g1, w.heap.size = g1 := ⟨_, rfl⟩
  have hd := Blk.new w 33 #[.bool i, .bool m, .bool s, .int .i64 q, .slice hA nh hc]
  have hb1 := below_new w (.cells #[.bool i, .bool m, .bool s, .int .i64 q, .slice hA nh hc] 33)
  rw [hw1, hg1] at hd
  rw [hw1] at hb1
  have hp1 := hp.below hb1 hp.lt
  have Hb1 := Lib.hid hb1
  have HP1 := Lib.hid hp1
  have HD := Lib.hid hd
  obtain ⟨x0, x1, x2, x3, x4, x5, x6, x7, x8, x9, xa, xb, xc, xd, xe, xf, xg, xh⟩ := blk18 hp1
  obtain ⟨d0, d1, d2, d3, d4⟩ := blk5 hd
  clear hp hb1 hd hp1 x4 x5 x6 x7 x8 x9 xa xb xc xd xe xf xg xh
  go_enter Try.func12, Try.ntmps12
  go_wp2_with fail
  go_quiet (fail)
  go_wp2
  go_ret
  exact ⟨rfl, by first | exact below_drewN Hb1.out _ | exact Hbc.out | exact below_drewN Hbc.out _ | exact below_drewN (below_drewN (below_drewN Hb1.out _) _) _⟩
set_option maxHeartbeats 4000000 in
set_option maxRecDepth 100000 in
theorem rxNo_far1 (p : Nat) (a b n : Int) (l1 l2 l3 : Bool) (l4 : Int) (hlv : Value) (si sm ss : Bool) (sq : Int) (hv pv : Value) (j : Nat) (ag ld dn : Bool) (i m s : Bool) (q : Int) (hA : Option Addr) (nh hc : Nat) (A : Option Addr) (nn cap : Nat) (hq0 : ¬ q < 0) (hq2 : 4294967296 ≤ q) (_hnhi : (nh : Int) ≤ 1099511627776) (w : World) (hp : Blk w p 68 (rxA a b n ag ld dn l1 l2 l3 l4 hlv si sm ss sq hv pv j)) :
    Calls Try.prog 12 #[.pointer (some ⟨p, 0, none⟩), .agg #[.bool i, .bool m, .bool s, .int .i64 q, .slice hA nh hc], .slice A nn cap] w fun r w' => r = .returned (.int .i64 0) ∧ Below w.heap.size w w' := by
  obtain ⟨w1, hw1⟩ : ∃ w1, w.alloc (.cells #[.bool i, .bool m, .bool s, .int .i64 q, .slice hA nh hc] 33) = w1 := ⟨_, rfl⟩
  obtain ⟨g1, hg1⟩ : ∃ g1, w.heap.size = g1 := ⟨_, rfl⟩
  have hd := Blk.new w 33 #[.bool i, .bool m, .bool s, .int .i64 q, .slice hA nh hc]
  have hb1 := below_new w (.cells #[.bool i, .bool m, .bool s, .int .i64 q, .slice hA nh hc] 33)
  rw [hw1, hg1] at hd
  rw [hw1] at hb1
  have hp1 := hp.below hb1 hp.lt
  have Hb1 := Lib.hid hb1
  have HP1 := Lib.hid hp1
  have HD := Lib.hid hd
  obtain ⟨x0, x1, x2, x3, x4, x5, x6, x7, x8, x9, xa, xb, xc, xd, xe, xf, xg, xh⟩ := blk18 hp1
  obtain ⟨d0, d1, d2, d3, d4⟩ := blk5 hd
  clear hp hb1 hd hp1 x4 x5 x6 x7 x8 x9 xa xb xc xd xe xf xg xh
  go_enter Try.func12, Try.ntmps12
  go_wp2_with fail
  go_quiet (exact top14_q _ _)
  go_wp2
  go_ret
  exact ⟨rfl, by first | exact below_drewN Hb1.out _ | exact Hbc.out | exact below_drewN Hbc.out _ | exact below_drewN (below_drewN (below_drewN Hb1.out _) _) _⟩
set_option maxHeartbeats 4000000 in
set_option maxRecDepth 100000 in
theorem rxNo_f1 (p : Nat) (a b n : Int) (l1 l2 l3 : Bool) (l4 : Int) (hlv : Value) (si sm ss : Bool) (sq : Int) (hv pv : Value) (s : Bool) (q : Int) (hA : Option Addr) (nh hc : Nat) (A : Option Addr) (nn cap : Nat) (hq0 : ¬ q < 0) (hq2 : ¬ 4294967296 ≤ q) (_hnhi : (nh : Int) ≤ 1099511627776) (w : World) (hp : Blk w p 68 (rxA a b n false false false l1 l2 l3 l4 hlv si sm ss sq hv pv 0)) :
    Calls Try.prog 12 #[.pointer (some ⟨p, 0, none⟩), .agg #[.bool true, .bool false, .bool s, .int .i64 q, .slice hA nh hc], .slice A nn cap] w fun r w' => r = .returned (.int .i64 0) ∧ Below w.heap.size w w' := by
  obtain ⟨w1, hw1⟩ : ∃ w1, w.alloc (.cells #[.bool true, .bool false, .bool s, .int .i64 q, .slice hA nh hc] 33) = w1 := ⟨_, rfl⟩
  obtain ⟨g1, hg1⟩ : ∃ g1, w.heap.size = g1 := ⟨_, rfl⟩
  have hd := Blk.new w 33 #[.bool true, .bool false, .bool s, .int .i64 q, .slice hA nh hc]
  have hb1 := below_new w (.cells #[.bool true, .bool false, .bool s, .int .i64 q, .slice hA nh hc] 33)
  rw [hw1, hg1] at hd
  rw [hw1] at hb1
  have hp1 := hp.below hb1 hp.lt
  have Hb1 := Lib.hid hb1
  have HP1 := Lib.hid hp1
  have HD := Lib.hid hd
  obtain ⟨x0, x1, x2, x3, x4, x5, x6, x7, x8, x9, xa, xb, xc, xd, xe, xf, xg, xh⟩ := blk18 hp1
  obtain ⟨d0, d1, d2, d3, d4⟩ := blk5 hd
  clear hp hb1 hd hp1 x4 x5 x6 x7 x8 x9 xa xb xc xd xe xf xg xh
  go_enter Try.func12, Try.ntmps12
  go_wp2_with fail
  go_quiet (exact top14_q _ _)
  go_wp2_with fail
  go_quiet (fail)
  go_wp2_with fail
  go_quiet (fail)
  go_wp2
  go_ret
  exact ⟨rfl, by first | exact below_drewN Hb1.out _ | exact Hbc.out | exact below_drewN Hbc.out _ | exact below_drewN (below_drewN (below_drewN Hb1.out _) _) _⟩
set_option maxHeartbeats 4000000 in
set_option maxRecDepth 100000 in
theorem rxNo_f2 (p : Nat) (a b n : Int) (l1 l2 l3 : Bool) (l4 : Int) (hlv : Value) (si sm ss : Bool) (sq : Int) (hv pv : Value) (q : Int) (hA : Option Addr) (nh hc : Nat) (A : Option Addr) (nn cap : Nat) (hq0 : ¬ q < 0) (hq2 : ¬ 4294967296 ≤ q) (_hnhi : (nh : Int) ≤ 1099511627776) (w : World) (hp : Blk w p 68 (rxA a b n false false false l1 l2 l3 l4 hlv si sm ss sq hv pv 0)) :
    Calls Try.prog 12 #[.pointer (some ⟨p, 0, none⟩), .agg #[.bool true, .bool true, .bool false, .int .i64 q, .slice hA nh hc], .slice A nn cap] w fun r w' => r = .returned (.int .i64 0) ∧ Below w.heap.size w w' := by
  obtain ⟨w1, hw1⟩ : ∃ w1, w.alloc (.cells #[.bool true, .bool true, .bool false, .int .i64 q, .slice hA nh hc] 33) = w1 := ⟨_, rfl⟩
  obtain ⟨g1, hg1⟩ : ∃ g1, w.heap.size = g1 := ⟨_, rfl⟩
  have hd := Blk.new w 33 #[.bool true, .bool true, .bool false, .int .i64 q, .slice hA nh hc]
  have hb1 := below_new w (.cells #[.bool true, .bool true, .bool false, .int .i64 q, .slice hA nh hc] 33)
  rw [hw1, hg1] at hd
  rw [hw1] at hb1
  have hp1 := hp.below hb1 hp.lt
  have Hb1 := Lib.hid hb1
  have HP1 := Lib.hid hp1
  have HD := Lib.hid hd
  obtain ⟨x0, x1, x2, x3, x4, x5, x6, x7, x8, x9, xa, xb, xc, xd, xe, xf, xg, xh⟩ := blk18 hp1
  obtain ⟨d0, d1, d2, d3, d4⟩ := blk5 hd
  clear hp hb1 hd hp1 x4 x5 x6 x7 x8 x9 xa xb xc xd xe xf xg xh
  go_enter Try.func12, Try.ntmps12
  go_wp2_with fail
  go_quiet (exact top14_q _ _)
  go_wp2_with fail
  go_quiet (fail)
  go_wp2_with fail
  go_quiet (fail)
  go_wp2
  go_ret
  exact ⟨rfl, by first | exact below_drewN Hb1.out _ | exact Hbc.out | exact below_drewN Hbc.out _ | exact below_drewN (below_drewN (below_drewN Hb1.out _) _) _⟩
set_option maxHeartbeats 4000000 in
set_option maxRecDepth 100000 in
theorem rxNo_f3 (p : Nat) (a b n : Int) (l1 l2 l3 : Bool) (l4 : Int) (hlv : Value) (si sm ss : Bool) (sq : Int) (hv pv : Value) (q : Int) (hA : Option Addr) (nh hc : Nat) (A : Option Addr) (nn cap : Nat) (hq0 : ¬ q < 0) (hq2 : ¬ 4294967296 ≤ q) (e4 : ((nh : Int) == 0) = false) (_hnhi : (nh : Int) ≤ 1099511627776) (w : World) (hp : Blk w p 68 (rxA a b n false false false l1 l2 l3 l4 hlv si sm ss sq hv pv 0)) :
    Calls Try.prog 12 #[.pointer (some ⟨p, 0, none⟩), .agg #[.bool true, .bool true, .bool true, .int .i64 q, .slice hA nh hc], .slice A nn cap] w fun r w' => r = .returned (.int .i64 0) ∧ Below w.heap.size w w' := by
  obtain ⟨w1, hw1⟩ : ∃ w1, w.alloc (.cells #[.bool true, .bool true, .bool true, .int .i64 q, .slice hA nh hc] 33) = w1 := ⟨_, rfl⟩
  obtain ⟨g1, hg1⟩ : ∃ g1, w.heap.size = g1 := ⟨_, rfl⟩
  have hd := Blk.new w 33 #[.bool true, .bool true, .bool true, .int .i64 q, .slice hA nh hc]
  have hb1 := below_new w (.cells #[.bool true, .bool true, .bool true, .int .i64 q, .slice hA nh hc] 33)
  rw [hw1, hg1] at hd
  rw [hw1] at hb1
  have hp1 := hp.below hb1 hp.lt
  have Hb1 := Lib.hid hb1
  have HP1 := Lib.hid hp1
  have HD := Lib.hid hd
  obtain ⟨x0, x1, x2, x3, x4, x5, x6, x7, x8, x9, xa, xb, xc, xd, xe, xf, xg, xh⟩ := blk18 hp1
  obtain ⟨d0, d1, d2, d3, d4⟩ := blk5 hd
  clear hp hb1 hd hp1 x4 x5 x6 x7 x8 x9 xa xb xc xd xe xf xg xh
  go_enter Try.func12, Try.ntmps12
  go_wp2_with fail
  go_quiet (exact top14_q _ _)
  go_wp2_with fail
  go_quiet (fail)
  go_wp2_with fail
  go_quiet (fail)
  go_wp2
  go_ret
  exact ⟨rfl, by first | exact below_drewN Hb1.out _ | exact Hbc.out | exact below_drewN Hbc.out _ | exact below_drewN (below_drewN (below_drewN Hb1.out _) _) _⟩
set_option maxHeartbeats 4000000 in
set_option maxRecDepth 100000 in
theorem rxNo_f4 (p : Nat) (a b n : Int) (l1 l2 l3 : Bool) (l4 : Int) (hlv : Value) (si sm ss : Bool) (sq : Int) (hv pv : Value) (q : Int) (hA : Option Addr) (nh hc : Nat) (A : Option Addr) (nn cap : Nat) (hq0 : ¬ q < 0) (hq2 : ¬ 4294967296 ≤ q) (e4 : ((nh : Int) == 0) = true) (h5 : ¬ a < b) (_hnhi : (nh : Int) ≤ 1099511627776) (w : World) (hp : Blk w p 68 (rxA a b n false false false l1 l2 l3 l4 hlv si sm ss sq hv pv 0)) :
    Calls Try.prog 12 #[.pointer (some ⟨p, 0, none⟩), .agg #[.bool true, .bool true, .bool true, .int .i64 q, .slice hA nh hc], .slice A nn cap] w fun r w' => r = .returned (.int .i64 0) ∧ Below w.heap.size w w' := by
  obtain ⟨w1, hw1⟩ : ∃ w1, w.alloc (.cells #[.bool true, .bool true, .bool true, .int .i64 q, .slice hA nh hc] 33) = w1 := ⟨_, rfl⟩
  obtain ⟨g1, hg1⟩ : ∃ g1, w.heap.size = g1 := ⟨_, rfl⟩
  have hd := Blk.new w 33 #[.bool true, .bool true, .bool true, .int .i64 q, .slice hA nh hc]
  have hb1 := below_new w (.cells #[.bool true, .bool true, .bool true, .int .i64 q, .slice hA nh hc] 33)
  rw [hw1, hg1] at hd
  rw [hw1] at hb1
  have hp1 := hp.below hb1 hp.lt
  have Hb1 := Lib.hid hb1
  have HP1 := Lib.hid hp1
  have HD := Lib.hid hd
  obtain ⟨x0, x1, x2, x3, x4, x5, x6, x7, x8, x9, xa, xb, xc, xd, xe, xf, xg, xh⟩ := blk18 hp1
  obtain ⟨d0, d1, d2, d3, d4⟩ := blk5 hd
  clear hp hb1 hd hp1 x4 x5 x6 x7 x8 x9 xa xb xc xd xe xf xg xh
  go_enter Try.func12, Try.ntmps12
  go_wp2_with fail
  go_quiet (exact top14_q _ _)
  go_wp2_with fail
  go_cut [7] from 10 (fun v wx => v = .bool false ∧ Below w1.heap.size w1 wx)
  case first =>
    go_quiet (fail)
    go_wp2_with fail
    go_meet
    exact ⟨by simp [h5], below_drewN (below_drewN (Below.refl _ _) _) _⟩
  obtain ⟨rfl, hbc⟩ := hcut
  have hpc := HP1.out.below hbc HP1.out.lt
  have hdc := HD.out.below hbc HD.out.lt
  clear x0 x1 x2 x3 d0 d1 d2 d3 d4
  obtain ⟨x0, x1, x2, x3, x4, x5, x6, x7, x8, x9, xa, xb, xc, xd, xe, xf, xg, xh⟩ := blk18 hpc
  obtain ⟨d0, d1, d2, d3, d4⟩ := blk5 hdc
  have Hbc := Lib.hid (below_trans Hb1.out Hb1.out.size hbc)
  clear hpc hdc hbc
  go_wp2_with fail
  go_quiet (fail)
  go_wp2
  go_ret
  exact ⟨rfl, by first | exact below_drewN Hb1.out _ | exact Hbc.out | exact below_drewN Hbc.out _ | exact below_drewN (below_drewN (below_drewN Hb1.out _) _) _⟩
set_option maxHeartbeats 4000000 in
set_option maxRecDepth 100000 in
theorem rxNo_s1 (p : Nat) (a b n : Int) (l1 l2 l3 : Bool) (l4 : Int) (hlv : Value) (si sm ss : Bool) (sq : Int) (hv pv : Value) (m : Bool) (q : Int) (hA : Option Addr) (nh hc : Nat) (A : Option Addr) (nn cap : Nat) (hq0 : ¬ q < 0) (hq2 : ¬ 4294967296 ≤ q) (_hnhi : (nh : Int) ≤ 1099511627776) (w : World) (hp : Blk w p 68 (rxA a b n false false false l1 l2 l3 l4 hlv si sm ss sq hv pv 0)) :
    Calls Try.prog 12 #[.pointer (some ⟨p, 0, none⟩), .agg #[.bool false, .bool m, .bool true, .int .i64 q, .slice hA nh hc], .slice A nn cap] w fun r w' => r = .returned (.int .i64 0) ∧ Below w.heap.size w w' := by
  obtain ⟨w1, hw1⟩ : ∃ w1, w.alloc (.cells #[.bool false, .bool m, .bool true, .int .i64 q, .slice hA nh hc] 33) = w1 := ⟨_, rfl⟩
  obtain ⟨g1, hg1⟩ : ∃ g1, w.heap.size = g1 := ⟨_, rfl⟩
  have hd := Blk.new w 33 #[.bool false, .bool m, .bool true, .int .i64 q, .slice hA nh hc]
  have hb1 := below_new w (.cells #[.bool false, .bool m, .bool true, .int .i64 q, .slice hA nh hc] 33)
  rw [hw1, hg1] at hd
  rw [hw1] at hb1
  have hp1 := hp.below hb1 hp.lt
  have Hb1 := Lib.hid hb1
  have HP1 := Lib.hid hp1
  have HD := Lib.hid hd
  obtain ⟨x0, x1, x2, x3, x4, x5, x6, x7, x8, x9, xa, xb, xc, xd, xe, xf, xg, xh⟩ := blk18 hp1
  obtain ⟨d0, d1, d2, d3, d4⟩ := blk5 hd
  clear hp hb1 hd hp1 x4 x5 x6 x7 x8 x9 xa xb xc xd xe xf xg xh
  go_enter Try.func12, Try.ntmps12
  go_wp2_with fail
  go_quiet (exact top14_q _ _)
  go_wp2_with fail
  go_quiet (fail)
  go_wp2_with fail
  go_quiet (fail)
  go_wp2
  go_ret
  exact ⟨rfl, by first | exact below_drewN Hb1.out _ | exact Hbc.out | exact below_drewN Hbc.out _ | exact below_drewN (below_drewN (below_drewN Hb1.out _) _) _⟩
set_option maxHeartbeats 4000000 in
set_option maxRecDepth 100000 in
theorem rxNo_s2 (p : Nat) (a b n : Int) (l1 l2 l3 : Bool) (l4 : Int) (hlv : Value) (si sm ss : Bool) (sq : Int) (hv pv : Value) (m : Bool) (q : Int) (hA : Option Addr) (nh hc : Nat) (A : Option Addr) (nn cap : Nat) (hq0 : ¬ q < 0) (hq2 : ¬ 4294967296 ≤ q) (e4 : (q == n) = false) (_hnhi : (nh : Int) ≤ 1099511627776) (w : World) (hp : Blk w p 68 (rxA a b n false false false l1 l2 l3 l4 hlv si sm ss sq hv pv 0)) :
    Calls Try.prog 12 #[.pointer (some ⟨p, 0, none⟩), .agg #[.bool false, .bool m, .bool false, .int .i64 q, .slice hA nh hc], .slice A nn cap] w fun r w' => r = .returned (.int .i64 0) ∧ Below w.heap.size w w' := by
  obtain ⟨w1, hw1⟩ : ∃ w1, w.alloc (.cells #[.bool false, .bool m, .bool false, .int .i64 q, .slice hA nh hc] 33) = w1 := ⟨_, rfl⟩
  obtain ⟨g1, hg1⟩ : ∃ g1, w.heap.size = g1 := ⟨_, rfl⟩
  have hd := Blk.new w 33 #[.bool false, .bool m, .bool false, .int .i64 q, .slice hA nh hc]
  have hb1 := below_new w (.cells #[.bool false, .bool m, .bool false, .int .i64 q, .slice hA nh hc] 33)
  rw [hw1, hg1] at hd
  rw [hw1] at hb1
  have hp1 := hp.below hb1 hp.lt
  have Hb1 := Lib.hid hb1
  have HP1 := Lib.hid hp1
  have HD := Lib.hid hd
  obtain ⟨x0, x1, x2, x3, x4, x5, x6, x7, x8, x9, xa, xb, xc, xd, xe, xf, xg, xh⟩ := blk18 hp1
  obtain ⟨d0, d1, d2, d3, d4⟩ := blk5 hd
  clear hp hb1 hd hp1 x4 x5 x6 x7 x8 x9 xa xb xc xd xe xf xg xh
  go_enter Try.func12, Try.ntmps12
  go_wp2_with fail
  go_quiet (exact top14_q _ _)
  go_wp2_with fail
  go_quiet (fail)
  go_wp2_with fail
  go_quiet (fail)
  go_wp2
  go_ret
  exact ⟨rfl, by first | exact below_drewN Hb1.out _ | exact Hbc.out | exact below_drewN Hbc.out _ | exact below_drewN (below_drewN (below_drewN Hb1.out _) _) _⟩
set_option maxHeartbeats 4000000 in
set_option maxRecDepth 100000 in
theorem rxNo_s3 (p : Nat) (a b n : Int) (l1 l2 l3 : Bool) (l4 : Int) (hlv : Value) (si sm ss : Bool) (sq : Int) (hv pv : Value) (m : Bool) (q : Int) (hA : Option Addr) (nh hc : Nat) (A : Option Addr) (nn cap : Nat) (hq0 : ¬ q < 0) (hq2 : ¬ 4294967296 ≤ q) (e4 : (q == n) = true) (h5 : ¬ b < a) (_hnhi : (nh : Int) ≤ 1099511627776) (w : World) (hp : Blk w p 68 (rxA a b n false false false l1 l2 l3 l4 hlv si sm ss sq hv pv 0)) :
    Calls Try.prog 12 #[.pointer (some ⟨p, 0, none⟩), .agg #[.bool false, .bool m, .bool false, .int .i64 q, .slice hA nh hc], .slice A nn cap] w fun r w' => r = .returned (.int .i64 0) ∧ Below w.heap.size w w' := by
  obtain ⟨w1, hw1⟩ : ∃ w1, w.alloc (.cells #[.bool false, .bool m, .bool false, .int .i64 q, .slice hA nh hc] 33) = w1 := ⟨_, rfl⟩
  obtain ⟨g1, hg1⟩ : ∃ g1, w.heap.size = g1 := ⟨_, rfl⟩
  have hd := Blk.new w 33 #[.bool false, .bool m, .bool false, .int .i64 q, .slice hA nh hc]
  have hb1 := below_new w (.cells #[.bool false, .bool m, .bool false, .int .i64 q, .slice hA nh hc] 33)
  rw [hw1, hg1] at hd
  rw [hw1] at hb1
  have hp1 := hp.below hb1 hp.lt
  have Hb1 := Lib.hid hb1
  have HP1 := Lib.hid hp1
  have HD := Lib.hid hd
  obtain ⟨x0, x1, x2, x3, x4, x5, x6, x7, x8, x9, xa, xb, xc, xd, xe, xf, xg, xh⟩ := blk18 hp1
  obtain ⟨d0, d1, d2, d3, d4⟩ := blk5 hd
  clear hp hb1 hd hp1 x4 x5 x6 x7 x8 x9 xa xb xc xd xe xf xg xh
  go_enter Try.func12, Try.ntmps12
  go_wp2_with fail
  go_quiet (exact top14_q _ _)
  go_wp2_with fail
  go_quiet (fail)
  go_wp2_with fail
  go_cut [8] from 10 (fun v wx => v = .bool false ∧ Below w1.heap.size w1 wx)
  case first =>
    go_quiet (fail)
    go_wp2_with fail
    go_meet
    exact ⟨by simp [h5], below_drewN (below_drewN (below_drewN (Below.refl _ _) _) _) _⟩
  obtain ⟨rfl, hbc⟩ := hcut
  have hpc := HP1.out.below hbc HP1.out.lt
  have hdc := HD.out.below hbc HD.out.lt
  clear x0 x1 x2 x3 d0 d1 d2 d3 d4
  obtain ⟨x0, x1, x2, x3, x4, x5, x6, x7, x8, x9, xa, xb, xc, xd, xe, xf, xg, xh⟩ := blk18 hpc
  obtain ⟨d0, d1, d2, d3, d4⟩ := blk5 hdc
  have Hbc := Lib.hid (below_trans Hb1.out Hb1.out.size hbc)
  clear hpc hdc hbc
  go_wp2
  go_ret
  exact ⟨rfl, by first | exact below_drewN Hb1.out _ | exact Hbc.out | exact below_drewN Hbc.out _ | exact below_drewN (below_drewN (below_drewN Hb1.out _) _) _⟩

end Go.Proofs.Ytfpjkeddcagfcaa
