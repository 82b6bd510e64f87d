/-
  The walk of elect.Elect.
-/
import Derived.Test.YtfhikkmgclkcdaaProg
import Derived.Test.YtfhikkmgclkcdaaElIdx
namespace Go.Proofs.Ytfhikkmgclkcdaa
open Go.RowKit

theorem elect_none {self : Int} {l : List Cand} (h : idx self l = none) : elect self l = (goDr l, goBdr l) := by
  unfold elect; rw [h]
theorem elect_same {self : Int} {l : List Cand} {i : Nat} (h : idx self l = some i) (hi : i < l.length) (ha : agrees self (goDr l) (goBdr l) l[i] = true) : elect self l = (goDr l, goBdr l) := by
  unfold elect; rw [h]; simp [hi, ha]
theorem elect_turn {self : Int} {l : List Cand} {i : Nat} (h : idx self l = some i) (hi : i < l.length) (ha : agrees self (goDr l) (goBdr l) l[i] = false) :
    elect self l = (goDr (l.set i (mark self (goDr l) (goBdr l) l[i])), goBdr (l.set i (mark self (goDr l) (goBdr l) l[i]))) := by
  unfold elect; rw [h]; simp [hi, ha]
theorem idx_lt {self : Int} {l : List Cand} {i : Nat} (h : idx self l = some i) : i < l.length := by
  unfold idx at h
  rw [List.findIdx?_eq_some_iff_getElem] at h
  exact h.1
theorem set_turn2 (l : List Cand) (i : Nat) (hi : i < l.length) (x y : Int) (c : Cand) (hc : l[i] = c) :
    ((l.set i { l[i] with dr := x }).set i { (l.set i { l[i] with dr := x })[i]'(by simpa using hi) with bdr := y }) = l.set i { c with dr := x, bdr := y } := by
  subst hc
  simp

theorem box_at (w w1 : World) (v : Value) (t : TypeId) (hb : Below (w.alloc (.cells #[v] t)).heap.size (w.alloc (.cells #[v] t)) w1) : w1.cell? ⟨w.heap.size, 0, none⟩ = some v :=
  (Blk.below (Blk.new w t #[v]) hb (by simp)).cell 0

theorem own_mark2 {w : World} {B g cap n : Nat} {l : List Cand} (h : OwnC w B (.slice (some ⟨g, 0, none⟩) n cap) l) (hn : n = l.length) (i : Nat) (hi : i < l.length) (x : Int) :
    OwnC (((w.setCell ⟨g, i * 4 + 2, none⟩ (.int .i64 0)).setCell ⟨g, i * 4 + 3, none⟩ (.int .i64 0)).setCell ⟨g, i * 4 + 2, none⟩ (.int .i64 x)) B (.slice (some ⟨g, 0, none⟩) n cap) (l.set i { l[i] with dr := x, bdr := 0 }) := by
  have h1 := ((h.set2 hn i hi 0).set3 (by simpa using hn) i (by simpa using hi) 0).set2 (by simpa using hn) i (by simpa using hi) x
  simpa using h1
theorem own_mark3 {w : World} {B g cap n : Nat} {l : List Cand} (h : OwnC w B (.slice (some ⟨g, 0, none⟩) n cap) l) (hn : n = l.length) (i : Nat) (hi : i < l.length) (x : Int) :
    OwnC (((w.setCell ⟨g, i * 4 + 2, none⟩ (.int .i64 0)).setCell ⟨g, i * 4 + 3, none⟩ (.int .i64 0)).setCell ⟨g, i * 4 + 3, none⟩ (.int .i64 x)) B (.slice (some ⟨g, 0, none⟩) n cap) (l.set i { l[i] with dr := 0, bdr := x }) := by
  have h1 := ((h.set2 hn i hi 0).set3 (by simpa using hn) i (by simpa using hi) 0).set3 (by simpa using hn) i (by simpa using hi) x
  simpa using h1
theorem own_mark0 {w : World} {B g cap n : Nat} {l : List Cand} (h : OwnC w B (.slice (some ⟨g, 0, none⟩) n cap) l) (hn : n = l.length) (i : Nat) (hi : i < l.length) :
    OwnC ((w.setCell ⟨g, i * 4 + 2, none⟩ (.int .i64 0)).setCell ⟨g, i * 4 + 3, none⟩ (.int .i64 0)) B (.slice (some ⟨g, 0, none⟩) n cap) (l.set i { l[i] with dr := 0, bdr := 0 }) := by
  have h1 := (h.set2 hn i hi 0).set3 (by simpa using hn) i (by simpa using hi) 0
  simpa using h1
theorem OwnC.cands {w : World} {B n cap : Nat} {A : Option Addr} {l : List Cand} (h : OwnC w B (.slice A n cap) l) : n = l.length ∧ CandsAt w w.heap.size A l := by
  obtain ⟨A', cap', e, hc⟩ := h.shape
  cases e
  exact ⟨rfl, hc⟩

set_option maxHeartbeats 2000000 in
set_option maxRecDepth 100000 in
theorem elect_any (self : Int) (A : Option Addr) (cap : Nat) (l : List Cand) (w : World) (B : Nat) (hl : CandsAt w B A l) (hB : B ≤ w.heap.size) (hn : l.length ≤ 2 ^ 40) :
    Calls Try.prog 130 #[.int .i64 self, .slice A l.length cap] w fun e w' => e = .returned (.tuple #[.int .i64 (elect self l).1, .int .i64 (elect self l).2]) ∧ Below w.heap.size w w' := by
  have hl := hl.more hB
  have hn' : l.length ≤ maxLen := by unfold maxLen; omega
  have Hl := Lib.hid hl
  have Hn := Lib.hid hn'
  have hb : Below (w.alloc (.cells #[.int .i64 self] 3)).heap.size (w.alloc (.cells #[.int .i64 self] 3)) (w.alloc (.cells #[.int .i64 self] 3)) := Below.refl _ _
  have hb0 : Below w.heap.size w (w.alloc (.cells #[.int .i64 self] 3)) := (Below.refl _ _).alloc (Nat.le_refl _) _
  have hs0 : (w.alloc (.cells #[.int .i64 self] 3)).cell? ⟨w.heap.size, 0, none⟩ = some (.int .i64 self) := box_at w _ _ _ hb
  have hl0 : CandsAt (w.alloc (.cells #[.int .i64 self] 3)) (w.alloc (.cells #[.int .i64 self] 3)).heap.size A l := CandsAt.of hl hb0 hb0.size
  have Hl0 := Lib.hid hl0
  have Hs0 := Lib.hid hs0
  have hsz0 : w.heap.size < (w.alloc (.cells #[.int .i64 self] 3)).heap.size := by simp
  have Hb0 := Lib.hid hb0
  have Hb := Lib.hid hb
  have Hsz0 := Lib.hid hsz0
  clear hl hn' hB hl0 hs0 hb hb0 hsz0
  generalize hdr : goDr l = dr
  generalize hbdr : goBdr l = bdr
  have Hdr := Lib.hid hdr
  have Hbdr := Lib.hid hbdr
  rcases hi : idx self l with _ | i
  · have hfin := elect_none hi
    rw [hdr, hbdr] at hfin
    have Hfin := Lib.hid hfin
    have hI : idxI self l = -1 := by simp [idxI, hi]
    have HI := Lib.hid hI
    clear hfin hI hi hdr hbdr
    go_enter Try.func130, Try.ntmps130
    go_wp2_with (first
      | (go_at_call 154; (with_reducible refine Calls.mono (go_any A cap l _ _ (CandsAt.of Hl0.out Hb.out Hb.out.size) (Nat.le_refl _) Hn.out) ?_); rw [Hdr.out, Hbdr.out]; rintro e w1 ⟨rfl, hb1⟩; have Hb1 := Lib.hid hb1; clear hb1)
      | (go_at_call 132; (with_reducible refine Calls.mono (idx_any self w.heap.size A cap l _ _ (CandsAt.of Hl0.out Hb1.out Hb1.out.size) (Nat.le_refl _) Hn.out (box_at w _ _ _ Hb1.out) (Nat.lt_of_lt_of_le Hsz0.out Hb1.out.size)) ?_); rw [HI.out]; rintro e w2 ⟨rfl, hb2⟩))
    go_ret2
    exact ⟨by rw [Hfin.out]; rfl, Hb0.out.trans ((Hb1.out.mono (Nat.le_of_lt Hsz0.out)).trans (hb2.mono (Hb0.out.trans (Hb1.out.mono (Nat.le_of_lt Hsz0.out))).size))⟩
  · have hlt := idx_lt hi
    have hI : idxI self l = (i : Int) := by simp [idxI, hi]
    have HI := Lib.hid hI
    obtain ⟨b, o, rfl, hbB, e0, e1, e2, e3⟩ := CandsAt.at_ Hl.out i hlt
    have he : ∀ W, Below w.heap.size w W → W.cell? ⟨b, o + i * 4, none⟩ = some (.int .i64 l[i].id) ∧ W.cell? ⟨b, o + i * 4 + 1, none⟩ = some (.int .i64 l[i].prio) ∧ W.cell? ⟨b, o + i * 4 + 2, none⟩ = some (.int .i64 l[i].dr) ∧ W.cell? ⟨b, o + i * 4 + 3, none⟩ = some (.int .i64 l[i].bdr) :=
      fun W h => ⟨(h.cell (by exact hbB)).trans e0, (h.cell (by exact hbB)).trans e1, (h.cell (by exact hbB)).trans e2, (h.cell (by exact hbB)).trans e3⟩
    have HE := Lib.hid he
    clear he e0 e1 e2 e3 hI
    have htot : ∀ w1 w2, Below (w.alloc (.cells #[.int .i64 self] 3)).heap.size (w.alloc (.cells #[.int .i64 self] 3)) w1 → Below w1.heap.size w1 w2 → Below w.heap.size w w2 ∧ w2.cell? ⟨w.heap.size, 0, none⟩ = some (.int .i64 self) ∧ w.heap.size < w2.heap.size :=
      fun w1 w2 h1 h2 => ⟨(Hb0.out.trans (h1.mono (Nat.le_of_lt Hsz0.out))).trans (h2.mono (Hb0.out.trans (h1.mono (Nat.le_of_lt Hsz0.out))).size), (h2.cell (by exact Nat.lt_of_lt_of_le Hsz0.out h1.size)).trans (box_at w _ _ _ h1), Nat.lt_of_lt_of_le Hsz0.out (Nat.le_trans h1.size h2.size)⟩
    have Htot := Lib.hid htot
    clear htot
    have hcs : ∀ P : Prop, (agrees self dr bdr l[i] = true → ∀ t1 : ((dr == self) == (l[i].dr == self)) = true, ∀ t2 : ((bdr == self) == (l[i].bdr == self)) = true, P) → P → P := fun P _ h => h
    clear hcs
    by_cases ha : agrees self dr bdr l[i] = true
    · have hfin := elect_same hi hlt (by rw [hdr, hbdr]; exact ha)
      rw [hdr, hbdr] at hfin
      have Hfin := Lib.hid hfin
      have t1 : ((dr == self) == (l[i].dr == self)) = true := by unfold agrees at ha; simp only [Bool.and_eq_true] at ha; exact ha.1
      have t2 : ((bdr == self) == (l[i].bdr == self)) = true := by unfold agrees at ha; simp only [Bool.and_eq_true] at ha; exact ha.2
      clear hfin hi hdr hbdr ha hl
      generalize l[i] = c at *
      rcases c with ⟨ci, cp, cd, cb⟩
      generalize k1 : (dr == self) = d1 at *
      generalize k2 : (bdr == self) = d2 at *
      generalize k3 : (cd == self) = d3 at *
      generalize k4 : (cb == self) = d4 at *
      cases d1 <;> cases d2 <;> cases d3 <;> cases d4 <;> first | (exfalso; revert t1 t2; decide) | skip
      all_goals
        clear t1 t2
        go_enter Try.func130, Try.ntmps130
        go_wp2_with (first
          | (go_at_call 154; (with_reducible refine Calls.mono (go_any _ cap l _ _ (CandsAt.of Hl0.out Hb.out Hb.out.size) (Nat.le_refl _) Hn.out) ?_); rw [Hdr.out, Hbdr.out]; rintro e w1 ⟨rfl, hb1⟩; have Hb1 := Lib.hid hb1; clear hb1)
          | (go_at_call 132; (with_reducible refine Calls.mono (idx_any self w.heap.size _ cap l _ _ (CandsAt.of Hl0.out Hb1.out Hb1.out.size) (Nat.le_refl _) Hn.out (box_at w _ _ _ Hb1.out) (Nat.lt_of_lt_of_le Hsz0.out Hb1.out.size)) ?_); rw [HI.out]; rintro e w2 ⟨rfl, hb2⟩; obtain ⟨hbt, hst, hzt⟩ := Htot.out _ _ Hb1.out hb2; obtain ⟨e0, e1, e2, e3⟩ := HE.out _ hbt; have Hbt := Lib.hid hbt; clear hb2 hbt))
        go_ret2
        exact ⟨by rw [Hfin.out]; rfl, Hbt.out.alloc (Nat.le_of_lt hzt) _⟩
    · have ha : agrees self dr bdr l[i] = false := Bool.eq_false_iff.2 ha
      have hfin := elect_turn hi hlt (by rw [hdr, hbdr]; exact ha)
      rw [hdr, hbdr] at hfin
      have t1 : (((dr == self) == (l[i].dr == self)) && ((bdr == self) == (l[i].bdr == self))) = false := ha
      have hlen : ∀ c : Cand, (l.set i c).length = l.length := fun c => by simp
      have hm2 : ∀ (W : World) (B' g cap' : Nat), OwnC W B' (.slice (some ⟨g, 0, none⟩) l.length cap') l → CandsAt (((W.setCell ⟨g, i * 4 + 2, none⟩ (.int .i64 0)).setCell ⟨g, i * 4 + 3, none⟩ (.int .i64 0)).setCell ⟨g, i * 4 + 2, none⟩ (.int .i64 self)) (((W.setCell ⟨g, i * 4 + 2, none⟩ (.int .i64 0)).setCell ⟨g, i * 4 + 3, none⟩ (.int .i64 0)).setCell ⟨g, i * 4 + 2, none⟩ (.int .i64 self)).heap.size (some ⟨g, 0, none⟩) (l.set i { l[i] with dr := self, bdr := 0 }) :=
        fun W B' g cap' h => (OwnC.cands (own_mark2 h rfl i hlt self)).2
      have hm3 : ∀ (W : World) (B' g cap' : Nat), OwnC W B' (.slice (some ⟨g, 0, none⟩) l.length cap') l → CandsAt (((W.setCell ⟨g, i * 4 + 2, none⟩ (.int .i64 0)).setCell ⟨g, i * 4 + 3, none⟩ (.int .i64 0)).setCell ⟨g, i * 4 + 3, none⟩ (.int .i64 self)) (((W.setCell ⟨g, i * 4 + 2, none⟩ (.int .i64 0)).setCell ⟨g, i * 4 + 3, none⟩ (.int .i64 0)).setCell ⟨g, i * 4 + 3, none⟩ (.int .i64 self)).heap.size (some ⟨g, 0, none⟩) (l.set i { l[i] with dr := 0, bdr := self }) :=
        fun W B' g cap' h => (OwnC.cands (own_mark3 h rfl i hlt self)).2
      have hm0 : ∀ (W : World) (B' g cap' : Nat), OwnC W B' (.slice (some ⟨g, 0, none⟩) l.length cap') l → CandsAt ((W.setCell ⟨g, i * 4 + 2, none⟩ (.int .i64 0)).setCell ⟨g, i * 4 + 3, none⟩ (.int .i64 0)) ((W.setCell ⟨g, i * 4 + 2, none⟩ (.int .i64 0)).setCell ⟨g, i * 4 + 3, none⟩ (.int .i64 0)).heap.size (some ⟨g, 0, none⟩) (l.set i { l[i] with dr := 0, bdr := 0 }) :=
        fun W B' g cap' h => (OwnC.cands (own_mark0 h rfl i hlt)).2
      have hat : ∀ (W : World) (B' : Nat) (v : Value), OwnC W B' v l → ∃ g cap', v = .slice (some ⟨g, 0, none⟩) l.length cap' ∧ B' ≤ g ∧ g < W.heap.size ∧ W.cell? ⟨g, i * 4 + 2, none⟩ = some (.int .i64 l[i].dr) ∧ W.cell? ⟨g, i * 4 + 3, none⟩ = some (.int .i64 l[i].bdr) ∧ W.frozen? ⟨g, i * 4 + 2, none⟩ = false ∧ W.frozen? ⟨g, i * 4 + 3, none⟩ = false := by
        intro W B' v h
        obtain ⟨g, cap', e, h1, h2, _, _, h3, h4, h5⟩ := OwnC.at_ h i hlt
        exact ⟨g, cap', e, h1, h2, h3, h4, h5 _, h5 _⟩
      have hn40 := hn
      generalize l[i] = c at *
      have Hm2 := Lib.hid hm2
      have Hm3 := Lib.hid hm3
      have Hm0 := Lib.hid hm0
      have Hat := Lib.hid hat
      have Hn40 := Lib.hid hn40
      have Hlen := Lib.hid hlen
      clear hm2 hm3 hm0 hat hi hdr hbdr ha hl hlen
      rcases c with ⟨ci, cp, cd, cb⟩
      unfold mark at hfin
      generalize k1 : (dr == self) = d1 at *
      generalize k2 : (bdr == self) = d2 at *
      generalize k3 : (cd == self) = d3 at *
      generalize k4 : (cb == self) = d4 at *
      cases d1 <;> cases d2 <;> cases d3 <;> cases d4 <;> first | (exfalso; revert t1; decide) | skip
      all_goals
        have Hfin := Lib.hid hfin
        clear t1 hfin
        go_enter Try.func130, Try.ntmps130
        go_wp2_with (first
          | (go_at_call 154; (with_reducible refine Calls.mono (go_any _ cap l _ _ (CandsAt.of Hl0.out Hb.out Hb.out.size) (Nat.le_refl _) Hn.out) ?_); rw [Hdr.out, Hbdr.out]; rintro e w1 ⟨rfl, hb1⟩; have Hb1 := Lib.hid hb1; clear hb1)
          | (go_at_call 132; (with_reducible refine Calls.mono (idx_any self w.heap.size _ cap l _ _ (CandsAt.of Hl0.out Hb1.out Hb1.out.size) (Nat.le_refl _) Hn.out (box_at w _ _ _ Hb1.out) (Nat.lt_of_lt_of_le Hsz0.out Hb1.out.size)) ?_); rw [HI.out]; rintro e w2 ⟨rfl, hb2⟩; obtain ⟨hbt, hst, hzt⟩ := Htot.out _ _ Hb1.out hb2; obtain ⟨e0, e1, e2, e3⟩ := HE.out _ hbt; have Hbt := Lib.hid hbt; clear hb2 hbt)
          | (go_at_call 156; (with_reducible refine Calls.mono (clone_any _ cap l _ _ (CandsAt.of Hl.out (Hbt.out.alloc (Nat.le_of_lt hzt) _) (Hbt.out.alloc (Nat.le_of_lt hzt) _).size) (Nat.le_refl _) Hn40.out) ?_); rintro e w3 ⟨v, rfl, hown, hb3⟩; obtain ⟨g, cap', hv, hg1, hg2, x2, x3, y2, y3⟩ := Hat.out _ _ _ hown; subst hv; have hst3 := (hb3.cell (p := ⟨w.heap.size, 0, none⟩) (by simp; omega)).trans ((World.cell?_alloc_lt _ _ _ hzt).trans hst); have hg3 : w.heap.size < g := by (simp at hg1; omega))
          | (go_at_call 154; go_must (with_reducible refine Calls.mono (go_n _ _ cap' _ _ _ (by first | exact Hm0.out _ _ _ _ hown | exact Hm2.out _ _ _ _ hown | exact Hm3.out _ _ _ _ hown) (Nat.le_refl _) (by rw [Hlen.out]; exact Hn.out) (Hlen.out _).symm) ?_); rintro e w4 ⟨rfl, hb4⟩))
        go_ret2
        refine ⟨by rw [Hfin.out]; rfl, ?_⟩
        have hgw : ∀ j, w.heap.size ≤ (⟨g, j, none⟩ : Addr).block := fun j => Nat.le_of_lt hg3
        have hA := (Hbt.out.alloc (Nat.le_of_lt hzt) _).trans (hb3.mono (by simp; omega))
        have hS := (hA.setCell (hgw (i * 4 + 2)) (.int .i64 0)).setCell (hgw (i * 4 + 3)) (.int .i64 0)
        have hS2 := hS.setCell (hgw (i * 4 + 2)) (.int .i64 self)
        have hS3 := hS.setCell (hgw (i * 4 + 3)) (.int .i64 self)
        first
          | exact hS.trans (hb4.mono hS.size)
          | exact hS2.trans (hb4.mono hS2.size)
          | exact hS3.trans (hb4.mono hS3.size)

end Go.Proofs.Ytfhikkmgclkcdaa
