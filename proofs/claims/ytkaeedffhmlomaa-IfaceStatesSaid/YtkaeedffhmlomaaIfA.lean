/-
  The walks of iface.Own and of the two moves.
-/
import Derived.BigRegion
import Derived.Laws.StructEq
import Derived.Deep.RegionLaw
import Derived.Test.YtkaeedffhmlomaaProg
import Derived.Test.YtkaeedffhmlomaaIfSpec
import Derived.Test.YtkaeedffhmlomaaAppend
import Derived.Test.YtkaeedffhmlomaaLawElectIs
namespace Go.Proofs.Ytkaeedffhmlomaa
open Go.RowKit

theorem Blk.cells5 {w : World} {g : Nat} {t : TypeId} {a b c d e : Value} (h : Blk w g t #[a, b, c, d, e]) : w.cell? ⟨g, 0, none⟩ = some a ∧ w.cell? ⟨g, 1, none⟩ = some b ∧ w.cell? ⟨g, 2, none⟩ = some c ∧ w.cell? ⟨g, 3, none⟩ = some d ∧ w.cell? ⟨g, 4, none⟩ = some e ∧
    w.frozen? ⟨g, 0, none⟩ = false ∧ w.frozen? ⟨g, 1, none⟩ = false ∧ w.frozen? ⟨g, 2, none⟩ = false ∧ w.frozen? ⟨g, 3, none⟩ = false ∧ w.frozen? ⟨g, 4, none⟩ = false :=
  ⟨h.cell 0, h.cell 1, h.cell 2, h.cell 3, h.cell 4, h.frozen 0, h.frozen 1, h.frozen 2, h.frozen 3, h.frozen 4⟩

section
variable {a w : World} {row : Option Nat} {g : Nat}
theorem only_refl (w : World) (row : Option Nat) : w.grownBy w row := World.grownBy.refl w row
theorem only_drew (h : a.grownBy w row) : a.grownBy w.drew row := ⟨h.os, h.tape, h.output, h.size, h.block⟩
theorem only_drewN (h : a.grownBy w row) (n : Nat) : a.grownBy (w.drewN n) row := ⟨h.os, h.tape, h.output, h.size, h.block⟩
theorem only_alloc (h : a.grownBy w row) (o : Obj) : a.grownBy (w.alloc o) row :=
  ⟨h.os, h.tape, h.output, Nat.le_trans h.size (by simp), fun i hi hne => (Below.heap_alloc w o i (Nat.lt_of_lt_of_le hi h.size)).trans (h.block i hi hne)⟩
theorem only_set (h : a.grownBy w (some g)) {p : Addr} (hp : p.block = g) (u : Value) : a.grownBy (w.setCell p u) (some g) :=
  ⟨h.os, h.tape, h.output, by simpa [World.setCell] using h.size, fun i hi hne => (Below.heap_setCell w p u i (by rintro rfl; exact hne (by rw [hp]))).trans (h.block i hi hne)⟩
theorem only_below {B : Nat} {w' : World} (h : a.grownBy w row) (hb : Below B w w') (hB : a.heap.size ≤ B) : a.grownBy w' row :=
  ⟨hb.os.trans h.os, hb.tape.trans h.tape, hb.output.trans h.output, Nat.le_trans h.size hb.size, fun i hi hne => (hb.block i (Nat.lt_of_lt_of_le hi hB)).trans (h.block i hi hne)⟩
end
theorem _root_.Go.World.grownBy.set {a w : World} {g : Nat} (h : a.grownBy w (some g)) {p : Addr} (hp : p.block = g) (u : Value) : a.grownBy (w.setCell p u) (some g) := only_set h hp u

set_option maxHeartbeats 400000 in
theorem own_any (a b c d e : Int) (w : World) : Calls Try.prog 26 #[.agg #[.int .i64 a, .int .i64 b, .int .i64 c, .int .i64 d, .int .i64 e]] w
    fun r w' => r = .returned (.agg #[.int .i64 a, .int .i64 b, .int .i64 d, .int .i64 e]) ∧ Below w.heap.size w w' := by
  go_enter Try.func26, Try.ntmps26
  go_wp2
  refine bodyPost_ret (v := .agg #[.int .i64 a, .int .i64 b, .int .i64 d, .int .i64 e]) (by simp [results, Try.results26, go_sem]) rfl ⟨rfl, ?_⟩
  exact ((Below.refl _ _).alloc (Nat.le_refl _) _).alloc (by simp) _

theorem set3_row {w : World} {g : Nat} {t : TypeId} {a b c d e x y z : Value} (h : Blk w g t #[a, b, c, d, e]) :
    Blk (((w.setCell ⟨g, 3, none⟩ x).setCell ⟨g, 4, none⟩ y).setCell ⟨g, 2, none⟩ z) g t #[a, b, z, x, y] ∧ w.grownBy (((w.setCell ⟨g, 3, none⟩ x).setCell ⟨g, 4, none⟩ y).setCell ⟨g, 2, none⟩ z) (some g) := by
  constructor
  · have := ((h.set_ 3 x).set_ 4 y).set_ 2 z
    simpa using this
  · exact only_set (only_set (only_set (only_refl w (some g)) (p := ⟨g, 3, none⟩) rfl x) (p := ⟨g, 4, none⟩) rfl y) (p := ⟨g, 2, none⟩) rfl z
theorem set1_row {w0 w : World} {g : Nat} {t : TypeId} {a b c d e z : Value} (h : Blk w g t #[a, b, c, d, e] ∧ w0.grownBy w (some g)) :
    Blk (w.setCell ⟨g, 2, none⟩ z) g t #[a, b, z, d, e] ∧ w0.grownBy (w.setCell ⟨g, 2, none⟩ z) (some g) := by
  constructor
  · have := h.1.set_ 2 z
    simpa using this
  · exact only_set h.2 (p := ⟨g, 2, none⟩) rfl z

theorem set3_more {w0 w : World} {g : Nat} {t : TypeId} {a b c d e x y z : Value} (h : Blk w g t #[a, b, c, d, e]) (hg : w0.grownBy w (some g)) :
    Blk (((w.setCell ⟨g, 3, none⟩ x).setCell ⟨g, 4, none⟩ y).setCell ⟨g, 2, none⟩ z) g t #[a, b, z, x, y] ∧ w0.grownBy (((w.setCell ⟨g, 3, none⟩ x).setCell ⟨g, 4, none⟩ y).setCell ⟨g, 2, none⟩ z) (some g) :=
  ⟨(set3_row h).1, only_set (only_set (only_set hg (p := ⟨g, 3, none⟩) rfl x) (p := ⟨g, 4, none⟩) rfl y) (p := ⟨g, 2, none⟩) rfl z⟩
theorem stOf_cases (s d b : Int) : ((s == d) = true ∧ stOf s d b = 4) ∨ ((s == d) = false ∧ (s == b) = true ∧ stOf s d b = 3) ∨ ((s == d) = false ∧ (s == b) = false ∧ stOf s d b = 2) := by
  unfold stOf
  cases s == d <;> cases s == b <;> simp

set_option maxHeartbeats 1000000 in
theorem begin_any (i : Ifc) (gi : Nat) (w : World) (hB : Blk w gi 41 i.row) :
    Calls Try.prog 47 #[.pointer (some ⟨gi, 0, none⟩)] w fun r w' => r = .returned (.tuple #[]) ∧ Blk w' gi 41 (beginI i).row ∧ w.grownBy w' (some gi) := by
  rcases i with ⟨a, b, c, d, e⟩
  obtain ⟨c0, c1, c2, c3, c4, f0, f1, f2, f3, f4⟩ := Blk.cells5 hB
  by_cases hp : b ≤ 0
  · have hr : (beginI ⟨a, b, c, d, e⟩).row = #[.int .i64 a, .int .i64 b, .int .i64 2, .int .i64 0, .int .i64 0] := by simp [beginI, Ifc.row, hp]
    rw [hr]
    have HE := Lib.hid (set1_row (set3_row hB (x := .int .i64 0) (y := .int .i64 0) (z := .int .i64 1)) (z := .int .i64 2))
    clear hB hr
    go_enter Try.func47, Try.ntmps47
    go_wp2
    go_end0
    exact ⟨rfl, HE.out⟩
  · have hr : (beginI ⟨a, b, c, d, e⟩).row = #[.int .i64 a, .int .i64 b, .int .i64 1, .int .i64 0, .int .i64 0] := by simp [beginI, Ifc.row, hp]
    rw [hr]
    have HE := Lib.hid (set3_row hB (x := .int .i64 0) (y := .int .i64 0) (z := .int .i64 1))
    clear hB hr
    go_enter Try.func47, Try.ntmps47
    go_wp2
    go_end0
    exact ⟨rfl, HE.out⟩

set_option maxHeartbeats 4000000 in
set_option maxRecDepth 100000 in
theorem vote_any (i : Ifc) (gi go : Nat) (A : Option Addr) (cap : Nat) (l : List Cand) (w : World) (B : Nat) (hB : Blk w gi 41 i.row) (ho : w.cell? ⟨go, 0, none⟩ = some (.slice A l.length cap))
    (hl : CandsAt w B A l) (hBi : B ≤ gi) (hn : l.length ≤ 2 ^ 30) :
    Calls Try.prog 46 #[.pointer (some ⟨gi, 0, none⟩), .pointer (some ⟨go, 0, none⟩)] w fun r w' => r = .returned (.tuple #[]) ∧ Blk w' gi 41 (voteI i l).row ∧ w.grownBy w' (some gi) := by
  obtain ⟨i0, hi, hz0, hz1, hz2⟩ := info_parts infoC'
  have hgo : go < w.heap.size := World.block_lt_of_cell? w _ ho
  have hgi := hB.lt
  rcases he : elect i.self (i.own :: l) with ⟨dr, bdr⟩
  have hv : (voteI i l).row = #[.int .i64 i.self, .int .i64 i.prio, .int .i64 (stOf i.self dr bdr), .int .i64 dr, .int .i64 bdr] := by
    unfold voteI; rw [he]; rfl
  have He := Lib.hid he
  have Hv := Lib.hid hv
  rcases i with ⟨a, b, c, d, e⟩
  obtain ⟨c0, c1, c2, c3, c4, f0, f1, f2, f3, f4⟩ := Blk.cells5 hB
  have HB := Lib.hid hB
  have Hl := Lib.hid hl
  clear hB hl he hv
  have hst := stOf_cases a dr bdr
  have Hst := Lib.hid hst
  clear hst
  go_enter Try.func46, Try.ntmps46
  go_wp2_with fail
  go_region_law (first
    | (refine step_append_any _ rfl (.tmp 5) (.tmp 6) _ rfl w1.heap.size 33 i0 _ 4 32 Try.underlying22 hi hz0 hz1 hz2 rfl (by decide) _ 1 _ rfl (World.ownsRow_lit w1 #[.int .i64 a, .int .i64 b, .int .i64 d, .int .i64 e] 1 (Nat.le_refl _) (by unfold maxLen; omega) rfl) B A l.length cap (l.flatMap Cand.cells) rfl (HL1.out _) (cells_one l) (by unfold maxLen; omega) (by omega) (by simp) ?_; intro v5 w5 hown5 hg5 hat5)
    | (go_simp; go_at_call 26; (with_reducible refine Calls.mono (own_any _ _ _ _ _ _) ?_); rintro r w1 ⟨rfl, hb1⟩; have ho0 := (hb1.cell (p := ⟨go, 0, none⟩) hgo).trans ho; have ho1 : ∀ o, (w1.alloc o).cell? ⟨go, 0, none⟩ = some (.slice A l.length cap) := fun o => ((hb1.alloc hb1.size o).cell (p := ⟨go, 0, none⟩) hgo).trans ho; have HL1 : Hid (∀ o, Reads (w1.alloc o) B 4 A l.length (l.flatMap Cand.cells)) := Lib.hid (fun o => Reads.below Hl.out (((((Below.refl w.heap.size w).drew).trans hb1).alloc hb1.size o).mono (by omega))); have Hb1 := Lib.hid hb1; clear hb1))
  all_goals
    have hb : Below w.heap.size w w5 := ((((Below.refl w.heap.size w).drew).trans Hb1.out).alloc Hb1.out.size _).grown hg5 (by have := Hb1.out.size; simp at this ⊢; omega) (by intro k hk; have h9 := Hb1.out.size; simp at h9; have hk : w1.heap.size = k := Option.some.inj hk; omega)
    have hO : OwnC w5 w1.heap.size v5 ((⟨a, b, d, e⟩ : Cand) :: l) := by
      unfold OwnC; rw [show (((⟨a, b, d, e⟩ : Cand) :: l).length) = 1 + l.length by simp; omega]; exact hown5
    have hB5 := HB.out.below hb hgi
    have hG5 := only_below (only_refl w (some gi)) hb (Nat.le_refl _)
    have hlen : ((⟨a, b, d, e⟩ : Cand) :: l).length ≤ 2 ^ 40 := by simp; omega
    have he : elect a ((⟨a, b, d, e⟩ : Cand) :: l) = (dr, bdr) := He.out
    have He := Lib.hid he
    obtain ⟨A', cap', rfl, hAt⟩ := hO.shape
    obtain ⟨c0, c1, c2, c3, c4, f0, f1, f2, f3, f4⟩ := Blk.cells5 hB5
    have hgi5 := hB5.lt
    have HB5 := Lib.hid hB5
    have HG5 := Lib.hid hG5
    have HAt := Lib.hid hAt
    have Hlen := Lib.hid hlen
    clear hb hO hB5 hG5 hAt hown5 hg5 ho0 HL1 Hb1 HB hlen he
    rcases Hst.out with ⟨h1, h3⟩ | ⟨h1, h2, h3⟩ | ⟨h1, h2, h3⟩
    all_goals
      rw [h3] at Hv
      clear h3
      go_wp2_with (go_at_call 19; (with_reducible refine Calls.mono (elect_vn HAt.out (Nat.le_refl _) Hlen.out He.out (by simp)) ?_); rintro e6 w6 ⟨rfl, hb6⟩; obtain ⟨c0, c1, c2, c3, c4, f0, f1, f2, f3, f4⟩ := Blk.cells5 (HB5.out.below hb6 hgi5); have HE := Lib.hid (fun (x y z : Value) => set3_more (x := x) (y := y) (z := z) (HB5.out.below hb6 hgi5) (only_below HG5.out hb6 HG5.out.size)); clear hb6)
      all_goals go_end0
      all_goals rw [Hv.out]
      all_goals exact ⟨rfl, HE.out _ _ _⟩

end Go.Proofs.Ytkaeedffhmlomaa
