/-
  Rows of structs in memory, whatever the struct: read, and opened from what was handed in.
-/
import Derived.Test.YtfpjkeddcagfcaaProg
import Derived.WalkKit
import Derived.WalkSpells
import Derived.WalkLawsBesides
import Derived.Lib.Hide
import Derived.ProofKit
import Derived.OpenShut
import Derived.Deep.Slices
import Derived.Deep.Fields
import Derived.ChangeSame
import Derived.Lib.SmallJoins
import Derived.Deep.QuietTactic
import Derived.BigQuiet
import Derived.StillTailTactics
import Derived.Deep.Light
import Derived.Maps.RangeWalk
import Derived.Maps.OwnSet
import Derived.Laws.StructEq
import Derived.RegionTactic
namespace Go.Proofs.Ytfpjkeddcagfcaa
open Go.ChangeShapes Go.WideShapes Go.RowKit Go.Deep Go.Joins

/-- The cells of a slice of n elements of 'size' cells each, in blocks below B. -/
def RowsAt {α : Type} (C : Nat) (cells : α → List Value) (w : World) (B : Nat) (A : Option Addr) (R : List α) : Prop :=
  0 < R.length → ∃ b o, A = some ⟨b, o, none⟩ ∧ b < B ∧ ∀ k (hk : k < R.length) i u, i < C → (cells R[k])[i]? = some u → w.cell? ⟨b, o + k * C + i, none⟩ = some u

section
variable {α : Type} {C : Nat} {cells : α → List Value} {w w' : World} {B B' : Nat} {A : Option Addr} {R : List α}
theorem RowsAt.below (h : RowsAt C cells w B A R) (hb : Below B w w') : RowsAt C cells w' B A R := fun h0 => by
  obtain ⟨b, o, e, hlt, hc⟩ := h h0
  exact ⟨b, o, e, hlt, fun k hk i u hi hu => (hb.cell hlt).trans (hc k hk i u hi hu)⟩
theorem RowsAt.more (h : RowsAt C cells w B A R) (hB : B ≤ B') : RowsAt C cells w B' A R := fun h0 => by
  obtain ⟨b, o, e, hlt, hc⟩ := h h0
  exact ⟨b, o, e, by omega, hc⟩
theorem RowsAt.nil : RowsAt C cells w B A ([] : List α) := fun h => absurd h (Nat.lt_irrefl _)
end

def icell (x : Int) : List Value := [.int .i64 x]
theorem rows_add (b o j : Nat) : (⟨b, o, none⟩ : Addr).add j = ⟨b, o + j, none⟩ := by
  unfold Addr.add; split <;> simp_all

section
variable {H : Type} {enc : TypeId × Value → H} {P : Program} {w : World} {base : Nat} {spare : Nat → Bool} {held : Bool}
theorem open_rows {α : Type} [Inhabited α] {t e : TypeId} {C : Nat} (cells : α → List Value) (ok : α → Prop) (hc0 : 0 < C) (ht : P.underlying t = some (.slice e)) (hC : P.cellsOf e = C)
    (dec : ∀ n cs y, DataW.trod enc P w base spare held n e cs = some y → ∃ d, cs = cells d ∧ ok d) {fuel : Nat} {cs : List Value} {x : DataW H × List MemPlace} (h : DataW.trod enc P w base spare held fuel t cs = some x) :
    ∃ (A : Option Addr) (cap : Nat) (R : List α), cs = [.slice A R.length cap] ∧ RowsAt C cells w w.heap.size A R ∧ R.length ≤ maxLen ∧ ∀ d ∈ R, ok d := by
  rcases open_slice ht h with ⟨hcs, _⟩ | ⟨a, len, cap, m, n, D, Pl, hcs, _, hlc, hcm, hm, _, hi⟩
  · exact ⟨none, 0, [], hcs, RowsAt.nil, by simp, by simp⟩
  · have hlm : len ≤ m := by rw [hm]; split <;> omega
    have h4 : ∀ i, i < len → ∃ d : α, (∀ j u, j < C → (cells d)[j]? = some u → w.cell? (a.add (i * C + j)) = some u) ∧ (cells d).length = C ∧ ok d := by
      intro i hil
      obtain ⟨cs', hc, htr⟩ := hi i (by omega)
      rw [hC] at hc
      obtain ⟨_, hcl, hat⟩ := World.cells?_some hc
      obtain ⟨d, rfl, hok⟩ := dec _ _ _ htr
      refine ⟨d, fun j u hj hu => ?_, hcl, hok⟩
      have := hat (i := j) (by omega)
      rw [← Go.Deep.add_add, this, ← hu]
    obtain ⟨f, hf⟩ := choose_lt h4
    have hl : ((List.range len).map f).length = len := by simp
    refine ⟨some a, cap, (List.range len).map f, by rw [hl]; exact hcs, fun h0 => ?_, by rw [hl]; omega, fun c hc => ?_⟩
    rotate_left
    · obtain ⟨i, hi, rfl⟩ := List.mem_map.1 hc
      exact (hf i (by simpa using hi)).2.2
    rw [hl] at h0
    have hc00 : ∃ u, w.cell? (a.add 0) = some u := by
      have hcl := (hf 0 h0).2.1
      have := (hf 0 h0).1 0 _ hc0 (List.getElem?_eq_getElem (by omega))
      exact ⟨_, by simpa using this⟩
    obtain ⟨b, o, spot⟩ := a
    obtain ⟨u0, hu0⟩ := hc00
    have hsp : spot = none := by simpa [Addr.add] using World.cell?_spot hu0
    subst hsp
    refine ⟨b, o, rfl, by simpa [Addr.add] using World.block_lt_of_cell? w _ hu0, fun k hk i u hi hu => ?_⟩
    rw [hl] at hk
    have hu' : (cells (f k))[i]? = some u := by simpa using hu
    have := (hf k hk).1 i u hi hu'
    rw [rows_add] at this
    rw [show o + k * C + i = o + (k * C + i) by omega]
    exact this
theorem dec_int {t : TypeId} (ht : P.underlying t = some (.int .i64)) {n : Nat} {v : Value} {y : DataW H × List MemPlace} (h : DataW.trod enc P w base spare held n t [v] = some y) : ∃ z : Int, v = .int .i64 z ∧ (Lit.int .i64 z).wf = true := by
  obtain ⟨z, e, _, hw⟩ := DataW.trod_int ht h
  exact ⟨z, by simpa using e, hw⟩
end

end Go.Proofs.Ytfpjkeddcagfcaa

/-
  Heads, numbers, truths: opened from what was handed in; a struct's fields, one by one.
-/
namespace Go.Proofs.Ytfpjkeddcagfcaa
open Go.ChangeShapes Go.WideShapes Go.RowKit Go.Deep Go.Joins

structure Hd where
  age : Int
  kind : Int
  id : Int
  adv : Int
  seq : Int
  sum : Int
  long : Int
deriving DecidableEq
def Hd.cells (h : Hd) : List Value := [.int .i64 h.age, .int .i64 h.kind, .int .i64 h.id, .int .i64 h.adv, .int .i64 h.seq, .int .i64 h.sum, .int .i64 h.long]

section
variable {H : Type} {enc : TypeId × Value → H} {w : World} {base : Nat} {spare : Nat → Bool} {held : Bool}
theorem cofInt : Try.prog.cellsOf 3 = 1 := by kernel_rfl
theorem cofBool : Try.prog.cellsOf 4 = 1 := by kernel_rfl
theorem cofHead : Try.prog.cellsOf 56 = 7 := by kernel_rfl
theorem tint {n : Nat} {v : Value} {y : DataW H × List MemPlace} (h : DataW.trod enc Try.prog w base spare held n 3 [v] = some y) : ∃ z : Int, v = .int .i64 z := by
  obtain ⟨z, e, _⟩ := dec_int Try.underlying3 h
  exact ⟨z, e⟩
theorem tbool {n : Nat} {v : Value} {y : DataW H × List MemPlace} (h : DataW.trod enc Try.prog w base spare held n 4 [v] = some y) : ∃ b : Bool, v = .bool b := by
  obtain ⟨b, e, _⟩ := DataW.trod_bool Try.underlying4 h
  exact ⟨b, by simpa using e⟩
/-- a struct's fields, one by one -/
theorem dec_fields {t : TypeId} {fs : Array Field} {n : Nat} {cs : List Value} {x : DataW H × List MemPlace} (ht : Try.prog.underlying t = some (.struct fs)) (h : DataW.trod enc Try.prog w base spare held n t cs = some x) :
    cs.length = Try.prog.cellsOf t ∧ ∃ m, ∀ (j : Nat) (f : Field), fs[j]? = some f → ∃ y, DataW.trod enc Try.prog w base spare held m f.type ((cs.drop f.offset).take (Try.prog.cellsOf f.type)) = some y := by
  obtain ⟨xs, m, _, _, hl, hlen, hf⟩ := DataW.trod_struct ht h
  refine ⟨hl, m, fun j f hj => ?_⟩
  have hjl : j < xs.length := by rw [hlen]; exact (Array.getElem?_eq_some_iff.1 hj).1
  exact ⟨xs[j], (hf j f hj).trans (List.getElem?_eq_getElem hjl)⟩
theorem fld {fs : Array Field} {m : Nat} {cs : List Value} (hf : ∀ (j : Nat) (f : Field), fs[j]? = some f → ∃ y, DataW.trod enc Try.prog w base spare held m f.type ((cs.drop f.offset).take (Try.prog.cellsOf f.type)) = some y)
    (j : Nat) (t : TypeId) (o k : Nat) (part : List Value) (hj : (fs[j]?).map (fun f => (f.type, f.offset)) = some (t, o)) (hk : Try.prog.cellsOf t = k) (hp : (cs.drop o).take k = part) : ∃ y, DataW.trod enc Try.prog w base spare held m t part = some y := by
  rcases h : fs[j]? with _ | f
  · rw [h] at hj; simp at hj
  · rw [h] at hj
    simp at hj
    obtain ⟨y, hy⟩ := hf j f h
    rw [hj.1, hj.2, hk, hp] at hy
    exact ⟨y, hy⟩
set_option maxRecDepth 100000 in
theorem dec_head {n : Nat} {cs : List Value} {x : DataW H × List MemPlace} (h : DataW.trod enc Try.prog w base spare held n 56 cs = some x) : ∃ d : Hd, cs = d.cells ∧ True := by
  obtain ⟨hl, m, hf⟩ := dec_fields Try.underlying56 h
  rw [cofHead] at hl
  match cs, hl with
  | [c0, c1, c2, c3, c4, c5, c6], _ =>
    obtain ⟨_, t0⟩ := fld hf 0 3 0 1 [c0] (by kernel_rfl) cofInt rfl
    obtain ⟨_, t1⟩ := fld hf 1 3 1 1 [c1] (by kernel_rfl) cofInt rfl
    obtain ⟨_, t2⟩ := fld hf 2 3 2 1 [c2] (by kernel_rfl) cofInt rfl
    obtain ⟨_, t3⟩ := fld hf 3 3 3 1 [c3] (by kernel_rfl) cofInt rfl
    obtain ⟨_, t4⟩ := fld hf 4 3 4 1 [c4] (by kernel_rfl) cofInt rfl
    obtain ⟨_, t5⟩ := fld hf 5 3 5 1 [c5] (by kernel_rfl) cofInt rfl
    obtain ⟨_, t6⟩ := fld hf 6 3 6 1 [c6] (by kernel_rfl) cofInt rfl
    obtain ⟨z0, rfl⟩ := tint t0
    obtain ⟨z1, rfl⟩ := tint t1
    obtain ⟨z2, rfl⟩ := tint t2
    obtain ⟨z3, rfl⟩ := tint t3
    obtain ⟨z4, rfl⟩ := tint t4
    obtain ⟨z5, rfl⟩ := tint t5
    obtain ⟨z6, rfl⟩ := tint t6
    exact ⟨⟨z0, z1, z2, z3, z4, z5, z6⟩, rfl, trivial⟩
end

end Go.Proofs.Ytfpjkeddcagfcaa

/-
  What all frames ask.
-/
namespace Go.Proofs.Ytfpjkeddcagfcaa
open Go.ChangeShapes Go.WideShapes Go.RowKit Go.Deep Go.Joins

theorem own : ownKnob Try.prog.godebug = none := by kernel_rfl
theorem laidOut : laidOutB Try.prog = true := by kernel_rfl
theorem u8_nat {b : Int} (h : (Lit.int .u8 b).wf = true) : ∃ a : Nat, b = (a : Int) ∧ a ≤ 255 := by
  have hmin : IntKind.u8.min = 0 := rfl
  have hmax : IntKind.u8.max = 255 := rfl
  simp only [Lit.wf, Bool.and_eq_true, decide_eq_true_eq] at h
  exact ⟨b.toNat, by omega, by omega⟩
end Go.Proofs.Ytfpjkeddcagfcaa

/-
  Descriptions, and their links: as Lean values, and opened from what was handed in.
-/
namespace Go.Proofs.Ytfpjkeddcagfcaa
open Go.ChangeShapes Go.WideShapes Go.RowKit Go.Deep Go.Joins

def iwf (z : Int) : Prop := (Lit.int .i64 z).wf = true
structure Lnk where
  kind : Int
  id : Int
  data : Int
  cost : Int
deriving DecidableEq
instance : Inhabited Lnk := ⟨⟨0, 0, 0, 0⟩⟩
def Lnk.cells (x : Lnk) : List Value := [.int .i64 x.kind, .int .i64 x.id, .int .i64 x.data, .int .i64 x.cost]
def Lnk.wf (x : Lnk) : Prop := iwf x.kind ∧ iwf x.id ∧ iwf x.data ∧ iwf x.cost
def Hd.wf (h : Hd) : Prop := iwf h.age ∧ iwf h.kind ∧ iwf h.id ∧ iwf h.adv ∧ iwf h.seq ∧ iwf h.sum ∧ iwf h.long
structure Lsa where
  head : Hd
  ka : Option Addr
  kcap : Nat
  links : List Lnk
  ma : Option Addr
  mcap : Nat
  members : List Int
instance : Inhabited Lsa := ⟨⟨⟨0, 0, 0, 0, 0, 0, 0⟩, none, 0, [], none, 0, []⟩⟩
def Lsa.cells (x : Lsa) : List Value := [.int .i64 x.head.age, .int .i64 x.head.kind, .int .i64 x.head.id, .int .i64 x.head.adv, .int .i64 x.head.seq, .int .i64 x.head.sum, .int .i64 x.head.long, .slice x.ka x.links.length x.kcap, .slice x.ma x.members.length x.mcap]
structure Lsa.ok (w : World) (B : Nat) (x : Lsa) : Prop where
  head : x.head.wf
  links : RowsAt 4 Lnk.cells w B x.ka x.links
  linksWf : ∀ y ∈ x.links, y.wf
  members : RowsAt 1 icell w B x.ma x.members
  membersWf : ∀ y ∈ x.members, iwf y
  linksLen : x.links.length ≤ maxLen
  membersLen : x.members.length ≤ maxLen
structure LsasAt (w : World) (B : Nat) (A : Option Addr) (l : List Lsa) : Prop where
  rows : RowsAt 9 Lsa.cells w B A l
  each : ∀ x ∈ l, x.ok w B
section
variable {w w' : World} {B B' : Nat} {A : Option Addr}
theorem Lsa.ok.below {x : Lsa} (h : x.ok w B) (hb : Below B w w') : x.ok w' B := ⟨h.head, h.links.below hb, h.linksWf, h.members.below hb, h.membersWf, h.linksLen, h.membersLen⟩
theorem Lsa.ok.more {x : Lsa} (h : x.ok w B) (hB : B ≤ B') : x.ok w B' := ⟨h.head, h.links.more hB, h.linksWf, h.members.more hB, h.membersWf, h.linksLen, h.membersLen⟩
theorem LsasAt.below {l : List Lsa} (h : LsasAt w B A l) (hb : Below B w w') : LsasAt w' B A l := ⟨h.rows.below hb, fun x hx => (h.each x hx).below hb⟩
theorem LsasAt.more {l : List Lsa} (h : LsasAt w B A l) (hB : B ≤ B') : LsasAt w B' A l := ⟨h.rows.more hB, fun x hx => (h.each x hx).more hB⟩
end
section
variable {H : Type} {enc : TypeId × Value → H} {w : World} {base : Nat} {spare : Nat → Bool} {held : Bool}
theorem tintw {n : Nat} {v : Value} {y : DataW H × List MemPlace} (h : DataW.trod enc Try.prog w base spare held n 3 [v] = some y) : ∃ z : Int, v = .int .i64 z ∧ iwf z := dec_int Try.underlying3 h
theorem cofLink : Try.prog.cellsOf 107 = 4 := by kernel_rfl
theorem cofLsa : Try.prog.cellsOf 60 = 9 := by kernel_rfl
theorem cofInts : Try.prog.cellsOf 58 = 1 := by kernel_rfl
theorem cofLinks : Try.prog.cellsOf 57 = 1 := by kernel_rfl
set_option maxRecDepth 100000 in
theorem dec_icell {n : Nat} {cs : List Value} {x : DataW H × List MemPlace} (h : DataW.trod enc Try.prog w base spare held n 3 cs = some x) : ∃ d : Int, cs = icell d ∧ iwf d := by
  obtain ⟨z, e, _, hw⟩ := DataW.trod_int Try.underlying3 h
  exact ⟨z, e, hw⟩
set_option maxRecDepth 100000 in
theorem dec_headw {n : Nat} {cs : List Value} {x : DataW H × List MemPlace} (h : DataW.trod enc Try.prog w base spare held n 56 cs = some x) : ∃ d : Hd, cs = d.cells ∧ d.wf := by
  obtain ⟨hl, m, hf⟩ := dec_fields Try.underlying56 h
  rw [cofHead] at hl
  match cs, hl with
  | [c0, c1, c2, c3, c4, c5, c6], _ =>
    obtain ⟨_, t0⟩ := fld hf 0 3 0 1 [c0] (by kernel_rfl) cofInt rfl
    obtain ⟨_, t1⟩ := fld hf 1 3 1 1 [c1] (by kernel_rfl) cofInt rfl
    obtain ⟨_, t2⟩ := fld hf 2 3 2 1 [c2] (by kernel_rfl) cofInt rfl
    obtain ⟨_, t3⟩ := fld hf 3 3 3 1 [c3] (by kernel_rfl) cofInt rfl
    obtain ⟨_, t4⟩ := fld hf 4 3 4 1 [c4] (by kernel_rfl) cofInt rfl
    obtain ⟨_, t5⟩ := fld hf 5 3 5 1 [c5] (by kernel_rfl) cofInt rfl
    obtain ⟨_, t6⟩ := fld hf 6 3 6 1 [c6] (by kernel_rfl) cofInt rfl
    obtain ⟨z0, rfl, w0⟩ := tintw t0
    obtain ⟨z1, rfl, w1⟩ := tintw t1
    obtain ⟨z2, rfl, w2⟩ := tintw t2
    obtain ⟨z3, rfl, w3⟩ := tintw t3
    obtain ⟨z4, rfl, w4⟩ := tintw t4
    obtain ⟨z5, rfl, w5⟩ := tintw t5
    obtain ⟨z6, rfl, w6⟩ := tintw t6
    exact ⟨⟨z0, z1, z2, z3, z4, z5, z6⟩, rfl, w0, w1, w2, w3, w4, w5, w6⟩
set_option maxRecDepth 100000 in
theorem dec_link {n : Nat} {cs : List Value} {x : DataW H × List MemPlace} (h : DataW.trod enc Try.prog w base spare held n 107 cs = some x) : ∃ d : Lnk, cs = d.cells ∧ d.wf := by
  obtain ⟨hl, m, hf⟩ := dec_fields Try.underlying107 h
  rw [cofLink] at hl
  match cs, hl with
  | [c0, c1, c2, c3], _ =>
    obtain ⟨_, t0⟩ := fld hf 0 3 0 1 [c0] (by kernel_rfl) cofInt rfl
    obtain ⟨_, t1⟩ := fld hf 1 3 1 1 [c1] (by kernel_rfl) cofInt rfl
    obtain ⟨_, t2⟩ := fld hf 2 3 2 1 [c2] (by kernel_rfl) cofInt rfl
    obtain ⟨_, t3⟩ := fld hf 3 3 3 1 [c3] (by kernel_rfl) cofInt rfl
    obtain ⟨z0, rfl, w0⟩ := tintw t0
    obtain ⟨z1, rfl, w1⟩ := tintw t1
    obtain ⟨z2, rfl, w2⟩ := tintw t2
    obtain ⟨z3, rfl, w3⟩ := tintw t3
    exact ⟨⟨z0, z1, z2, z3⟩, rfl, w0, w1, w2, w3⟩
set_option maxRecDepth 100000 in
theorem dec_lsa {n : Nat} {cs : List Value} {x : DataW H × List MemPlace} (h : DataW.trod enc Try.prog w base spare held n 60 cs = some x) : ∃ d : Lsa, cs = d.cells ∧ d.ok w w.heap.size := by
  obtain ⟨hl, m, hf⟩ := dec_fields Try.underlying60 h
  rw [cofLsa] at hl
  match cs, hl with
  | [c0, c1, c2, c3, c4, c5, c6, c7, c8], _ =>
    obtain ⟨_, t0⟩ := fld hf 0 56 0 7 [c0, c1, c2, c3, c4, c5, c6] (by kernel_rfl) cofHead rfl
    obtain ⟨_, t1⟩ := fld hf 1 57 7 1 [c7] (by kernel_rfl) cofLinks rfl
    obtain ⟨_, t2⟩ := fld hf 2 58 8 1 [c8] (by kernel_rfl) cofInts rfl
    obtain ⟨d, hd, hw⟩ := dec_headw t0
    obtain ⟨ka, kcap, kl, hk, hkr, hkm, hkw⟩ := open_rows (C := 4) Lnk.cells Lnk.wf (by decide) Try.underlying57 cofLink (fun _ _ _ h => dec_link h) t1
    obtain ⟨ma, mcap, ml, hm, hmr, hmm, hmw⟩ := open_rows (C := 1) icell iwf (by decide) Try.underlying58 cofInt (fun _ _ _ h => dec_icell h) t2
    refine ⟨⟨d, ka, kcap, kl, ma, mcap, ml⟩, ?_, hw, hkr, hkw, hmr, hmw, hkm, hmm⟩
    rcases d with ⟨d0, d1, d2, d3, d4, d5, d6⟩
    simp [Hd.cells] at hd
    simp at hk hm
    simp [Lsa.cells, hd, hk, hm]
theorem open_lsas {a : Option Addr} {len cap : Nat} {d : DataW H} {p : List MemPlace} (h : DataW.Trod enc Try.prog w base spare held 23 (.slice a len cap) d p) :
    ∃ l : List Lsa, len = l.length ∧ LsasAt w w.heap.size a l ∧ l.length ≤ maxLen := by
  obtain ⟨n, hn⟩ := h
  obtain ⟨A, c, R, he, hr, hm, hok⟩ := open_rows (C := 9) Lsa.cells (Lsa.ok w w.heap.size) (by decide) Try.underlying23 cofLsa (fun _ _ _ h => dec_lsa h) hn
  simp [Value.cells] at he
  obtain ⟨rfl, rfl, rfl⟩ := he
  exact ⟨R, rfl, ⟨hr, hok⟩, hm⟩
end

end Go.Proofs.Ytfpjkeddcagfcaa

/-
  Base words of this family: memory.
-/
namespace Go.Proofs.Ytfpjkeddcagfcaa
open Go.RowKit

theorem below_drewN {B : Nat} {a w : World} (h : Below B a w) (n : Nat) : Below B a (w.drewN n) := ⟨h.os, h.tape, h.output, h.size, h.block⟩

/-- A region that draws its order, whose first n operations only read: one walk, in a world that is as the one before. -/
theorem wp_draw_tail {P : Program} {id : Nat} {Q : Exit → Act → World → Prop} {a : Act} {w : World} {l : List Oper} (n : Nat) (hm : P.follows .mixedOrders = true) (hB : Region.lexTailB .any l.toArray n = true)
    (h : ∀ w2 : World, Hid (w2 = w.drew) → (∀ p, w2.cell? p = w.cell? p) → (∀ p, w2.frozen? p = w.frozen? p) → w.heap.size ≤ w2.heap.size → w2.heap.size ≤ w.heap.size →
      wpStill P l.toArray w2 (fun a' => wpList P l.toArray Q (l.drop n) a' w2) (l.take n) a) : (Code.region id l.toArray true).wp P Q a w :=
  wp_region_still_tail n hm hB (h w.drew rfl (fun _ => rfl) (fun _ => rfl) (Nat.le_refl _) (Nat.le_refl _))

/-- The cells of a slice of n elements of 'size' cells each, in blocks below B. -/
def Reads (w : World) (B size : Nat) (A : Option Addr) (n : Nat) (xs : List Value) : Prop :=
  xs.length = n * size ∧ (0 < n → ∃ b o, A = some ⟨b, o, none⟩ ∧ b < B ∧ ∀ j u, xs[j]? = some u → w.cell? ⟨b, o + j, none⟩ = some u)

section
variable {w w' : World} {B B' size n : Nat} {A : Option Addr} {xs : List Value}
theorem Reads.keep (h : Reads w B size A n xs) (hk : ∀ p : Addr, p.block < B → w'.cell? p = w.cell? p) : Reads w' B size A n xs :=
  ⟨h.1, fun hn => by
    obtain ⟨b, o, e, hb, hc⟩ := h.2 hn
    exact ⟨b, o, e, hb, fun j u hu => (hk _ hb).trans (hc j u hu)⟩⟩
theorem Reads.more (h : Reads w B size A n xs) (hB : B ≤ B') : Reads w B' size A n xs :=
  ⟨h.1, fun hn => by
    obtain ⟨b, o, e, hb, hc⟩ := h.2 hn
    exact ⟨b, o, e, by omega, hc⟩⟩
theorem Reads.below (h : Reads w B size A n xs) (hb : Below B w w') : Reads w' B size A n xs := h.keep fun _ hp => hb.cell hp
end

/-- Block g is just the cells cs of element type t, none frozen. -/
def Blk (w : World) (g : Nat) (t : TypeId) (cs : Array Value) : Prop := w.heap[g]? = some (.cells cs t (0, 0))

section
variable {w w' : World} {g : Nat} {t : TypeId} {cs : Array Value}
theorem Blk.lt (h : Blk w g t cs) : g < w.heap.size := by
  rcases Nat.lt_or_ge g w.heap.size with hlt | hge
  · exact hlt
  · unfold Blk at h; rw [Array.getElem?_eq_none hge] at h; cases h
theorem Blk.cell (h : Blk w g t cs) (i : Nat) : w.cell? ⟨g, i, none⟩ = cs[i]? := cell_of_row w g i cs t (0, 0) h
theorem Blk.frozen (h : Blk w g t cs) (i : Nat) : w.frozen? ⟨g, i, none⟩ = false := by
  unfold Blk at h
  simp [World.frozen?, h]
theorem Blk.new (w : World) (t : TypeId) (cs : Array Value) : Blk (w.alloc (.cells cs t)) w.heap.size t cs := heap_alloc_new w _
theorem Blk.drew (h : Blk w g t cs) : Blk w.drew g t cs := h
theorem Blk.drewN (h : Blk w g t cs) (n : Nat) : Blk (w.drewN n) g t cs := h
theorem Blk.alloc (h : Blk w g t cs) (o : Obj) : Blk (w.alloc o) g t cs := (Below.heap_alloc w o g h.lt).trans h
theorem Blk.set_ (h : Blk w g t cs) (i : Nat) (u : Value) : Blk (w.setCell ⟨g, i, none⟩ u) g t (cs.setIfInBounds i u) := by
  unfold Blk at h ⊢
  simp [World.setCell, Array.getElem?_modify, h]
theorem Blk.far (h : Blk w g t cs) {p : Addr} (hp : g ≠ p.block) (u : Value) : Blk (w.setCell p u) g t cs := (Below.heap_setCell w p u g hp).trans h
theorem Blk.below {B : Nat} (h : Blk w g t cs) (hb : Below B w w') (hg : g < B) : Blk w' g t cs := (hb.block g hg).trans h
theorem Blk.grown {row : Option Nat} (h : Blk w g t cs) (hb : w.grownBy w' row) (hg : some g ≠ row) : Blk w' g t cs := (hb.block g h.lt hg).trans h
theorem Blk.cells4 {a b c d : Value} (h : Blk w g t #[a, b, c, d]) : w.cell? ⟨g, 0, none⟩ = some a ∧ w.cell? ⟨g, 1, none⟩ = some b ∧ w.cell? ⟨g, 2, none⟩ = some c ∧ w.cell? ⟨g, 3, none⟩ = some d ∧
    w.frozen? ⟨g, 0, none⟩ = false ∧ w.frozen? ⟨g, 1, none⟩ = false ∧ w.frozen? ⟨g, 2, none⟩ = false ∧ w.frozen? ⟨g, 3, none⟩ = false :=
  ⟨h.cell 0, h.cell 1, h.cell 2, h.cell 3, h.frozen 0, h.frozen 1, h.frozen 2, h.frozen 3⟩
theorem news4 (w : World) (a b c d : Value) (t : TypeId) (g : Nat) (hg : g = w.heap.size) : ∀ j u, [a, b, c, d][j]? = some u → (w.alloc (.cells #[a, b, c, d] t)).cell? ((⟨g, 0, none⟩ : Addr).add j) = some u := by
  intro j u hu
  subst hg
  rw [show (⟨w.heap.size, 0, none⟩ : Addr).add j = ⟨w.heap.size, j, none⟩ by unfold Addr.add; split <;> simp_all]
  rw [(Blk.new w t #[a, b, c, d]).cell j]
  simpa using hu
theorem ones4 (a b c d : Int) : ∀ u ∈ [Value.int .i64 a, Value.int .i64 b, Value.int .i64 c, Value.int .i64 d], u.oneCell' = true := by
  intro u hu
  simp at hu
  rcases hu with rfl | rfl | rfl | rfl <;> rfl
theorem Blk.cells2 {a b : Value} (h : Blk w g t #[a, b]) : w.cell? ⟨g, 0, none⟩ = some a ∧ w.cell? ⟨g, 1, none⟩ = some b ∧ w.frozen? ⟨g, 0, none⟩ = false ∧ w.frozen? ⟨g, 1, none⟩ = false :=
  ⟨h.cell 0, h.cell 1, h.frozen 0, h.frozen 1⟩
theorem Blk.set4 {a b c d a' b' c' d' : Value} (h : Blk w g t #[a, b, c, d]) :
    Blk ((((w.setCell ⟨g, 0, none⟩ a').setCell ⟨g, 1, none⟩ b').setCell ⟨g, 2, none⟩ c').setCell ⟨g, 3, none⟩ d') g t #[a', b', c', d'] := by
  have := (((h.set_ 0 a').set_ 1 b').set_ 2 c').set_ 3 d'
  simpa using this
theorem Blk.to {cs' : Array Value} (h : Blk w g t cs) (e : cs = cs') : Blk w g t cs' := e ▸ h
end

end Go.Proofs.Ytfpjkeddcagfcaa

/-
  Memory, more: blocks of five cells, what grew alone.
-/
namespace Go.Proofs.Ytfpjkeddcagfcaa
open Go.RowKit

theorem Blk.cells5 {w : World} {g : Nat} {t : TypeId} {a b c d e : Value} (h : Blk w g t #[a, b, c, d, e]) : w.cell? ⟨g, 0, none⟩ = some a ∧ w.cell? ⟨g, 1, none⟩ = some b ∧ w.cell? ⟨g, 2, none⟩ = some c ∧ w.cell? ⟨g, 3, none⟩ = some d ∧ w.cell? ⟨g, 4, none⟩ = some e ∧
    w.frozen? ⟨g, 0, none⟩ = false ∧ w.frozen? ⟨g, 1, none⟩ = false ∧ w.frozen? ⟨g, 2, none⟩ = false ∧ w.frozen? ⟨g, 3, none⟩ = false ∧ w.frozen? ⟨g, 4, none⟩ = false :=
  ⟨h.cell 0, h.cell 1, h.cell 2, h.cell 3, h.cell 4, h.frozen 0, h.frozen 1, h.frozen 2, h.frozen 3, h.frozen 4⟩

section
variable {a w : World} {row : Option Nat} {g : Nat}
theorem only_refl (w : World) (row : Option Nat) : w.grownBy w row := World.grownBy.refl w row
theorem only_drew (h : a.grownBy w row) : a.grownBy w.drew row := ⟨h.os, h.tape, h.output, h.size, h.block⟩
theorem only_drewN (h : a.grownBy w row) (n : Nat) : a.grownBy (w.drewN n) row := ⟨h.os, h.tape, h.output, h.size, h.block⟩
theorem only_alloc (h : a.grownBy w row) (o : Obj) : a.grownBy (w.alloc o) row :=
  ⟨h.os, h.tape, h.output, Nat.le_trans h.size (by simp), fun i hi hne => (Below.heap_alloc w o i (Nat.lt_of_lt_of_le hi h.size)).trans (h.block i hi hne)⟩
theorem only_set (h : a.grownBy w (some g)) {p : Addr} (hp : p.block = g) (u : Value) : a.grownBy (w.setCell p u) (some g) :=
  ⟨h.os, h.tape, h.output, by simpa [World.setCell] using h.size, fun i hi hne => (Below.heap_setCell w p u i (by rintro rfl; exact hne (by rw [hp]))).trans (h.block i hi hne)⟩
theorem only_below {B : Nat} {w' : World} (h : a.grownBy w row) (hb : Below B w w') (hB : a.heap.size ≤ B) : a.grownBy w' row :=
  ⟨hb.os.trans h.os, hb.tape.trans h.tape, hb.output.trans h.output, Nat.le_trans h.size hb.size, fun i hi hne => (hb.block i (Nat.lt_of_lt_of_le hi hB)).trans (h.block i hi hne)⟩
end
theorem _root_.Go.World.grownBy.set {a w : World} {g : Nat} (h : a.grownBy w (some g)) {p : Addr} (hp : p.block = g) (u : Value) : a.grownBy (w.setCell p u) (some g) := only_set h hp u


end Go.Proofs.Ytfpjkeddcagfcaa

/-
  Blocks of seven cells; an end whose results are read in a world that is known by one fact alone.
-/
namespace Go.Proofs.Ytfpjkeddcagfcaa
open Go.RowKit

section
variable {w w' : World} {g : Nat} {t : TypeId} {a b c d e f x : Value}
theorem Blk.both7 (h : Blk w g t #[a, b, c, d, e, f, x]) : w.cell? ⟨g, 0, none⟩ = some a ∧ w.cell? ⟨g, 1, none⟩ = some b ∧ w.cell? ⟨g, 2, none⟩ = some c ∧ w.cell? ⟨g, 3, none⟩ = some d ∧ w.cell? ⟨g, 4, none⟩ = some e ∧ w.cell? ⟨g, 5, none⟩ = some f ∧ w.cell? ⟨g, 6, none⟩ = some x ∧ ∀ i, w.frozen? ⟨g, i, none⟩ = false :=
  ⟨h.cell 0, h.cell 1, h.cell 2, h.cell 3, h.cell 4, h.cell 5, h.cell 6, fun i => h.frozen i⟩
theorem Blk.all7 {g : Nat} {t : TypeId} {a b c d e f x : Value} {F : Obj → World} (h : ∀ o, Blk (F o) g t #[a, b, c, d, e, f, x]) :
    (∀ o, (F o).cell? ⟨g, 0, none⟩ = some a) ∧ (∀ o, (F o).cell? ⟨g, 1, none⟩ = some b) ∧ (∀ o, (F o).cell? ⟨g, 2, none⟩ = some c) ∧ (∀ o, (F o).cell? ⟨g, 3, none⟩ = some d) ∧ (∀ o, (F o).cell? ⟨g, 4, none⟩ = some e) ∧ (∀ o, (F o).cell? ⟨g, 5, none⟩ = some f) ∧ (∀ o, (F o).cell? ⟨g, 6, none⟩ = some x) ∧
    (∀ o, (F o).frozen? ⟨g, 0, none⟩ = false) ∧ (∀ o, (F o).frozen? ⟨g, 1, none⟩ = false) ∧ (∀ o, (F o).frozen? ⟨g, 2, none⟩ = false) ∧ (∀ o, (F o).frozen? ⟨g, 3, none⟩ = false) ∧ (∀ o, (F o).frozen? ⟨g, 4, none⟩ = false) ∧ (∀ o, (F o).frozen? ⟨g, 5, none⟩ = false) ∧ (∀ o, (F o).frozen? ⟨g, 6, none⟩ = false) :=
  ⟨fun o => (h o).cell 0, fun o => (h o).cell 1, fun o => (h o).cell 2, fun o => (h o).cell 3, fun o => (h o).cell 4, fun o => (h o).cell 5, fun o => (h o).cell 6, fun o => (h o).frozen 0, fun o => (h o).frozen 1, fun o => (h o).frozen 2, fun o => (h o).frozen 3, fun o => (h o).frozen 4, fun o => (h o).frozen 5, fun o => (h o).frozen 6⟩
theorem Blk.set7 (h : Blk w g t #[a, b, c, d, e, f, x]) (a' b' c' d' e' f' x' : Value) :
    Blk (((((((w.setCell ⟨g, 0, none⟩ a').setCell ⟨g, 1, none⟩ b').setCell ⟨g, 2, none⟩ c').setCell ⟨g, 3, none⟩ d').setCell ⟨g, 4, none⟩ e').setCell ⟨g, 5, none⟩ f').setCell ⟨g, 6, none⟩ x') g t #[a', b', c', d', e', f', x'] := by
  have := ((((((h.set_ 0 a').set_ 1 b').set_ 2 c').set_ 3 d').set_ 4 e').set_ 5 f').set_ 6 x'
  simpa using this
theorem below_set7 {B : Nat} (h : Below B w w') (hg : B ≤ g) (a' b' c' d' e' f' x' : Value) :
    Below B w (((((((w'.setCell ⟨g, 0, none⟩ a').setCell ⟨g, 1, none⟩ b').setCell ⟨g, 2, none⟩ c').setCell ⟨g, 3, none⟩ d').setCell ⟨g, 4, none⟩ e').setCell ⟨g, 5, none⟩ f').setCell ⟨g, 6, none⟩ x') :=
  ((((((h.setCell hg _).setCell hg _).setCell hg _).setCell hg _).setCell hg _).setCell hg _).setCell hg _
end
theorem bodyPost_named {P : Program} {fn : Func} {R : Ending → World → Prop} {a : Act} {w : World} {v : Value} (C : World → Prop) (hC : C w) (hr : ∀ W, C W → (results fn a.tmps).run P W = .ok v W) (hd : a.defers = []) (hR : R (.returned v) w) :
    bodyPost P fn R Exit.ret a w := ⟨hd, v, hr w hC, hR⟩

end Go.Proofs.Ytfpjkeddcagfcaa

/-
  Maps by what is in them: entries of keys and values, in the order in which they were laid in, whatever the key's type.
-/
namespace Go.Proofs.Ytfpjkeddcagfcaa
open Go.RowKit Go.MapKept
open Go.ChangeMaps (setBlock)

def entL {κ : Type} (enc : κ → Value) (L : List (κ × Value)) : List (Value × Value) := L.map fun e => (enc e.1, e.2)
def entE (l : List MapEntry) : List (Value × Value) := l.map fun x => (x.key, x.val)

section
variable {κ : Type} {P : Program} {kt et mt : TypeId} {enc : κ → Value} {w w' : World} {b r : Nat} {L rest : List (κ × Value)}

/-- Block b of w is a map of just these entries. -/
def MapAt (enc : κ → Value) (w : World) (b : Nat) (L : List (κ × Value)) : Prop :=
  ∃ es clock, w.heap[b]? = some (.map es clock) ∧ entE es.toList = entL enc L ∧ (∀ x ∈ es.toList, x.born < clock) ∧ (es.toList.map (·.born)).Nodup ∧ (L.map (·.1)).Nodup
/-- Block r of w ranges over the map in block b: what is in the map, and which of it is still to come. -/
def RangeAt (enc : κ → Value) (w : World) (b r : Nat) (L rest : List (κ × Value)) : Prop :=
  ∃ es clock since seen c0, w.heap[b]? = some (.map es clock) ∧ entE es.toList = entL enc L ∧ (∀ x ∈ es.toList, x.born < clock) ∧ (es.toList.map (·.born)).Nodup ∧ (L.map (·.1)).Nodup ∧
    w.heap[r]? = some (.mapIter (some b) since seen c0) ∧ (∀ x ∈ es.toList, x.born < since) ∧ since ≤ c0 ∧ since ≤ clock ∧ entE (leftOf es seen).toList = entL enc rest

theorem MapAt.nodup (h : MapAt enc w b L) : (L.map (·.1)).Nodup := by obtain ⟨_, _, _, _, _, _, h⟩ := h; exact h
theorem MapAt.lt (h : MapAt enc w b L) : b < w.heap.size := by
  obtain ⟨_, _, h, _⟩ := h
  exact (Array.getElem?_eq_some_iff.1 h).1
theorem MapAt.same (h : MapAt enc w b L) (he : w'.heap[b]? = w.heap[b]?) : MapAt enc w' b L := by
  obtain ⟨es, clock, h, rest⟩ := h
  exact ⟨es, clock, he.trans h, rest⟩
theorem MapAt.below {B : Nat} (h : MapAt enc w b L) (hb : Below B w w') (hB : b < B) : MapAt enc w' b L := h.same (hb.block b hB)
theorem MapAt.grown {row : Option Nat} (h : MapAt enc w b L) (hg : w.grownBy w' row) (hne : some b ≠ row) : MapAt enc w' b L := h.same (hg.block b h.lt hne)
theorem MapAt.alloc (h : MapAt enc w b L) (o : Obj) : MapAt enc (w.alloc o) b L := h.same (Below.heap_alloc w o b h.lt)
theorem MapAt.drew (h : MapAt enc w b L) : MapAt enc w.drew b L := h
theorem MapAt.drewN (h : MapAt enc w b L) (n : Nat) : MapAt enc (w.drewN n) b L := h
theorem MapAt.set_ (h : MapAt enc w b L) {p : Addr} (hp : b ≠ p.block) (u : Value) : MapAt enc (w.setCell p u) b L := h.same (Below.heap_setCell w p u b hp)
theorem MapAt.new (w : World) : MapAt enc (w.alloc (.map #[] 0)) w.heap.size [] := ⟨#[], 0, heap_alloc_new w _, rfl, by simp, by simp, by simp⟩

theorem MapAt.len_run (h : MapAt enc w b L) (ht : P.underlying mt = some (.map kt et)) (ty : TypeId) : (Builtin.len_ #[mt] ty #[.map (some b)]).run P w = .ok (.int .i64 L.length) w := by
  obtain ⟨es, clock, hb, hm, -⟩ := h
  have hlen : es.size = L.length := by simpa [entE, entL] using congrArg List.length hm
  simp [Builtin.len_, run_underlying ht, MapKept.run_getObj_map hb, Result.andThen, hlen, goInt]

theorem setBlock_grown (_hb : b < w.heap.size) (o : Obj) : w.grownBy (setBlock w b o) (some b) :=
  ⟨rfl, rfl, rfl, by simp [setBlock], fun i _ hne => by
    have : b ≠ i := fun e => hne (by rw [e])
    simp [setBlock, this]⟩
theorem setBlock_size (o : Obj) : (setBlock w b o).heap.size = w.heap.size := by simp [setBlock]
theorem RangeAt.map (h : RangeAt enc w b r L rest) : MapAt enc w b L := by
  obtain ⟨es, clock, _, _, _, h1, h2, h3, h4, h5, _⟩ := h
  exact ⟨es, clock, h1, h2, h3, h4, h5⟩
theorem RangeAt.left_eq (h : RangeAt enc w b r L rest) : w.rangeLeft b r = rest.length := by
  obtain ⟨es, clock, since, seen, c0, hb, _, _, _, _, hr, _, _, _, hl⟩ := h
  have := congrArg List.length hl
  simp only [World.rangeLeft, hb, hr]
  simpa [entE, entL] using this
theorem RangeAt.ne (h : RangeAt enc w b r L rest) : r ≠ b := by
  obtain ⟨es, clock, since, seen, c0, hb, _, _, _, _, hr, _⟩ := h
  intro e
  rw [e, hb] at hr
  cases hr
theorem RangeAt.lt (h : RangeAt enc w b r L rest) : r < w.heap.size := by
  obtain ⟨es, clock, since, seen, c0, hb, _, _, _, _, hr, _⟩ := h
  exact (Array.getElem?_eq_some_iff.1 hr).1
theorem RangeAt.same (h : RangeAt enc w b r L rest) (hb' : w'.heap[b]? = w.heap[b]?) (hr' : w'.heap[r]? = w.heap[r]?) : RangeAt enc w' b r L rest := by
  obtain ⟨es, clock, since, seen, c0, hb, x1, x2, x3, x4, hr, rest⟩ := h
  exact ⟨es, clock, since, seen, c0, hb'.trans hb, x1, x2, x3, x4, hr'.trans hr, rest⟩
theorem RangeAt.grown {row : Option Nat} (h : RangeAt enc w b r L rest) (hg : w.grownBy w' row) (hb' : some b ≠ row) (hr' : some r ≠ row) : RangeAt enc w' b r L rest :=
  h.same (hg.block b h.map.lt hb') (hg.block r h.lt hr')
theorem RangeAt.below {B : Nat} (h : RangeAt enc w b r L rest) (hg : Below B w w') (hb' : b < B) (hr' : r < B) : RangeAt enc w' b r L rest := h.same (hg.block b hb') (hg.block r hr')
theorem RangeAt.alloc (h : RangeAt enc w b r L rest) (o : Obj) : RangeAt enc (w.alloc o) b r L rest := h.same (Below.heap_alloc w o b h.map.lt) (Below.heap_alloc w o r h.lt)

theorem MapAt.range_run (h : MapAt enc w b L) (ht : P.underlying mt = some (.map kt et)) :
    ∃ w', (Instr.range mt (.map (some b))).run P w = .ok (.pointer (some ⟨w.heap.size, 0, none⟩)) w' ∧ RangeAt enc w' b w.heap.size L L ∧ Below w.heap.size w w' ∧ w'.heap.size = w.heap.size + 1 := by
  have hlt := h.lt
  obtain ⟨es, clock, hb, hm, h1, h2, h3⟩ := h
  refine ⟨_, run_range_map w mt kt et b es clock ht hb, ⟨es, clock, clock, #[], clock, (Below.heap_alloc w _ b hlt).trans hb, hm, h1, h2, h3, heap_alloc_new w _, h1, Nat.le_refl _, Nat.le_refl _, ?_⟩, (Below.refl _ _).alloc (Nat.le_refl _) _, by simp⟩
  rw [← hm]
  have : leftOf es #[] = es := by unfold leftOf; exact Array.filter_eq_self.2 (by simp)
  rw [this]
theorem entL_split {l1 l2 : List MapEntry} {x : MapEntry} (_hi : ∀ a b, enc a = enc b → a = b) (h : entE (l1 ++ x :: l2) = entL enc rest) :
    ∃ pre e post, rest = pre ++ e :: post ∧ entE l1 = entL enc pre ∧ entE l2 = entL enc post ∧ x.key = enc e.1 ∧ x.val = e.2 := by
  simp only [entE, entL, List.map_append, List.map_cons] at h
  obtain ⟨pre, q, rfl, h1, h2⟩ := List.map_eq_append_iff.1 h.symm
  obtain ⟨e, post, rfl, h3, h4⟩ := List.map_eq_cons_iff.1 h2
  simp only [Prod.mk.injEq] at h3
  exact ⟨pre, e, post, rfl, h1.symm, h4.symm, h3.1.symm, h3.2.symm⟩
theorem RangeAt.next_run (h : RangeAt enc w b r L rest) (hi : ∀ a b, enc a = enc b → a = b) (ty : TypeId) :
    (rest = [] ∧ (Instr.next (.pointer (some ⟨r, 0, none⟩)) false ty).run P w = .ok (.tuple #[.bool false]) w) ∨
    ∃ pre e post w', rest = pre ++ e :: post ∧ (Instr.next (.pointer (some ⟨r, 0, none⟩)) false ty).run P w = .ok (.tuple #[.bool true, enc e.1, e.2]) w' ∧ RangeAt enc w' b r L (pre ++ post) ∧ w.grownBy w' (some r) ∧ w'.heap.size = w.heap.size ∧
      (Instr.entry (.pointer (some ⟨r, 0, none⟩))).run P w' = .ok (.tuple #[enc e.1, e.2]) w' := by
  have hne := h.ne
  obtain ⟨es, clock, since, seen, c0, hb, hm, h1, h2, h3, hr, hold, hsc, hsk, hl⟩ := h
  rcases run_next_at (P := P) w ty r b since c0 seen es clock hr hb hold hsc with ⟨h0, hrun⟩ | ⟨x, he, w1, hal, hrun⟩
  · refine Or.inl ⟨?_, hrun⟩
    have : (leftOf es seen).toList = [] := by rw [Array.eq_empty_of_size_eq_zero h0]
    rw [this] at hl
    simpa [entE, entL] using hl.symm
  · obtain ⟨hem, hes⟩ := mem_left he
    obtain ⟨l1, l2, hll⟩ := List.append_of_mem he
    rw [hll] at hl
    obtain ⟨pre, e, post, rfl, e1, e2, e3, e4⟩ := entL_split hi hl
    have hr1 : w1.heap[r]? = some (.mapIter (some b) since seen c0) := by rcases hal with rfl | rfl <;> exact hr
    have hb1 : w1.heap[b]? = some (.map es clock) := by rcases hal with rfl | rfl <;> exact hb
    have hset := heap_set (o' := .mapIter (some b) since (seen.push x.born) clock) hr1
    have hb' : (setBlock w1 r (.mapIter (some b) since (seen.push x.born) clock)).heap[b]? = some (.map es clock) := (hset.2 b (fun e1 => hne e1.symm)).trans hb1
    have hborn : ((leftOf es seen).toList.map (·.born)).Nodup := h2.sublist (List.Sublist.map _ (by unfold leftOf; rw [Array.toList_filter]; exact List.filter_sublist))
    have hleft : (leftOf es (seen.push x.born)).toList = l1 ++ l2 := by
      have : (leftOf es (seen.push x.born)).toList = (leftOf es seen).toList.filter fun y => !(y.born == x.born) := by
        unfold leftOf
        rw [Array.toList_filter, Array.toList_filter, List.filter_filter]
        refine List.filter_congr fun y _ => ?_
        rw [contains_push]
        cases seen.contains y.born <;> cases (y.born == x.born) <;> rfl
      rw [this, hll]
      rw [hll, List.map_append, List.map_cons] at hborn
      have hb2 := List.nodup_append.1 hborn
      have hb3 := List.nodup_cons.1 hb2.2.1
      rw [List.filter_append, List.filter_cons]
      simp only [beq_self_eq_true, Bool.not_true, Bool.false_eq_true, if_false]
      congr 1
      · refine List.filter_eq_self.2 fun y hy => ?_
        have := hb2.2.2 y.born (List.mem_map.2 ⟨y, hy, rfl⟩) x.born (by simp)
        simpa using this
      · refine List.filter_eq_self.2 fun y hy => ?_
        have : y.born ≠ x.born := fun e => hb3.1 (by rw [← e]; exact List.mem_map.2 ⟨y, hy, rfl⟩)
        simpa using this
    refine Or.inr ⟨pre, e, post, _, rfl, by rw [← e3, ← e4]; exact hrun, ⟨es, clock, since, seen.push x.born, clock, hb', hm, h1, h2, h3, hset.1, hold, hsk, hsk, ?_⟩, ?_, ?_, by rw [← e3, ← e4]; exact run_entry_at _ r b since seen es clock x hset.1 hb' hem h2⟩
    · rw [hleft]
      simp only [entE, entL, List.map_append] at e1 e2 ⊢
      rw [e1, e2]
    · rcases hal with rfl | rfl <;> exact ⟨rfl, rfl, rfl, by simp [setBlock], fun i _ hi => hset.2 i (fun e1 => hi (by rw [e1]))⟩
    · rcases hal with rfl | rfl <;> simp [setBlock]
end

section
variable {κ : Type} [DecidableEq κ]

def look (k : κ) : List (κ × Value) → Nat → Option (Nat × Value)
  | [], _ => none
  | e :: L, i => if e.1 = k then some (i, e.2) else look k L (i + 1)
def getL (k : κ) : List (κ × Value) → Option Value
  | [] => none
  | e :: L => if e.1 = k then some e.2 else getL k L
def setL (k : κ) (v : Value) : List (κ × Value) → List (κ × Value)
  | [] => [(k, v)]
  | e :: L => if e.1 = k then (k, v) :: L else e :: setL k v L
def dropL (k : κ) (L : List (κ × Value)) : List (κ × Value) := L.filter fun e => decide (e.1 ≠ k)

theorem look_none {k : κ} : ∀ {L : List (κ × Value)} {i : Nat}, look k L i = none → getL k L = none ∧ (∀ e ∈ L, e.1 ≠ k) ∧ ∀ v, setL k v L = L ++ [(k, v)]
  | [], _, _ => ⟨rfl, by simp, fun _ => rfl⟩
  | e :: L, i, h => by
    unfold look at h
    by_cases he : e.1 = k
    · rw [if_pos he] at h; cases h
    · rw [if_neg he] at h
      obtain ⟨h1, h2, h3⟩ := look_none h
      refine ⟨by simp [getL, he, h1], ?_, fun v => by simp [setL, he, h3 v]⟩
      intro x hx
      rcases List.mem_cons.1 hx with rfl | hx
      · exact he
      · exact h2 x hx
theorem look_some {k : κ} : ∀ {L : List (κ × Value)} {i j : Nat} {v : Value}, look k L i = some (j, v) → ∃ n, j = i + n ∧ L[n]? = some (k, v) ∧ getL k L = some v ∧ ∀ v', setL k v' L = L.set n (k, v')
  | [], _, _, _, h => by cases h
  | e :: L, i, j, v, h => by
    unfold look at h
    by_cases he : e.1 = k
    · rw [if_pos he] at h
      simp only [Option.some.injEq, Prod.mk.injEq] at h
      obtain ⟨rfl, rfl⟩ := h
      exact ⟨0, rfl, by simp [← he], by simp [getL, he], fun v' => by simp [setL, he]⟩
    · rw [if_neg he] at h
      obtain ⟨n, rfl, h1, h2, h3⟩ := look_some h
      exact ⟨n + 1, by omega, by simpa using h1, by simp [getL, he, h2], fun v' => by simp [setL, he, h3 v']⟩
theorem getL_none {k : κ} : ∀ {L : List (κ × Value)}, getL k L = none ↔ ∀ e ∈ L, e.1 ≠ k
  | [] => by simp [getL]
  | e :: L => by
    by_cases he : e.1 = k
    · simp [getL, he]
    · simp [getL, he, getL_none (k := k) (L := L)]
theorem getL_mem {k : κ} {v : Value} : ∀ {L : List (κ × Value)}, getL k L = some v → (k, v) ∈ L
  | [], h => by cases h
  | e :: L, h => by
    unfold getL at h
    by_cases he : e.1 = k
    · rw [if_pos he] at h
      simp only [Option.some.injEq] at h
      subst he h
      simp
    · rw [if_neg he] at h
      exact List.mem_cons_of_mem _ (getL_mem h)
theorem getL_of_mem {k : κ} {v : Value} : ∀ {L : List (κ × Value)}, (L.map (·.1)).Nodup → (k, v) ∈ L → getL k L = some v
  | [], _, h => by simp at h
  | e :: L, hn, h => by
    simp only [List.map_cons, List.nodup_cons] at hn
    unfold getL
    rcases List.mem_cons.1 h with rfl | h
    · simp
    · have : e.1 ≠ k := fun he => hn.1 (by rw [he]; exact List.mem_map.2 ⟨_, h, rfl⟩)
      rw [if_neg this]
      exact getL_of_mem hn.2 h
theorem setL_keys {k : κ} {v : Value} : ∀ {L : List (κ × Value)}, (L.map (·.1)).Nodup → ((setL k v L).map (·.1)).Nodup ∧ ∀ x, x ∈ (setL k v L).map (·.1) ↔ x = k ∨ x ∈ L.map (·.1)
  | [], _ => by simp [setL]
  | e :: L, hn => by
    simp only [List.map_cons, List.nodup_cons] at hn
    obtain ⟨h1, h2⟩ := setL_keys (k := k) (v := v) hn.2
    unfold setL
    by_cases he : e.1 = k
    · rw [if_pos he]
      subst he
      simp only [List.map_cons, List.nodup_cons]
      refine ⟨hn, fun x => ?_⟩
      simp
    · rw [if_neg he]
      simp only [List.map_cons, List.nodup_cons]
      refine ⟨⟨fun h => ?_, h1⟩, fun x => ?_⟩
      · rcases (h2 _).1 h with h | h
        · exact he h
        · exact hn.1 h
      · rw [List.mem_cons, h2 x, List.mem_cons]
        constructor
        · rintro (h | h | h)
          · exact .inr (.inl h)
          · exact .inl h
          · exact .inr (.inr h)
        · rintro (h | h | h)
          · exact .inr (.inl h)
          · exact .inl h
          · exact .inr (.inr h)
theorem dropL_keys {k : κ} {L : List (κ × Value)} (hn : (L.map (·.1)).Nodup) : ((dropL k L).map (·.1)).Nodup := hn.sublist ((List.filter_sublist).map _)
theorem dropL_of_not {k : κ} {L : List (κ × Value)} (h : ∀ e ∈ L, e.1 ≠ k) : dropL k L = L := List.filter_eq_self.2 fun e he => by simpa using h e he
theorem dropL_erase {k : κ} {v : Value} : ∀ {L : List (κ × Value)} {n : Nat}, (L.map (·.1)).Nodup → L[n]? = some (k, v) → dropL k L = L.eraseIdx n
  | [], n, _, h => by simp at h
  | e :: L, 0, hn, h => by
    simp only [List.getElem?_cons_zero, Option.some.injEq] at h
    subst h
    simp only [List.map_cons, List.nodup_cons] at hn
    have : dropL k L = L := dropL_of_not fun x hx he => hn.1 (by rw [← he]; exact List.mem_map.2 ⟨_, hx, rfl⟩)
    simp only [dropL] at this ⊢
    rw [List.filter_cons, this]
    simp
  | e :: L, n + 1, hn, h => by
    simp only [List.getElem?_cons_succ] at h
    simp only [List.map_cons, List.nodup_cons] at hn
    have he : e.1 ≠ k := fun he => hn.1 (by rw [he]; exact List.mem_map.2 ⟨_, List.mem_of_getElem? h, rfl⟩)
    have := dropL_erase hn.2 h
    simp only [dropL] at this ⊢
    rw [List.filter_cons, this]
    simp [he]

structure KeyOk (P : Program) (kt : TypeId) (enc : κ → Value) : Prop where
  find : ∀ (k : κ) (l : List MapEntry) (L : List (κ × Value)) (w : World), entE l = entL enc L → (Instr.findKey kt (enc k) l).run P w = .ok (look k L 0) w
  check : ∀ (e : Bool) (k : κ) (w : World), (Instr.checkKey e 10000 kt (enc k)).run P w = .ok () w
  same : ∀ k, Instr.sameBits 10000 (enc k) (enc k) = true
  inj : ∀ a b, enc a = enc b → a = b

variable {P : Program} {kt et mt : TypeId} {enc : κ → Value} {w w' : World} {b r : Nat} {L rest : List (κ × Value)}

theorem findAsking_st (eq : ∀ a b w, (Op.equal kt (enc a) (enc b)).run P w = .ok (decide (a = b)) w) (k : κ) (w : World) : ∀ (l : List MapEntry) (L : List (κ × Value)) (i : Nat), entE l = entL enc L →
    (Instr.findAsking kt (enc k) l i).run P w = .ok (look k L i) w
  | [], L, i, h => by
    have : L = [] := by simpa [entE, entL] using h.symm
    subst this
    simp [Instr.findAsking, look]
  | x :: l, [], i, h => by simp [entE, entL] at h
  | x :: l, e :: L, i, h => by
    simp only [entE, entL, List.map_cons, List.cons.injEq, Prod.mk.injEq] at h
    obtain ⟨⟨hk, hv⟩, ht⟩ := h
    have he : (Op.equal kt (enc k) x.key).run P w = .ok (decide (k = e.1)) w := by rw [hk]; exact eq _ _ w
    by_cases hq : k = e.1
    · simp only [Instr.findAsking, Sem.run_bind, he, Result.andThen_ok, look, hv]
      rw [if_pos hq.symm]
      simp [hq]
    · have hj := findAsking_st eq k w l L (i + 1) ht
      simp only [Instr.findAsking, Sem.run_bind, he, Result.andThen_ok]
      rw [show look k (e :: L) i = look k L (i + 1) by conv => lhs; unfold look; rw [if_neg (fun h => hq h.symm)]]
      simpa [hq] using hj
theorem KeyOk.of_struct {fs : Array Field} (und : P.underlying kt = some (.struct fs)) (eq : ∀ a b w, (Op.equal kt (enc a) (enc b)).run P w = .ok (decide (a = b)) w)
    (check : ∀ (e : Bool) (k : κ) (w : World), (Instr.checkKey e 10000 kt (enc k)).run P w = .ok () w) (same : ∀ k, Instr.sameBits 10000 (enc k) (enc k) = true) (inj : ∀ a b, enc a = enc b → a = b) : KeyOk P kt enc where
  find := fun k l L w h => by
    have hj := findAsking_st eq k w l L 0 h
    cases l with
    | nil =>
      have : L = [] := by simpa [entE, entL] using h.symm
      subst this
      simp [Instr.findKey, run_underlying und, Instr.findNow, look]
    | cons x l => simp only [Instr.findKey, Sem.run_bind, run_underlying und, Result.andThen_ok, Instr.findNow, Instr.sameNow]; exact hj
  check := check
  same := same
  inj := inj

theorem MapAt.look_run (h : MapAt enc w b L) (K : KeyOk P kt enc) (ht : P.underlying mt = some (.map kt et)) {z : Value} (hz : (zeroValue et).run P w = .ok z w) (k : κ) (c : Bool) :
    (Instr.lookup mt (.map (some b)) (enc k) c).run P w = .ok (if c = true then .tuple #[(getL k L).getD z, .bool (getL k L).isSome] else (getL k L).getD z) w := by
  obtain ⟨es, clock, hb, hm, -⟩ := h
  have hf := K.find k es.toList L w hm
  cases hl : look k L 0 with
  | none =>
    rw [hl] at hf
    obtain ⟨h1, -⟩ := look_none hl
    cases c <;> simp [Instr.lookup, run_underlying ht, MapKept.run_getObj_map hb, K.check, hf, hz, h1]
  | some jv =>
    obtain ⟨j, v⟩ := jv
    rw [hl] at hf
    obtain ⟨n, -, -, h1, -⟩ := look_some hl
    cases c <;> simp [Instr.lookup, run_underlying ht, MapKept.run_getObj_map hb, K.check, hf, h1]
theorem look_nil_run (K : KeyOk P kt enc) (ht : P.underlying mt = some (.map kt et)) {z : Value} (hz : (zeroValue et).run P w = .ok z w) (k : κ) (c : Bool) :
    (Instr.lookup mt (.map none) (enc k) c).run P w = .ok (if c = true then .tuple #[z, .bool false] else z) w := by
  have hf := K.find k [] [] w rfl
  simp only [look] at hf
  cases c <;> simp [Instr.lookup, run_underlying ht, K.check, hf, hz]

theorem MapAt.update_run (h : MapAt enc w b L) (K : KeyOk P kt enc) (ht : P.underlying mt = some (.map kt et)) (k : κ) (v : Value) :
    ∃ w', (Instr.mapUpdate mt (.map (some b)) (enc k) v).run P w = .ok () w' ∧ MapAt enc w' b (setL k v L) ∧ w.grownBy w' (some b) ∧ w'.heap.size = w.heap.size := by
  obtain ⟨es, clock, hb, hm, h1, h2, h3⟩ := h
  have hf := K.find k es.toList L w hm
  have hlen : es.toList.length = L.length := by simpa [entE, entL] using congrArg List.length hm
  cases hl : look k L 0 with
  | none =>
    rw [hl] at hf
    obtain ⟨-, h4, h5⟩ := look_none hl
    refine ⟨{ w with heap := w.heap.setIfInBounds b (.map (es.push { key := enc k, val := v, born := clock }) (clock + 1)) }, ?_, ⟨_, _, (heap_set hb).1, ?_, ?_, ?_, (setL_keys h3).1⟩, ⟨rfl, rfl, rfl, by simp, fun i hi hne => (heap_set hb).2 i fun e => hne (by rw [e])⟩, by simp⟩
    · simp [Instr.mapUpdate, run_underlying ht, MapKept.run_getObj_map hb, K.check, hf, MapKept.run_setObj_map _ hb, Result.andThen]
    · rw [h5 v]
      simp only [entE, entL] at hm
      simp [entE, entL, hm]
    · intro x hx
      simp only [Array.toList_push, List.mem_append, List.mem_singleton] at hx
      rcases hx with hx | rfl
      · have := h1 x hx; omega
      · exact Nat.lt_succ_self _
    · simp only [Array.toList_push, List.map_append, List.map_cons, List.map_nil]
      refine List.nodup_append.2 ⟨h2, by simp, ?_⟩
      intro a ha c hc
      simp only [List.mem_singleton] at hc
      subst hc
      obtain ⟨x, hx, rfl⟩ := List.mem_map.1 ha
      exact Nat.ne_of_lt (h1 x hx)
  | some jv =>
    obtain ⟨j, v0⟩ := jv
    rw [hl] at hf
    obtain ⟨n, hjn, h4, -, h5⟩ := look_some hl
    obtain rfl : j = n := by omega
    have hjL : j < L.length := (List.getElem?_eq_some_iff.1 h4).1
    have hjs : j < es.size := by have : es.toList.length = es.size := rfl; omega
    have hkey : es[j].key = enc k := by
      have := congrArg (fun l => l[j]?) hm
      simp only [entE, entL, List.getElem?_map, h4, Option.map_some, Array.getElem?_toList, Array.getElem?_eq_getElem hjs, Option.some.injEq, Prod.mk.injEq] at this
      exact this.1
    have hstay : (Instr.keyThatStays (enc k) (enc k)).run P w = .ok (enc k) w := by simp [Instr.keyThatStays, K.same]
    refine ⟨{ w with heap := w.heap.setIfInBounds b (.map (es.modify j fun e => { e with key := enc k, val := v }) clock) }, ?_, ⟨_, _, (heap_set hb).1, ?_, ?_, ?_, (setL_keys h3).1⟩, ⟨rfl, rfl, rfl, by simp, fun i hi hne => (heap_set hb).2 i fun e => hne (by rw [e])⟩, by simp⟩
    · simp [Instr.mapUpdate, run_underlying ht, MapKept.run_getObj_map hb, K.check, hf, Array.getElem?_eq_getElem hjs, hkey, hstay, MapKept.run_setObj_map _ hb, Result.andThen]
    · rw [h5 v]
      simp only [entL, List.map_set]
      simp only [entL] at hm
      rw [← hm]
      apply List.ext_getElem?
      intro i
      simp only [entE, List.getElem?_map, Array.getElem?_toList, Array.getElem?_modify, List.getElem?_set, List.length_map]
      by_cases hij : j = i
      · subst hij
        simp [hjs]
      · simp [hij]
    · intro x hx
      obtain ⟨i, hi⟩ := List.getElem?_of_mem hx
      rw [Array.getElem?_toList, Array.getElem?_modify] at hi
      by_cases hij : j = i
      · subst hij
        simp only [if_true, Array.getElem?_eq_getElem hjs, Option.map_some, Option.some.injEq] at hi
        rw [← hi]
        have := h1 es[j] (by simp)
        exact this
      · rw [if_neg hij] at hi
        exact h1 x (List.mem_of_getElem? (by rwa [Array.getElem?_toList]))
    · have : (es.modify j fun e => { e with key := enc k, val := v }).toList.map (·.born) = es.toList.map (·.born) := by
        apply List.ext_getElem?
        intro i
        simp only [List.getElem?_map, Array.getElem?_toList, Array.getElem?_modify]
        by_cases hij : j = i
        · subst hij
          simp only [if_true]
          cases es[j]? <;> rfl
        · simp [hij]
      rw [this]
      exact h2

theorem erase_list {es : Array MapEntry} {j : Nat} (hjs : j < es.size) : (es.eraseIdxIfInBounds j).toList = es.toList.eraseIdx j := by
  unfold Array.eraseIdxIfInBounds
  rw [dif_pos hjs]
  simp
theorem eraseIdx_map' {α β : Type} (f : α → β) : ∀ (l : List α) (n : Nat), (l.eraseIdx n).map f = (l.map f).eraseIdx n
  | [], _ => by simp
  | a :: l, 0 => by simp
  | a :: l, n + 1 => by simp [eraseIdx_map' f l n]
/-- 'delete', whether the key is there or not: the entries that are left are entries that were. -/
theorem delete_es (K : KeyOk P kt enc) (ht : P.underlying mt = some (.map kt et)) (k : κ) (ty : TypeId) {es : Array MapEntry} {clock : Nat} (hb : w.heap[b]? = some (.map es clock)) (hm : entE es.toList = entL enc L) (h3 : (L.map (·.1)).Nodup) :
    ∃ es', (Builtin.delete_ #[mt, kt] ty #[.map (some b), enc k]).run P w = .ok (.tuple #[]) (setBlock w b (.map es' clock)) ∧ es'.toList.Sublist es.toList ∧ entE es'.toList = entL enc (dropL k L) := by
  have hf := K.find k es.toList L w hm
  have hlen : es.toList.length = L.length := by simpa [entE, entL] using congrArg List.length hm
  cases hl : look k L 0 with
  | none =>
    rw [hl] at hf
    obtain ⟨-, h4, -⟩ := look_none hl
    refine ⟨es, ?_, List.Sublist.refl _, by rw [dropL_of_not h4]; exact hm⟩
    simp [Builtin.delete_, run_underlying ht, MapKept.run_getObj_map hb, K.check, hf, MapKept.run_setObj_map _ hb, Result.andThen, setBlock]
  | some jv =>
    obtain ⟨j, v0⟩ := jv
    rw [hl] at hf
    obtain ⟨n, hjn, h4, -, -⟩ := look_some hl
    obtain rfl : j = n := by omega
    have hjL : j < L.length := (List.getElem?_eq_some_iff.1 h4).1
    have hjs : j < es.size := by have : es.toList.length = es.size := rfl; omega
    refine ⟨es.eraseIdxIfInBounds j, ?_, by rw [erase_list hjs]; exact List.eraseIdx_sublist _ _, ?_⟩
    · simp [Builtin.delete_, run_underlying ht, MapKept.run_getObj_map hb, K.check, hf, MapKept.run_setObj_map _ hb, Result.andThen, setBlock]
    · rw [erase_list hjs, dropL_erase h3 h4]
      simp only [entE, entL] at hm ⊢
      rw [eraseIdx_map', eraseIdx_map', hm]
theorem MapAt.delete_run (h : MapAt enc w b L) (K : KeyOk P kt enc) (ht : P.underlying mt = some (.map kt et)) (k : κ) (ty : TypeId) :
    ∃ w', (Builtin.delete_ #[mt, kt] ty #[.map (some b), enc k]).run P w = .ok (.tuple #[]) w' ∧ MapAt enc w' b (dropL k L) ∧ w.grownBy w' (some b) ∧ w'.heap.size = w.heap.size := by
  have hlt := h.lt
  obtain ⟨es, clock, hb, hm, h1, h2, h3⟩ := h
  obtain ⟨es', hrun, hsub, hes⟩ := delete_es (ty := ty) K ht k hb hm h3
  exact ⟨_, hrun, ⟨es', clock, (heap_set hb).1, hes, fun x hx => h1 x (hsub.subset hx), h2.sublist (hsub.map _), dropL_keys h3⟩, setBlock_grown hlt _, setBlock_size _⟩
theorem RangeAt.delete_run (h : RangeAt enc w b r L rest) (K : KeyOk P kt enc) (ht : P.underlying mt = some (.map kt et)) (k : κ) (ty : TypeId) :
    ∃ w', (Builtin.delete_ #[mt, kt] ty #[.map (some b), enc k]).run P w = .ok (.tuple #[]) w' ∧ RangeAt enc w' b r (dropL k L) (dropL k rest) ∧ w.grownBy w' (some b) ∧ w'.heap.size = w.heap.size := by
  classical
  have hlt := h.map.lt
  have hne := h.ne
  obtain ⟨es, clock, since, seen, c0, hb, hm, h1, h2, h3, hr, hold, hsc, hsk, hl⟩ := h
  have hf := K.find k es.toList L w hm
  have hlen : es.toList.length = L.length := by simpa [entE, entL] using congrArg List.length hm
  have keyfilter : ∀ (l : List MapEntry) (M : List (κ × Value)), entE l = entL enc M → entE (l.filter fun x => decide (x.key ≠ enc k)) = entL enc (dropL k M) := by
    intro l
    induction l with
    | nil =>
      intro M h
      have : M = [] := by simpa [entE, entL] using h.symm
      subst this
      rfl
    | cons x l ih =>
      intro M h
      cases M with
      | nil => simp [entE, entL] at h
      | cons e M =>
        simp only [entE, entL, List.map_cons, List.cons.injEq, Prod.mk.injEq] at h
        have := ih M h.2
        by_cases he : e.1 = k
        · have hx : x.key = enc k := by rw [h.1.1, he]
          simp only [dropL, entE, entL] at this ⊢
          simp only [List.filter_cons, hx, he, ne_eq, not_true_eq_false, decide_false, Bool.false_eq_true, if_false]
          exact this
        · have hx : x.key ≠ enc k := by rw [h.1.1]; exact fun e => he (K.inj _ _ e)
          simp only [dropL, entE, entL] at this ⊢
          simp only [List.filter_cons, hx, he, ne_eq, not_false_eq_true, decide_true, if_true, List.map_cons]
          rw [this, h.1.1, h.1.2]
  obtain ⟨es', hrun, hsub, hes⟩ := delete_es (ty := ty) K ht k hb hm h3
  have hes' : es'.toList = es.toList.filter fun x => decide (x.key ≠ enc k) := by
    have e1 := keyfilter _ _ hm
    rw [← hes] at e1
    have hs2 : es'.toList.Sublist (es.toList.filter fun x => decide (x.key ≠ enc k)) := by
      have hk : ∀ x ∈ es'.toList, decide (x.key ≠ enc k) = true := by
        intro x hx
        have : (x.key, x.val) ∈ entL enc (dropL k L) := by rw [← hes]; exact List.mem_map.2 ⟨x, hx, rfl⟩
        obtain ⟨e, he, hee⟩ := List.mem_map.1 this
        simp only [Prod.mk.injEq] at hee
        have hek : e.1 ≠ k := by simpa [dropL] using (List.mem_filter.1 he).2
        rw [← hee.1]
        simpa using fun e => hek (K.inj _ _ e)
      rw [← List.filter_eq_self.2 hk]
      exact hsub.filter _
    refine hs2.eq_of_length ?_
    have := congrArg List.length e1
    simpa [entE] using this.symm
  refine ⟨_, hrun, ⟨es', clock, since, seen, c0, (heap_set hb).1, hes, fun x hx => h1 x (hsub.subset hx), h2.sublist (hsub.map _), dropL_keys h3, ((heap_set hb).2 r hne).trans hr, fun x hx => hold x (hsub.subset hx), hsc, hsk, ?_⟩, setBlock_grown hlt _, setBlock_size _⟩
  have : (leftOf es' seen).toList = (leftOf es seen).toList.filter fun x => decide (x.key ≠ enc k) := by
    unfold leftOf
    rw [Array.toList_filter, Array.toList_filter, hes', List.filter_filter, List.filter_filter]
    refine List.filter_congr fun y _ => ?_
    rw [Bool.and_comm]
  rw [this]
  exact keyfilter _ _ hl
end

section
variable {κ : Type} [DecidableEq κ] {enc : κ → Value} {P : Program} (w : World) {ops : Array Oper} {rest : List Oper} {o : Oper} {a : Act} {Q : Exit → Act → World → Prop} {b r : Nat} {L left : List (κ × Value)}

theorem wpList_lookup_st (hg : o.guard = none) (m x : Operand) (t : TypeId) (c : Bool) (hop : o.op = Op.lookup t m x c) (kt et : TypeId) (K : KeyOk P kt enc) (ht : P.underlying t = some (.map kt et)) {z : Value} (hz : (zeroValue et).run P w = .ok z w)
    (hm : a.eval m = .map (some b)) (h : MapAt enc w b L) (k : κ) (hx : a.eval x = enc k) {v : Value} (hv : (if c = true then .tuple #[(getL k L).getD z, .bool (getL k L).isSome] else (getL k L).getD z) = v)
    (hK : wpList P ops Q rest (a.put o.dst v) w) : wpList P ops Q (o :: rest) a w := by
  refine wpList_plain hg fun K' hK' => ?_
  subst hv
  have hrun := h.look_run K ht hz k c
  unfold Oper.wp
  simp [execOp, hop, hm, hx, hrun, Result.andThen]
  exact hK' _ _ hK
theorem wpList_update_st (hg : o.guard = none) (m x y : Operand) (t : TypeId) (hop : o.op = Op.mapUpdate t m x y) (kt et : TypeId) (K : KeyOk P kt enc) (ht : P.underlying t = some (.map kt et))
    (hm : a.eval m = .map (some b)) (h : MapAt enc w b L) (k : κ) (hx : a.eval x = enc k) (v : Value) (hy : a.eval y = v)
    (hK : ∀ w', MapAt enc w' b (setL k v L) → w.grownBy w' (some b) → w'.heap.size = w.heap.size → wpList P ops Q rest (a.put o.dst undef) w') : wpList P ops Q (o :: rest) a w := by
  refine wpList_plain hg fun K' hK' => ?_
  obtain ⟨w', hrun, h1, h2, h3⟩ := h.update_run K ht k v
  unfold Oper.wp
  simp [execOp, hop, hm, hx, hy, hrun, Result.andThen]
  exact hK' _ _ (hK w' h1 h2 h3)
theorem wpList_delete_st (hg : o.guard = none) (m x : Operand) (t kt : TypeId) (hop : o.op = Op.call { callee := Callee.builtin Builtin.delete, args := #[m, x], argTypes := #[t, kt] }) (et : TypeId) (K : KeyOk P kt enc) (ht : P.underlying t = some (.map kt et))
    (hm : a.eval m = .map (some b)) (h : MapAt enc w b L) (k : κ) (hx : a.eval x = enc k)
    (hK : ∀ w', MapAt enc w' b (dropL k L) → w.grownBy w' (some b) → w'.heap.size = w.heap.size → wpList P ops Q rest (a.put o.dst (.tuple #[])) w') : wpList P ops Q (o :: rest) a w := by
  refine wpList_plain hg fun K' hK' => ?_
  obtain ⟨w', hrun, h1, h2, h3⟩ := h.delete_run K ht k o.type
  unfold Oper.wp
  simp [execOp, hop, resolve, invoke, builtin, hm, hx, hrun, Result.andThen]
  exact hK' _ _ (hK w' h1 h2 h3)
theorem wpList_delete_range_st (hg : o.guard = none) (m x : Operand) (t kt : TypeId) (hop : o.op = Op.call { callee := Callee.builtin Builtin.delete, args := #[m, x], argTypes := #[t, kt] }) (et : TypeId) (K : KeyOk P kt enc) (ht : P.underlying t = some (.map kt et))
    (hm : a.eval m = .map (some b)) (h : RangeAt enc w b r L left) (k : κ) (hx : a.eval x = enc k)
    (hK : ∀ w', RangeAt enc w' b r (dropL k L) (dropL k left) → w.grownBy w' (some b) → w'.heap.size = w.heap.size → wpList P ops Q rest (a.put o.dst (.tuple #[])) w') : wpList P ops Q (o :: rest) a w := by
  refine wpList_plain hg fun K' hK' => ?_
  obtain ⟨w', hrun, h1, h2, h3⟩ := h.delete_run K ht k o.type
  unfold Oper.wp
  simp [execOp, hop, resolve, invoke, builtin, hm, hx, hrun, Result.andThen]
  exact hK' _ _ (hK w' h1 h2 h3)
end

section
variable {κ : Type} {enc : κ → Value} {P : Program} (w : World) {ops : Array Oper} {rest : List Oper} {o : Oper} {a : Act} {Q : Exit → Act → World → Prop} {b r : Nat} {L left : List (κ × Value)}
theorem wpList_len_st (hg : o.guard = none) (m : Operand) (t kt et : TypeId) (hop : o.op = Op.call { callee := Callee.builtin Builtin.len, args := #[m], argTypes := #[t] }) (ht : P.underlying t = some (.map kt et)) (hm : a.eval m = .map (some b)) (h : MapAt enc w b L)
    (hK : wpList P ops Q rest (a.put o.dst (.int .i64 L.length)) w) : wpList P ops Q (o :: rest) a w := by
  refine wpList_plain hg fun K' hK' => ?_
  have hrun := h.len_run (P := P) ht o.type
  unfold Oper.wp
  simp [execOp, hop, resolve, invoke, builtin, hm, hrun, Result.andThen]
  exact hK' _ _ hK
theorem wpList_range_st (hg : o.guard = none) (m : Operand) (t : TypeId) (hop : o.op = Op.range t m) (kt et : TypeId) (ht : P.underlying t = some (.map kt et)) (hm : a.eval m = .map (some b)) (h : MapAt enc w b L)
    (hK : ∀ w', RangeAt enc w' b w.heap.size L L → Below w.heap.size w w' → w'.heap.size = w.heap.size + 1 → wpList P ops Q rest (a.put o.dst (.pointer (some ⟨w.heap.size, 0, none⟩))) w') : wpList P ops Q (o :: rest) a w := by
  refine wpList_plain hg fun K' hK' => ?_
  obtain ⟨w', hrun, h1, h2, h3⟩ := h.range_run (P := P) ht
  unfold Oper.wp
  simp [execOp, hop, hm, hrun, Result.andThen]
  exact hK' _ _ (hK w' h1 h2 h3)
theorem wpList_next_st (hg : o.guard = none) (it : Operand) (hop : o.op = Op.next it false) (hi : ∀ a b, enc a = enc b → a = b) (hit : a.eval it = .pointer (some ⟨r, 0, none⟩)) (h : RangeAt enc w b r L left)
    (hDone : left = [] → wpList P ops Q rest (a.put o.dst (.tuple #[.bool false])) w)
    (hMore : ∀ pre e post w', left = pre ++ e :: post → RangeAt enc w' b r L (pre ++ post) → w.grownBy w' (some r) → w'.heap.size = w.heap.size → (Instr.entry (.pointer (some ⟨r, 0, none⟩))).run P w' = .ok (.tuple #[enc e.1, e.2]) w' →
      wpList P ops Q rest (a.put o.dst (.tuple #[.bool true, enc e.1, e.2])) w') : wpList P ops Q (o :: rest) a w := by
  refine wpList_plain hg fun K' hK' => ?_
  unfold Oper.wp
  rcases h.next_run (P := P) hi o.type with ⟨h0, hrun⟩ | ⟨pre, e, post, w', h1, hrun, h2, h3, h4, h5⟩
  · simp [execOp, hop, hit, hrun, Result.andThen]
    exact hK' _ _ (hDone h0)
  · simp [execOp, hop, hit, hrun, Result.andThen]
    exact hK' _ _ (hMore pre e post w' h1 h2 h3 h4 h5)
end

end Go.Proofs.Ytfpjkeddcagfcaa

/-
  clear of a map, whatever its keys.
-/
namespace Go.Proofs.Ytfpjkeddcagfcaa
open Go.RowKit Go.MapKept

section
variable {κ : Type} {P : Program} {kt et mt : TypeId} {enc : κ → Value} {w w' : World} {b : Nat} {L : List (κ × Value)}
theorem MapAt.clear_run (h : MapAt enc w b L) (ht : P.underlying mt = some (.map kt et)) (ty : TypeId) :
    ∃ w', (Builtin.clear_ #[mt] ty #[.map (some b)]).run P w = .ok (.tuple #[]) w' ∧ MapAt enc w' b ([] : List (κ × Value)) ∧ w.grownBy w' (some b) ∧ w'.heap.size = w.heap.size := by
  have hlt := h.lt
  obtain ⟨es, clock, hb, hm, h1, h2, h3⟩ := h
  refine ⟨_, ?_, ⟨#[], clock, (heap_set hb).1, rfl, by simp, by simp, by simp⟩, setBlock_grown hlt _, setBlock_size _⟩
  simp [Builtin.clear_, run_underlying ht, MapKept.run_getObj_map hb, MapKept.run_setObj_map _ hb, Result.andThen]
  rfl
variable {ops : Array Oper} {Q : Exit → Act → World → Prop} {o : Oper} {rest : List Oper} {a : Act}
theorem wpList_clear_st (hg : o.guard = none) (m : Operand) (t kt : TypeId) (hop : o.op = Op.call { callee := Callee.builtin Builtin.clear, args := #[m], argTypes := #[t] }) (et : TypeId) (ht : P.underlying t = some (.map kt et))
    (hm : a.eval m = .map (some b)) (h : MapAt enc w b L)
    (hK : ∀ w', MapAt enc w' b ([] : List (κ × Value)) → w.grownBy w' (some b) → w'.heap.size = w.heap.size → wpList P ops Q rest (a.put o.dst (.tuple #[])) w') : wpList P ops Q (o :: rest) a w := by
  refine wpList_plain hg fun K' hK' => ?_
  obtain ⟨w', hrun, h1, h2, h3⟩ := h.clear_run ht o.type
  unfold Oper.wp
  simp [execOp, hop, resolve, invoke, builtin, hm, hrun, Result.andThen]
  exact hK' _ _ (hK w' h1 h2 h3)
end

end Go.Proofs.Ytfpjkeddcagfcaa

/-
  Keys as keys of maps.
-/
namespace Go.Proofs.Ytfpjkeddcagfcaa
open Go.RowKit

structure K3 where
  kind : Int
  id : Int
  adv : Int
deriving DecidableEq
instance : Inhabited K3 := ⟨⟨0, 0, 0⟩⟩
def K3.cells (k : K3) : List Value := [.int .i64 k.kind, .int .i64 k.id, .int .i64 k.adv]
def K3.enc (k : K3) : Value := .agg #[.int .i64 k.kind, .int .i64 k.id, .int .i64 k.adv]
theorem eqK3_n (n : Nat) (a b c a' b' c' : Int) (w : World) : (Op.equalIn (n + 1 + 1) 74 (.agg #[.int .i64 a, .int .i64 b, .int .i64 c]) (.agg #[.int .i64 a', .int .i64 b', .int .i64 c'])).run Try.prog w = .ok (a == a' && b == b' && c == c') w := by
  have hS : Try.prog.underlying 74 = some (.struct (Try.prog.fieldsOf 74)) := by kernel_rfl
  have hp : Try.prog.stoodInHeld 74 = false := by kernel_rfl
  rw [run_equalIn_struct w (n + 1) 74 _ _ hS hp]
  simp only [Program.fieldsOf, Try.underlying74]
  go_simp
  by_cases h1 : a = a' <;> by_cases h2 : b = b' <;> by_cases h3 : c = c' <;> simp [h1, h2, h3]
theorem eqK3 (a b : K3) (w : World) : (Op.equal 74 a.enc b.enc).run Try.prog w = .ok (decide (a = b)) w := by
  obtain ⟨a1, a2, a3⟩ := a
  obtain ⟨b1, b2, b3⟩ := b
  refine (eqK3_n 9998 a1 a2 a3 b1 b2 b3 w).trans ?_
  by_cases h1 : a1 = b1 <;> by_cases h2 : a2 = b2 <;> by_cases h3 : a3 = b3 <;> simp [h1, h2, h3]
theorem checkInt (e : Bool) (n : Nat) (x : Int) (w : World) : (Instr.checkKey e (n + 1) 3 (.int .i64 x)).run Try.prog w = .ok () w := MapKept.run_checkKey Try.underlying3 (by simp [MapKept.IsKey]) e n
theorem checkK3_n (n : Nat) (e : Bool) (a b c : Int) (w : World) : (Instr.checkKey e (n + 1 + 1) 74 (.agg #[.int .i64 a, .int .i64 b, .int .i64 c])).run Try.prog w = .ok () w := by
  have hc : ∀ x w, (Instr.checkKey e (n + 1) 3 (.int .i64 x)).run Try.prog w = .ok () w := fun x w => checkInt e n x w
  rw [Instr.checkKey]
  simp only [Sem.run_bind, run_underlying Try.underlying74, Result.andThen_ok]
  rw [← Array.forIn_toList]
  go_simp
theorem sameBits_agg (n : Nat) : ∀ l : List Value, (∀ v ∈ l, Instr.sameBits n v v = true) → (l.zip l).all (fun (x, y) => Instr.sameBits n x y) = true
  | [], _ => rfl
  | v :: l, h => by
    simp only [List.zip_cons_cons, List.all_cons, Bool.and_eq_true]
    exact ⟨h v (by simp), sameBits_agg n l fun u hu => h u (by simp [hu])⟩
theorem sameBits_int (n : Nat) (x : Int) : Instr.sameBits n (.int .i64 x) (.int .i64 x) = true := by unfold Instr.sameBits; simp
theorem sameK3 (k : K3) : Instr.sameBits 10000 k.enc k.enc = true := by
  rw [show (10000 : Nat) = 9999 + 1 from rfl, K3.enc, Instr.sameBits]
  simp only [beq_self_eq_true, Bool.true_and]
  exact sameBits_agg _ _ fun v hv => by
    simp at hv
    rcases hv with rfl | rfl | rfl <;> exact sameBits_int _ _
theorem K3.enc_inj (a b : K3) (h : a.enc = b.enc) : a = b := by
  obtain ⟨a1, a2, a3⟩ := a
  obtain ⟨b1, b2, b3⟩ := b
  simp [K3.enc] at h
  simp [h]
theorem keyK3 : KeyOk Try.prog 74 K3.enc := KeyOk.of_struct Try.underlying74 eqK3 (fun e _k w => checkK3_n 9998 e _ _ _ w) sameK3 K3.enc_inj

end Go.Proofs.Ytfpjkeddcagfcaa
