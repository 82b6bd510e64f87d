/-
  Heads, numbers, truths: opened from what was handed in; a struct's fields, one by one.
-/
import Derived.Test.YtpnbibokddhheaaRowsOf
namespace Go.Proofs.Ytpnbibokddhheaa
open Go.ChangeShapes Go.WideShapes Go.RowKit Go.Deep Go.Joins

structure Hd where
  age : Int
  kind : Int
  id : Int
  adv : Int
  seq : Int
  sum : Int
  long : Int
deriving DecidableEq
def Hd.cells (h : Hd) : List Value := [.int .i64 h.age, .int .i64 h.kind, .int .i64 h.id, .int .i64 h.adv, .int .i64 h.seq, .int .i64 h.sum, .int .i64 h.long]

section
variable {H : Type} {enc : TypeId × Value → H} {w : World} {base : Nat} {spare : Nat → Bool} {held : Bool}
theorem cofInt : Try.prog.cellsOf 3 = 1 := by kernel_rfl
theorem cofBool : Try.prog.cellsOf 4 = 1 := by kernel_rfl
theorem cofHead : Try.prog.cellsOf 34 = 7 := by kernel_rfl
theorem tint {n : Nat} {v : Value} {y : DataW H × List MemPlace} (h : DataW.trod enc Try.prog w base spare held n 3 [v] = some y) : ∃ z : Int, v = .int .i64 z := by
  obtain ⟨z, e, _⟩ := dec_int Try.underlying3 h
  exact ⟨z, e⟩
theorem tbool {n : Nat} {v : Value} {y : DataW H × List MemPlace} (h : DataW.trod enc Try.prog w base spare held n 4 [v] = some y) : ∃ b : Bool, v = .bool b := by
  obtain ⟨b, e, _⟩ := DataW.trod_bool Try.underlying4 h
  exact ⟨b, by simpa using e⟩
/-- a struct's fields, one by one -/
theorem dec_fields {t : TypeId} {fs : Array Field} {n : Nat} {cs : List Value} {x : DataW H × List MemPlace} (ht : Try.prog.underlying t = some (.struct fs)) (h : DataW.trod enc Try.prog w base spare held n t cs = some x) :
    cs.length = Try.prog.cellsOf t ∧ ∃ m, ∀ (j : Nat) (f : Field), fs[j]? = some f → ∃ y, DataW.trod enc Try.prog w base spare held m f.type ((cs.drop f.offset).take (Try.prog.cellsOf f.type)) = some y := by
  obtain ⟨xs, m, _, _, hl, hlen, hf⟩ := DataW.trod_struct ht h
  refine ⟨hl, m, fun j f hj => ?_⟩
  have hjl : j < xs.length := by rw [hlen]; exact (Array.getElem?_eq_some_iff.1 hj).1
  exact ⟨xs[j], (hf j f hj).trans (List.getElem?_eq_getElem hjl)⟩
theorem fld {fs : Array Field} {m : Nat} {cs : List Value} (hf : ∀ (j : Nat) (f : Field), fs[j]? = some f → ∃ y, DataW.trod enc Try.prog w base spare held m f.type ((cs.drop f.offset).take (Try.prog.cellsOf f.type)) = some y)
    (j : Nat) (t : TypeId) (o k : Nat) (part : List Value) (hj : (fs[j]?).map (fun f => (f.type, f.offset)) = some (t, o)) (hk : Try.prog.cellsOf t = k) (hp : (cs.drop o).take k = part) : ∃ y, DataW.trod enc Try.prog w base spare held m t part = some y := by
  rcases h : fs[j]? with _ | f
  · rw [h] at hj; simp at hj
  · rw [h] at hj
    simp at hj
    obtain ⟨y, hy⟩ := hf j f h
    rw [hj.1, hj.2, hk, hp] at hy
    exact ⟨y, hy⟩
set_option maxRecDepth 100000 in
theorem dec_head {n : Nat} {cs : List Value} {x : DataW H × List MemPlace} (h : DataW.trod enc Try.prog w base spare held n 34 cs = some x) : ∃ d : Hd, cs = d.cells ∧ True := by
  obtain ⟨hl, m, hf⟩ := dec_fields Try.underlying34 h
  rw [cofHead] at hl
  match cs, hl with
  | [c0, c1, c2, c3, c4, c5, c6], _ =>
    obtain ⟨_, t0⟩ := fld hf 0 3 0 1 [c0] (by kernel_rfl) cofInt rfl
    obtain ⟨_, t1⟩ := fld hf 1 3 1 1 [c1] (by kernel_rfl) cofInt rfl
    obtain ⟨_, t2⟩ := fld hf 2 3 2 1 [c2] (by kernel_rfl) cofInt rfl
    obtain ⟨_, t3⟩ := fld hf 3 3 3 1 [c3] (by kernel_rfl) cofInt rfl
    obtain ⟨_, t4⟩ := fld hf 4 3 4 1 [c4] (by kernel_rfl) cofInt rfl
    obtain ⟨_, t5⟩ := fld hf 5 3 5 1 [c5] (by kernel_rfl) cofInt rfl
    obtain ⟨_, t6⟩ := fld hf 6 3 6 1 [c6] (by kernel_rfl) cofInt rfl
    obtain ⟨z0, rfl⟩ := tint t0
    obtain ⟨z1, rfl⟩ := tint t1
    obtain ⟨z2, rfl⟩ := tint t2
    obtain ⟨z3, rfl⟩ := tint t3
    obtain ⟨z4, rfl⟩ := tint t4
    obtain ⟨z5, rfl⟩ := tint t5
    obtain ⟨z6, rfl⟩ := tint t6
    exact ⟨⟨z0, z1, z2, z3, z4, z5, z6⟩, rfl, trivial⟩
end

end Go.Proofs.Ytpnbibokddhheaa

/-
  What all frames ask.
-/
namespace Go.Proofs.Ytpnbibokddhheaa
open Go.ChangeShapes Go.WideShapes Go.RowKit Go.Deep Go.Joins

theorem own : ownKnob Try.prog.godebug = none := by kernel_rfl
theorem laidOut : laidOutB Try.prog = true := by kernel_rfl
theorem u8_nat {b : Int} (h : (Lit.int .u8 b).wf = true) : ∃ a : Nat, b = (a : Int) ∧ a ≤ 255 := by
  have hmin : IntKind.u8.min = 0 := rfl
  have hmax : IntKind.u8.max = 255 := rfl
  simp only [Lit.wf, Bool.and_eq_true, decide_eq_true_eq] at h
  exact ⟨b.toNat, by omega, by omega⟩
end Go.Proofs.Ytpnbibokddhheaa

/-
  Descriptions, and their links: as Lean values, and opened from what was handed in.
-/
namespace Go.Proofs.Ytpnbibokddhheaa
open Go.ChangeShapes Go.WideShapes Go.RowKit Go.Deep Go.Joins

def iwf (z : Int) : Prop := (Lit.int .i64 z).wf = true
structure Lnk where
  kind : Int
  id : Int
  data : Int
  cost : Int
deriving DecidableEq
instance : Inhabited Lnk := ⟨⟨0, 0, 0, 0⟩⟩
def Lnk.cells (x : Lnk) : List Value := [.int .i64 x.kind, .int .i64 x.id, .int .i64 x.data, .int .i64 x.cost]
def Lnk.wf (x : Lnk) : Prop := iwf x.kind ∧ iwf x.id ∧ iwf x.data ∧ iwf x.cost
def Hd.wf (h : Hd) : Prop := iwf h.age ∧ iwf h.kind ∧ iwf h.id ∧ iwf h.adv ∧ iwf h.seq ∧ iwf h.sum ∧ iwf h.long
structure Lsa where
  head : Hd
  ka : Option Addr
  kcap : Nat
  links : List Lnk
  ma : Option Addr
  mcap : Nat
  members : List Int
instance : Inhabited Lsa := ⟨⟨⟨0, 0, 0, 0, 0, 0, 0⟩, none, 0, [], none, 0, []⟩⟩
def Lsa.cells (x : Lsa) : List Value := [.int .i64 x.head.age, .int .i64 x.head.kind, .int .i64 x.head.id, .int .i64 x.head.adv, .int .i64 x.head.seq, .int .i64 x.head.sum, .int .i64 x.head.long, .slice x.ka x.links.length x.kcap, .slice x.ma x.members.length x.mcap]
structure Lsa.ok (w : World) (B : Nat) (x : Lsa) : Prop where
  head : x.head.wf
  links : RowsAt 4 Lnk.cells w B x.ka x.links
  linksWf : ∀ y ∈ x.links, y.wf
  members : RowsAt 1 icell w B x.ma x.members
  membersWf : ∀ y ∈ x.members, iwf y
  linksLen : x.links.length ≤ maxLen
  membersLen : x.members.length ≤ maxLen
structure LsasAt (w : World) (B : Nat) (A : Option Addr) (l : List Lsa) : Prop where
  rows : RowsAt 9 Lsa.cells w B A l
  each : ∀ x ∈ l, x.ok w B
section
variable {w w' : World} {B B' : Nat} {A : Option Addr}
theorem Lsa.ok.below {x : Lsa} (h : x.ok w B) (hb : Below B w w') : x.ok w' B := ⟨h.head, h.links.below hb, h.linksWf, h.members.below hb, h.membersWf, h.linksLen, h.membersLen⟩
theorem Lsa.ok.more {x : Lsa} (h : x.ok w B) (hB : B ≤ B') : x.ok w B' := ⟨h.head, h.links.more hB, h.linksWf, h.members.more hB, h.membersWf, h.linksLen, h.membersLen⟩
theorem LsasAt.below {l : List Lsa} (h : LsasAt w B A l) (hb : Below B w w') : LsasAt w' B A l := ⟨h.rows.below hb, fun x hx => (h.each x hx).below hb⟩
theorem LsasAt.more {l : List Lsa} (h : LsasAt w B A l) (hB : B ≤ B') : LsasAt w B' A l := ⟨h.rows.more hB, fun x hx => (h.each x hx).more hB⟩
end
section
variable {H : Type} {enc : TypeId × Value → H} {w : World} {base : Nat} {spare : Nat → Bool} {held : Bool}
theorem tintw {n : Nat} {v : Value} {y : DataW H × List MemPlace} (h : DataW.trod enc Try.prog w base spare held n 3 [v] = some y) : ∃ z : Int, v = .int .i64 z ∧ iwf z := dec_int Try.underlying3 h
theorem cofLink : Try.prog.cellsOf 127 = 4 := by kernel_rfl
theorem cofLsa : Try.prog.cellsOf 38 = 9 := by kernel_rfl
theorem cofInts : Try.prog.cellsOf 36 = 1 := by kernel_rfl
theorem cofLinks : Try.prog.cellsOf 35 = 1 := by kernel_rfl
set_option maxRecDepth 100000 in
theorem dec_icell {n : Nat} {cs : List Value} {x : DataW H × List MemPlace} (h : DataW.trod enc Try.prog w base spare held n 3 cs = some x) : ∃ d : Int, cs = icell d ∧ iwf d := by
  obtain ⟨z, e, _, hw⟩ := DataW.trod_int Try.underlying3 h
  exact ⟨z, e, hw⟩
set_option maxRecDepth 100000 in
theorem dec_headw {n : Nat} {cs : List Value} {x : DataW H × List MemPlace} (h : DataW.trod enc Try.prog w base spare held n 34 cs = some x) : ∃ d : Hd, cs = d.cells ∧ d.wf := by
  obtain ⟨hl, m, hf⟩ := dec_fields Try.underlying34 h
  rw [cofHead] at hl
  match cs, hl with
  | [c0, c1, c2, c3, c4, c5, c6], _ =>
    obtain ⟨_, t0⟩ := fld hf 0 3 0 1 [c0] (by kernel_rfl) cofInt rfl
    obtain ⟨_, t1⟩ := fld hf 1 3 1 1 [c1] (by kernel_rfl) cofInt rfl
    obtain ⟨_, t2⟩ := fld hf 2 3 2 1 [c2] (by kernel_rfl) cofInt rfl
    obtain ⟨_, t3⟩ := fld hf 3 3 3 1 [c3] (by kernel_rfl) cofInt rfl
    obtain ⟨_, t4⟩ := fld hf 4 3 4 1 [c4] (by kernel_rfl) cofInt rfl
    obtain ⟨_, t5⟩ := fld hf 5 3 5 1 [c5] (by kernel_rfl) cofInt rfl
    obtain ⟨_, t6⟩ := fld hf 6 3 6 1 [c6] (by kernel_rfl) cofInt rfl
    obtain ⟨z0, rfl, w0⟩ := tintw t0
    obtain ⟨z1, rfl, w1⟩ := tintw t1
    obtain ⟨z2, rfl, w2⟩ := tintw t2
    obtain ⟨z3, rfl, w3⟩ := tintw t3
    obtain ⟨z4, rfl, w4⟩ := tintw t4
    obtain ⟨z5, rfl, w5⟩ := tintw t5
    obtain ⟨z6, rfl, w6⟩ := tintw t6
    exact ⟨⟨z0, z1, z2, z3, z4, z5, z6⟩, rfl, w0, w1, w2, w3, w4, w5, w6⟩
set_option maxRecDepth 100000 in
theorem dec_link {n : Nat} {cs : List Value} {x : DataW H × List MemPlace} (h : DataW.trod enc Try.prog w base spare held n 127 cs = some x) : ∃ d : Lnk, cs = d.cells ∧ d.wf := by
  obtain ⟨hl, m, hf⟩ := dec_fields Try.underlying127 h
  rw [cofLink] at hl
  match cs, hl with
  | [c0, c1, c2, c3], _ =>
    obtain ⟨_, t0⟩ := fld hf 0 3 0 1 [c0] (by kernel_rfl) cofInt rfl
    obtain ⟨_, t1⟩ := fld hf 1 3 1 1 [c1] (by kernel_rfl) cofInt rfl
    obtain ⟨_, t2⟩ := fld hf 2 3 2 1 [c2] (by kernel_rfl) cofInt rfl
    obtain ⟨_, t3⟩ := fld hf 3 3 3 1 [c3] (by kernel_rfl) cofInt rfl
    obtain ⟨z0, rfl, w0⟩ := tintw t0
    obtain ⟨z1, rfl, w1⟩ := tintw t1
    obtain ⟨z2, rfl, w2⟩ := tintw t2
    obtain ⟨z3, rfl, w3⟩ := tintw t3
    exact ⟨⟨z0, z1, z2, z3⟩, rfl, w0, w1, w2, w3⟩
set_option maxRecDepth 100000 in
theorem dec_lsa {n : Nat} {cs : List Value} {x : DataW H × List MemPlace} (h : DataW.trod enc Try.prog w base spare held n 38 cs = some x) : ∃ d : Lsa, cs = d.cells ∧ d.ok w w.heap.size := by
  obtain ⟨hl, m, hf⟩ := dec_fields Try.underlying38 h
  rw [cofLsa] at hl
  match cs, hl with
  | [c0, c1, c2, c3, c4, c5, c6, c7, c8], _ =>
    obtain ⟨_, t0⟩ := fld hf 0 34 0 7 [c0, c1, c2, c3, c4, c5, c6] (by kernel_rfl) cofHead rfl
    obtain ⟨_, t1⟩ := fld hf 1 35 7 1 [c7] (by kernel_rfl) cofLinks rfl
    obtain ⟨_, t2⟩ := fld hf 2 36 8 1 [c8] (by kernel_rfl) cofInts rfl
    obtain ⟨d, hd, hw⟩ := dec_headw t0
    obtain ⟨ka, kcap, kl, hk, hkr, hkm, hkw⟩ := open_rows (C := 4) Lnk.cells Lnk.wf (by decide) Try.underlying35 cofLink (fun _ _ _ h => dec_link h) t1
    obtain ⟨ma, mcap, ml, hm, hmr, hmm, hmw⟩ := open_rows (C := 1) icell iwf (by decide) Try.underlying36 cofInt (fun _ _ _ h => dec_icell h) t2
    refine ⟨⟨d, ka, kcap, kl, ma, mcap, ml⟩, ?_, hw, hkr, hkw, hmr, hmw, hkm, hmm⟩
    rcases d with ⟨d0, d1, d2, d3, d4, d5, d6⟩
    simp [Hd.cells] at hd
    simp at hk hm
    simp [Lsa.cells, hd, hk, hm]
theorem open_lsas {a : Option Addr} {len cap : Nat} {d : DataW H} {p : List MemPlace} (h : DataW.Trod enc Try.prog w base spare held 22 (.slice a len cap) d p) :
    ∃ l : List Lsa, len = l.length ∧ LsasAt w w.heap.size a l ∧ l.length ≤ maxLen := by
  obtain ⟨n, hn⟩ := h
  obtain ⟨A, c, R, he, hr, hm, hok⟩ := open_rows (C := 9) Lsa.cells (Lsa.ok w w.heap.size) (by decide) Try.underlying22 cofLsa (fun _ _ _ h => dec_lsa h) hn
  simp [Value.cells] at he
  obtain ⟨rfl, rfl, rfl⟩ := he
  exact ⟨R, rfl, ⟨hr, hok⟩, hm⟩
end

end Go.Proofs.Ytpnbibokddhheaa
