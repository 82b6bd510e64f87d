/-
  FloodLan: the hall in memory.
-/
import Derived.Test.YtfhikkmgclkcdaaFlSend
namespace Go.Proofs.Ytfhikkmgclkcdaa
open Go.RowKit

abbrev Frm := Int × Int
def frmCells (f : Frm) : List Value := [.int .i64 f.1, .int .i64 f.2]
abbrev OwnF := OwnR 35 2 frmCells
theorem infoFrm : (Try.prog.info? 35).map (fun i => (i.zero, i.size, i.bytes)) = some (some (.agg #[.int .i64 0, .int .i64 0]), 2, 16) := by kernel_rfl
theorem frm_ones (x : Frm) : ∀ u ∈ frmCells x, u.oneCell' = true := by
  intro u hu
  simp [frmCells] at hu
  rcases hu with rfl | rfl <;> rfl
/-- What stays when the hall's own blocks alone turn: the hall's, and the row of its frames. -/
structure HallKept (gh : Nat) (fv : Value) (w w' : World) : Prop where
  os : w'.os = w.os
  tape : w'.tape = w.tape
  output : w'.output = w.output
  size : w.heap.size ≤ w'.heap.size
  block : ∀ k, k < w.heap.size → k ≠ gh → some k ≠ fv.ownBlock → w'.heap[k]? = w.heap[k]?
theorem HallKept.of_below {gh : Nat} {fv : Value} {w w' : World} (h : Below w.heap.size w w') : HallKept gh fv w w' := ⟨h.os, h.tape, h.output, h.size, fun k hk _ _ => h.block k hk⟩
theorem HallKept.below {gh B : Nat} {fv : Value} {w w' : World} (h : HallKept gh fv w w') (hB : B ≤ w.heap.size) (hg : B ≤ gh) (hf : ∀ k, fv.ownBlock = some k → B ≤ k) : Below B w w' :=
  ⟨h.os, h.tape, h.output, h.size, fun k hk => h.block k (by omega) (by omega) (fun e => by have := hf k e.symm; omega)⟩
theorem HallKept.blk {gh g : Nat} {fv : Value} {w w' : World} {t : TypeId} {cs : Array Value} (h : HallKept gh fv w w') (hb : Blk w g t cs) (h1 : g ≠ gh) (h2 : some g ≠ fv.ownBlock) : Blk w' g t cs := (h.block g hb.lt h1 h2).trans hb
/-- The hall: what goes round, the members, the two, the frames. -/
structure HallAt (w : World) (gh Bf : Nat) (x : Hd) (A : Option Addr) (n cap : Nat) (dr bdr : Int) (fv : Value) (F : List Frm) : Prop where
  blk : Blk w gh 31 #[.int .i64 x.age, .int .i64 x.kind, .int .i64 x.id, .int .i64 x.adv, .int .i64 x.seq, .int .i64 x.sum, .int .i64 x.long, .slice A n cap, .int .i64 dr, .int .i64 bdr, fv]
  own : OwnF w Bf fv F
  apart : fv.ownBlock ≠ some gh
theorem HallAt.below {w w' : World} {gh Bf : Nat} {x : Hd} {A : Option Addr} {n cap : Nat} {dr bdr : Int} {fv : Value} {F : List Frm} (h : HallAt w gh Bf x A n cap dr bdr fv F) (hb : Below w.heap.size w w') : HallAt w' gh Bf x A n cap dr bdr fv F :=
  ⟨h.blk.below hb h.blk.lt, h.own.below hb, h.apart⟩

end Go.Proofs.Ytfhikkmgclkcdaa
