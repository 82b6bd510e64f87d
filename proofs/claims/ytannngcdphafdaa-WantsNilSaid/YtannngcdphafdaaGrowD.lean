/-
  Worlds that are a first one but for draws and new blocks: regions that draw their order walk in that class.
-/
import Derived.Sort.Grow
import Derived.Test.YtannngcdphafdaaCmpTail
namespace Go.Proofs.Ytannngcdphafdaa
open Go.RowKit Go.Sort

structure GD where
  q : Nat
  os : Array Obj
instance : Nonempty GD := ⟨⟨0, #[]⟩⟩
theorem gd_gd (w : World) (q q' : Nat) (os os' : Array Obj) : grow ((grow (w.drewN q) os).drewN q') os' = grow (w.drewN (q + q')) (os ++ os') := by
  simp [grow, World.drewN, Nat.add_assoc]
theorem gd_drew (w : World) (q : Nat) (os : Array Obj) : (grow (w.drewN q) os).drew = grow (w.drewN (q + 1)) os := rfl
theorem gd_alloc (w : World) (q : Nat) (os : Array Obj) (o : Obj) : (grow (w.drewN q) os).alloc o = grow (w.drewN q) (os.push o) := by
  rw [alloc_eq_grow, grow_grow]; rfl
theorem gd_zero (w : World) : w = grow (w.drewN 0) #[] := by simp [World.drewN]
theorem cell_gd {w : World} {p : Addr} {v : Value} (h : w.cell? p = some v) : ∀ q os, (grow (w.drewN q) os).cell? p = some v := fun q os => by
  have hb := World.block_lt_of_cell? w _ h
  rw [cell?_grow (w.drewN q) os p (by exact hb)]
  exact h
theorem below_gd (w : World) (q : Nat) (os : Array Obj) : Below w.heap.size w (grow (w.drewN q) os) :=
  ⟨rfl, rfl, rfl, by simp [grow, World.drewN], fun k hk => by rw [heap_grow_old _ _ (by exact hk)]; rfl⟩
/-- A contract whose world is known but for draws and new blocks, from any world of the class. -/
theorem gd_of {f : FuncId} {args : Array Value} {w : World} {q : Nat} {os : Array Obj} {R : Ending → Prop} (h : Calls Try.prog f args (grow (w.drewN q) os) fun r w' => R r ∧ ∃ q' os', w' = grow ((grow (w.drewN q) os).drewN q') os') :
    Calls Try.prog f args (grow (w.drewN q) os) fun r w' => R r ∧ ∃ p : GD, w' = grow (w.drewN p.q) p.os :=
  h.mono fun r w' ⟨h1, q', os', h2⟩ => ⟨h1, ⟨q + q', os ++ os'⟩, by rw [h2, gd_gd]⟩
theorem wp_gd_tail {P : Program} {id : Nat} {Q : Exit → Act → World → Prop} {a : Act} {w : World} {l : List Oper} (n : Nat) (hm : P.follows .mixedOrders = true) (hB : Region.lexTailB .any l.toArray n = true)
    (h : wpQuiet P l.toArray (fun w' => ∃ p : GD, w' = grow (w.drewN p.q) p.os) (fun a' => ∀ w', (∃ p : GD, w' = grow (w.drewN p.q) p.os) → wpList P l.toArray Q (l.drop n) a' w') (l.take n) a) : (Code.region id l.toArray true).wp P Q a w :=
  wp_quiet_tail (C := fun w' => ∃ p : GD, w' = grow (w.drewN p.q) p.os) n hm hB ⟨⟨1, #[]⟩, by rw [grow_empty]; rfl⟩ h

end Go.Proofs.Ytannngcdphafdaa
