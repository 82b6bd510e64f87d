/-
  Two elements of a row of heads change places: all that a walk wants of it.
-/
import Derived.Test.YtpnbibokddhheaaStbSwap
namespace Go.Proofs.Ytpnbibokddhheaa
open Go.RowKit Go.Sort Go.Shelf

def C7 (w : World) (b q : Nat) (x : Hd) : Prop := w.cell? ⟨b, q, none⟩ = some (.int .i64 x.age) ∧ w.cell? ⟨b, q + 1, none⟩ = some (.int .i64 x.kind) ∧ w.cell? ⟨b, q + 2, none⟩ = some (.int .i64 x.id) ∧ w.cell? ⟨b, q + 3, none⟩ = some (.int .i64 x.adv) ∧ w.cell? ⟨b, q + 4, none⟩ = some (.int .i64 x.seq) ∧ w.cell? ⟨b, q + 5, none⟩ = some (.int .i64 x.sum) ∧ w.cell? ⟨b, q + 6, none⟩ = some (.int .i64 x.long)
def F7 (w : World) (b q : Nat) : Prop := w.frozen? ⟨b, q, none⟩ = false ∧ w.frozen? ⟨b, q + 1, none⟩ = false ∧ w.frozen? ⟨b, q + 2, none⟩ = false ∧ w.frozen? ⟨b, q + 3, none⟩ = false ∧ w.frozen? ⟨b, q + 4, none⟩ = false ∧ w.frozen? ⟨b, q + 5, none⟩ = false ∧ w.frozen? ⟨b, q + 6, none⟩ = false
/-- seven cells written -/
def put7w (w : World) (b p : Nat) (y : Hd) : World := ((((((w.setCell ⟨b, p, none⟩ (.int .i64 y.age)).setCell ⟨b, p + 1, none⟩ (.int .i64 y.kind)).setCell ⟨b, p + 2, none⟩ (.int .i64 y.id)).setCell ⟨b, p + 3, none⟩ (.int .i64 y.adv)).setCell ⟨b, p + 4, none⟩ (.int .i64 y.seq)).setCell ⟨b, p + 5, none⟩ (.int .i64 y.sum)).setCell ⟨b, p + 6, none⟩ (.int .i64 y.long)
structure SwapF (w w5 : World) (b p q : Nat) (x y : Hd) : Prop where
  e5 : put7w w b p y = w5
  xd : C7 w.drew b p x
  yd : C7 w.drew b q y
  x0 : C7 w b p x
  y0 : C7 w b q y
  fp : F7 w b p
  fq : F7 w b q
  fpd : F7 w.drew b p
  fqd : F7 w.drew b q
  y5 : C7 w5 b q y
  y5d : C7 w5.drew b q y
  f5 : F7 w5 b q
  f5d : F7 w5.drew b q
theorem swap_facts {w0 w : World} {blk : Nat} {d0 dk : Array Hd} (h : SWK Hd.cells 7 w0 blk 0 dk w) (R : RowK Hd.cells 7 w0 blk 0 d0) (hs : dk.size = d0.size) (p q : Nat) (hp : p < dk.size) (hq : q < dk.size) (hpq : p ≠ q) {x y : Hd} (hx : dk[p]! = x) (hy : dk[q]! = y) :
    ∃ w5, SwapF w w5 blk (p * 7) (q * 7) x y ∧ SWK Hd.cells 7 w0 blk 0 (swp dk p q) (put7w w5 blk (q * 7) x).drew := by
  have hsw := h.swap R.hk R.hblk p q hp hq
  rw [hx, hy, Nat.zero_add, Nat.zero_add] at hsw
  have xd := swk_hd7 h.drew R hs p hp x hx
  have yd := swk_hd7 h.drew R hs q hq y hy
  have x0 := swk_hd7 h R hs p hp x hx
  have y0 := swk_hd7 h R hs q hq y hy
  have fp := swk_fz7 h R hs p hp
  have fq := swk_fz7 h R hs q hq
  have fpd := swk_fz7 h.drew R hs p hp
  have fqd := swk_fz7 h.drew R hs q hq
  have e5 : w.setCells blk (p * 7) y.cells = put7w w blk (p * 7) y := put7 _ _ _ _
  have e6 : (put7w w blk (p * 7) y).setCells blk (q * 7) x.cells = put7w (put7w w blk (p * 7) y) blk (q * 7) x := put7 _ _ _ _
  rw [e5, e6] at hsw
  have e7 := SWK.drew hsw
  obtain ⟨w5, h5⟩ : ∃ w5, put7w w blk (p * 7) y = w5 := ⟨_, rfl⟩
  rw [h5] at e7 e5
  have y5 := put_far e5 (by omega) y0
  have f5 := put_fz e5 fq
  exact ⟨w5, ⟨h5, xd, yd, x0, y0, fp, fq, fpd, fqd, y5, y5, f5, f5⟩, e7⟩
/-- seven cells that are read, in whatever world of the class -/
theorem swk_gd {w0 w : World} {blk : Nat} {d0 dk : Array Hd} (h : SWK Hd.cells 7 w0 blk 0 dk w) (R : RowK Hd.cells 7 w0 blk 0 d0) (hs : dk.size = d0.size) (p : Nat) (hp : p < dk.size) {x : Hd} (hx : dk[p]! = x) :
    (∀ n os, (grow (w.drewN n) os).cell? ⟨blk, p * 7, none⟩ = some (.int .i64 x.age)) ∧ (∀ n os, (grow (w.drewN n) os).cell? ⟨blk, p * 7 + 1, none⟩ = some (.int .i64 x.kind)) ∧ (∀ n os, (grow (w.drewN n) os).cell? ⟨blk, p * 7 + 2, none⟩ = some (.int .i64 x.id)) ∧ (∀ n os, (grow (w.drewN n) os).cell? ⟨blk, p * 7 + 3, none⟩ = some (.int .i64 x.adv)) ∧ (∀ n os, (grow (w.drewN n) os).cell? ⟨blk, p * 7 + 4, none⟩ = some (.int .i64 x.seq)) ∧ (∀ n os, (grow (w.drewN n) os).cell? ⟨blk, p * 7 + 5, none⟩ = some (.int .i64 x.sum)) ∧ (∀ n os, (grow (w.drewN n) os).cell? ⟨blk, p * 7 + 6, none⟩ = some (.int .i64 x.long)) :=
  ⟨fun n os => (swk_hd7 (h.grown n os) R hs p hp x hx).1, fun n os => (swk_hd7 (h.grown n os) R hs p hp x hx).2.1, fun n os => (swk_hd7 (h.grown n os) R hs p hp x hx).2.2.1, fun n os => (swk_hd7 (h.grown n os) R hs p hp x hx).2.2.2.1, fun n os => (swk_hd7 (h.grown n os) R hs p hp x hx).2.2.2.2.1, fun n os => (swk_hd7 (h.grown n os) R hs p hp x hx).2.2.2.2.2.1, fun n os => (swk_hd7 (h.grown n os) R hs p hp x hx).2.2.2.2.2.2⟩
theorem arr_some {d : Array Hd} {i : Nat} (h : i < d.size) {x : Hd} (hx : d[i]! = x) : d.toList[i]? = some x := by
  rw [Array.getElem?_toList, ← hx, getElem!_pos d i h]
  exact Array.getElem?_eq_getElem h

end Go.Proofs.Ytpnbibokddhheaa
