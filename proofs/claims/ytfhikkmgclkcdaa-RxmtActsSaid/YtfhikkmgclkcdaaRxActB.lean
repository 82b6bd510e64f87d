/-
  Layer 16: the program's list and the document's, beside a local act and a local key.
-/
import Derived.Test.YtfhikkmgclkcdaaRfDrop
namespace Go.Proofs.Ytfhikkmgclkcdaa
open Go.RowKit

structure ActV where
  kind : Int
  lan : Int
  id : Int
  ka : Option Addr
  kcap : Nat
  keys : List K3
instance : Inhabited ActV := ⟨⟨0, 0, 0, none, 0, []⟩⟩
def ActV.cells (x : ActV) : List Value := [.int .i64 x.kind, .int .i64 x.lan, .int .i64 x.id, .slice x.ka x.keys.length x.kcap]
structure ActsAt (w : World) (B : Nat) (A : Option Addr) (l : List ActV) : Prop where
  rows : RowsAt 4 ActV.cells w B A l
  each : ∀ x ∈ l, RowsAt 3 K3.cells w B x.ka x.keys ∧ x.keys.length ≤ maxLen
theorem ActsAt.below {w w' : World} {B : Nat} {A : Option Addr} {l : List ActV} (h : ActsAt w B A l) (hb : Below B w w') : ActsAt w' B A l := ⟨h.rows.below hb, fun x hx => ⟨(h.each x hx).1.below hb, (h.each x hx).2⟩⟩
theorem row_act {w : World} {B : Nat} {A : Option Addr} {l : List ActV} (h : RowsAt 4 ActV.cells w B A l) (k : Nat) (hk : k < l.length) :
    ∃ b o, A = some ⟨b, o, none⟩ ∧ w.cell? ⟨b, o + k * 4, none⟩ = some (.int .i64 l[k].kind) ∧ w.cell? ⟨b, o + k * 4 + 1, none⟩ = some (.int .i64 l[k].lan) ∧ w.cell? ⟨b, o + k * 4 + 2, none⟩ = some (.int .i64 l[k].id) ∧ w.cell? ⟨b, o + k * 4 + 3, none⟩ = some (.slice l[k].ka l[k].keys.length l[k].kcap) := by
  obtain ⟨b, o, e, _, hc⟩ := h (by omega)
  exact ⟨b, o, e, by simpa using hc k hk 0 _ (by omega) rfl, hc k hk 1 _ (by omega) rfl, hc k hk 2 _ (by omega) rfl, hc k hk 3 _ (by omega) rfl⟩

/-- the two lists -/
structure Pair (w wr : World) (p b q : Nat) (v : Value) (R S : List E5) : Prop where
  rx : RxAt wr p b R
  rf : RfAt wr q v S
  bel : Below w.heap.size w wr
  ord : w.heap.size ≤ b ∧ b < p ∧ p < q
section
variable {w wr wr' : World} {p b q : Nat} {v u : Value} {R R' S S' : List E5}
theorem Pair.keep (h : Pair w wr p b q v R S) (hb : Below wr.heap.size wr wr') : Pair w wr' p b q v R S := ⟨h.rx.keep hb, h.rf.keep hb, h.bel.trans (hb.mono h.bel.size), h.ord⟩
theorem Pair.r (h : Pair w wr p b q v R S) (hR : RxAt wr' p b R') (hg : wr.grownBy wr' (some b)) : Pair w wr' p b q v R' S := by
  have ho := h.ord
  refine ⟨hR, ⟨h.rf.ptr.grown hg (fun e => by injection e with e; omega), h.rf.own.kept hg (.inr fun e => ?_)⟩, h.bel.grown hg h.bel.size (fun k hk => by injection hk with hk; omega), ho⟩
  have := (h.rf.own.block b e).1
  omega
theorem Pair.x {row : Option Nat} (h : Pair w wr p b q v R S) (hS : RfAt wr' q u S') (hk : Kept2 wr wr' q row) (hrow : ∀ g, row = some g → v.ownBlock = some g) : Pair w wr' p b q u R S' := by
  have ho := h.ord
  have hs := h.bel.size
  have hlp := h.rx.ptr.lt
  have hlb := h.rx.map.lt
  have hne : ∀ i, i < q → some i ≠ row := fun i hi e => by
    have := (h.rf.own.block i (hrow i e.symm)).1
    omega
  refine ⟨⟨(hk.block p hlp (by omega) (hne p (by omega))).trans h.rx.ptr, h.rx.map.same (hk.block b hlb (by omega) (hne b (by omega)))⟩, hS, h.bel.trans ⟨hk.os, hk.tape, hk.output, by have := hk.size; omega, fun i hi => hk.block i (by omega) (by omega) (hne i (by omega))⟩, ho⟩
end

/-- .. and the act, the key -/
structure Bun (w wr : World) (p b q : Nat) (v : Value) (R S : List E5) (ga gk : Nat) (x : ActV) (k : K3) : Prop where
  pr : Pair w wr p b q v R S
  ba : Blk wr ga 101 #[.int .i64 x.kind, .int .i64 x.lan, .int .i64 x.id, .slice x.ka x.keys.length x.kcap]
  bk : Blk wr gk 61 #[.int .i64 k.kind, .int .i64 k.id, .int .i64 k.adv]
  ord : q < ga ∧ q < gk
  ng : v.ownBlock ≠ some ga ∧ v.ownBlock ≠ some gk
def AK (W : World) (ga gk : Nat) (x : ActV) (k : K3) : Prop := (W.cell? ⟨ga, 1, none⟩ = some (.int .i64 x.lan) ∧ W.cell? ⟨ga, 2, none⟩ = some (.int .i64 x.id) ∧ W.cell? ⟨ga, 3, none⟩ = some (.slice x.ka x.keys.length x.kcap)) ∧
  W.cell? ⟨gk, 0, none⟩ = some (.int .i64 k.kind) ∧ W.cell? ⟨gk, 1, none⟩ = some (.int .i64 k.id) ∧ W.cell? ⟨gk, 2, none⟩ = some (.int .i64 k.adv)
section
variable {w wr wr' : World} {p b q ga gk : Nat} {v u : Value} {R R' S S' : List E5} {x : ActV} {k : K3}
theorem Bun.keep (h : Bun w wr p b q v R S ga gk x k) (hb : Below wr.heap.size wr wr') : Bun w wr' p b q v R S ga gk x k := ⟨h.pr.keep hb, h.ba.below hb h.ba.lt, h.bk.below hb h.bk.lt, h.ord, h.ng⟩
theorem Bun.ak (h : Bun w wr p b q v R S ga gk x k) : AK wr ga gk x k := ⟨⟨h.ba.cell 1, h.ba.cell 2, h.ba.cell 3⟩, h.bk.cell 0, h.bk.cell 1, h.bk.cell 2⟩
theorem Bun.r (h : Bun w wr p b q v R S ga gk x k) (hR : RxAt wr' p b R') (hg : wr.grownBy wr' (some b)) : Bun w wr' p b q v R' S ga gk x k := by
  have ho := h.pr.ord
  have h2 := h.ord
  exact ⟨h.pr.r hR hg, h.ba.grown hg (fun e => by injection e with e; omega), h.bk.grown hg (fun e => by injection e with e; omega), h2, h.ng⟩
theorem Bun.xx {row : Option Nat} (h : Bun w wr p b q v R S ga gk x k) (hS : RfAt wr' q u S') (hk : Kept2 wr wr' q row) (hrow : ∀ g, row = some g → v.ownBlock = some g) (hu : ∀ g, u.ownBlock = some g → v.ownBlock = some g ∨ wr.heap.size ≤ g) : Bun w wr' p b q u R S' ga gk x k := by
  have h2 := h.ord
  have hla := h.ba.lt
  have hlk := h.bk.lt
  refine ⟨h.pr.x hS hk hrow, (hk.block ga hla (by omega) (fun e => h.ng.1 (hrow ga e.symm))).trans h.ba, (hk.block gk hlk (by omega) (fun e => h.ng.2 (hrow gk e.symm))).trans h.bk, h2, fun e => ?_, fun e => ?_⟩
  · rcases hu ga e with e | e
    · exact h.ng.1 e
    · omega
  · rcases hu gk e with e | e
    · exact h.ng.2 e
    · omega

theorem bPut_r (h : Bun w wr p b q v R S ga gk x k) (hx : RowsAt 3 K3.cells w w.heap.size x.ka x.keys) (hl : R.length + x.keys.length ≤ 2 ^ 20) :
    Calls Try.prog 43 #[.pointer (some ⟨p, 0, none⟩), .int .i64 x.lan, .int .i64 x.id, .slice x.ka x.keys.length x.kcap] wr fun r w' => r = .returned (.int .i64 (listK (addAll R x.lan x.id x.keys) x.lan x.id).length) ∧ Bun w w' p b q v (addAll R x.lan x.id x.keys) S ga gk x k :=
  (Put_of sortsK p b R x.lan x.id x.ka x.kcap x.keys wr h.pr.rx w.heap.size (fun W hg => hx.below (h.pr.bel.grown hg h.pr.bel.size (fun k hk => by injection hk with hk; have := h.pr.ord; omega))) hl _ rfl).mono fun r w' ⟨h1, h2, h3⟩ => ⟨h1, h.r h2 h3⟩
theorem bPut_x (h : Bun w wr p b q v R S ga gk x k) (hx : RowsAt 3 K3.cells w w.heap.size x.ka x.keys) (hl : S.length + x.keys.length ≤ 2 ^ 20) :
    Calls Try.prog 51 #[.pointer (some ⟨q, 0, none⟩), .int .i64 x.lan, .int .i64 x.id, .slice x.ka x.keys.length x.kcap] wr fun r w' => r = .returned (.int .i64 (listK (addAll S x.lan x.id x.keys) x.lan x.id).length) ∧ ∃ u, Bun w w' p b q u R (addAll S x.lan x.id x.keys) ga gk x k := by
  refine (refPut_any q v S x.lan x.id x.ka x.kcap x.keys wr h.pr.rf w.heap.size (hx.below h.pr.bel) h.pr.bel.size (fun h0 g o e => ?_) hl _ rfl).mono fun r w' ⟨u, h1, h2, h3, h4⟩ => ⟨h1, u, h.xx h2 h3 (fun g e => e) h4⟩
  have ho := h.pr.ord
  obtain ⟨g', o', e', hlt, _⟩ := hx h0
  rw [e] at e'
  injection e' with e'
  injection e' with e1 e2
  refine ⟨by omega, fun e3 => ?_⟩
  have := (h.pr.rf.own.block g e3.symm).1
  omega
theorem bAck_r (h : Bun w wr p b q v R S ga gk x k) :
    Calls Try.prog 45 #[.pointer (some ⟨p, 0, none⟩), .int .i64 x.lan, .int .i64 x.id, .agg #[.int .i64 k.kind, .int .i64 k.id, .int .i64 k.adv]] wr fun r w' => r = .returned (.bool (onB16 R ⟨x.lan, x.id, k⟩)) ∧ Bun w w' p b q v (R.filter fun y => decide (y ≠ ⟨x.lan, x.id, k⟩)) S ga gk x k :=
  (Ack_any p b R x.lan x.id k.kind k.id k.adv wr h.pr.rx).mono fun _r _w' ⟨h1, h2, h3⟩ => ⟨h1, h.r h2 h3⟩
theorem bAck_x (h : Bun w wr p b q v R S ga gk x k) (hn : S.Nodup) (hl : S.length ≤ 2 ^ 20) :
    Calls Try.prog 52 #[.pointer (some ⟨q, 0, none⟩), .int .i64 x.lan, .int .i64 x.id, .agg #[.int .i64 k.kind, .int .i64 k.id, .int .i64 k.adv]] wr fun r w' => r = .returned (.bool (onB16 S ⟨x.lan, x.id, k⟩)) ∧ ∃ u, Bun w w' p b q u R (S.filter fun y => decide (y ≠ ⟨x.lan, x.id, k⟩)) ga gk x k :=
  (refAck_any q v S x.lan x.id k.kind k.id k.adv wr h.pr.rf hn hl).mono fun r w' ⟨u, h1, h2, h3, h4⟩ => ⟨h1, u, h.xx h2 h3 (fun g e => by cases e) (fun g e => .inr (h4 g e))⟩
theorem bForget_r (h : Bun w wr p b q v R S ga gk x k) (hl : R.length ≤ 2 ^ 20) :
    Calls Try.prog 49 #[.pointer (some ⟨p, 0, none⟩), .int .i64 x.lan, .int .i64 x.id] wr fun r w' => r = .returned (.int .i64 (R.filter (hereB x.lan x.id)).length) ∧ Bun w w' p b q v (R.filter fun y => !hereB x.lan x.id y) S ga gk x k :=
  (Forget_of p b R x.lan x.id wr h.pr.rx hl).mono fun _r _w' ⟨h1, h2, h3⟩ => ⟨h1, h.r h2 h3⟩
theorem bForget_x (h : Bun w wr p b q v R S ga gk x k) (hl : S.length ≤ 2 ^ 20) :
    Calls Try.prog 53 #[.pointer (some ⟨q, 0, none⟩), .int .i64 x.lan, .int .i64 x.id] wr fun r w' => r = .returned (.int .i64 (S.filter (hereB x.lan x.id)).length) ∧ ∃ u, Bun w w' p b q u R (S.filter fun y => !hereB x.lan x.id y) ga gk x k :=
  (refForget_any q v S x.lan x.id wr h.pr.rf hl).mono fun r w' ⟨u, h1, h2, h3, h4⟩ => ⟨h1, u, h.xx h2 h3 (fun g e => by cases e) (fun g e => .inr (h4 g e))⟩
theorem bDrop_r (h : Bun w wr p b q v R S ga gk x k) (hl : R.length ≤ 2 ^ 20) :
    Calls Try.prog 50 #[.pointer (some ⟨p, 0, none⟩), .agg #[.int .i64 k.kind, .int .i64 k.id, .int .i64 k.adv]] wr fun r w' => r = .returned (.int .i64 (R.filter (dropB k)).length) ∧ Bun w w' p b q v (R.filter fun y => !dropB k y) S ga gk x k :=
  (Drop_of p b R k.kind k.id k.adv wr h.pr.rx hl).mono fun _r _w' ⟨h1, h2, h3⟩ => ⟨h1, h.r h2 h3⟩
theorem bDrop_x (h : Bun w wr p b q v R S ga gk x k) (hl : S.length ≤ 2 ^ 20) :
    Calls Try.prog 54 #[.pointer (some ⟨q, 0, none⟩), .agg #[.int .i64 k.kind, .int .i64 k.id, .int .i64 k.adv]] wr fun r w' => r = .returned (.int .i64 (S.filter (dropB k)).length) ∧ ∃ u, Bun w w' p b q u R (S.filter fun y => !dropB k y) ga gk x k :=
  (refDrop_any q v S k.kind k.id k.adv wr h.pr.rf hl).mono fun r w' ⟨u, h1, h2, h3, h4⟩ => ⟨h1, u, h.xx h2 h3 (fun g e => by cases e) (fun g e => .inr (h4 g e))⟩
end

end Go.Proofs.Ytfhikkmgclkcdaa
