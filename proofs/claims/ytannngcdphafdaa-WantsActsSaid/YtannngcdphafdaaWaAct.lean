/-
  Layer 15: what is wanted, the program's and the document's, beside a local act.
-/
import Derived.Test.YtannngcdphafdaaWaSame
import Derived.Test.YtannngcdphafdaaWaWakes
namespace Go.Proofs.Ytannngcdphafdaa
open Go.RowKit Go.Sort

structure ActW where
  kind : Int
  ka : Option Addr
  kcap : Nat
  heads : List Hd
instance : Inhabited ActW := ⟨⟨0, none, 0, []⟩⟩
def ActW.cells (x : ActW) : List Value := [.int .i64 x.kind, .slice x.ka x.heads.length x.kcap]
structure ActsW (w : World) (B : Nat) (A : Option Addr) (l : List ActW) : Prop where
  rows : RowsAt 2 ActW.cells w B A l
  each : ∀ x ∈ l, RowsAt 7 Hd.cells w B x.ka x.heads ∧ x.heads.length ≤ maxLen
theorem ActsW.below {w w' : World} {B : Nat} {A : Option Addr} {l : List ActW} (h : ActsW w B A l) (hb : Below B w w') : ActsW w' B A l := ⟨h.rows.below hb, fun x hx => ⟨(h.each x hx).1.below hb, (h.each x hx).2⟩⟩
theorem row_actw {w : World} {B : Nat} {A : Option Addr} {l : List ActW} (h : RowsAt 2 ActW.cells w B A l) (k : Nat) (hk : k < l.length) :
    ∃ b o, A = some ⟨b, o, none⟩ ∧ w.cell? ⟨b, o + k * 2, none⟩ = some (.int .i64 l[k].kind) ∧ w.cell? ⟨b, o + k * 2 + 1, none⟩ = some (.slice l[k].ka l[k].heads.length l[k].kcap) := by
  obtain ⟨b, o, e, _, hc⟩ := h (by omega)
  exact ⟨b, o, e, by simpa using hc k hk 0 _ (by omega) rfl, hc k hk 1 _ (by omega) rfl⟩

/-- taken: the answer, what is left -/
def takeI (L : List Hd) (h : Hd) : Int := match getH (keyH h) L with
  | none => 6
  | some u => if 0 < newerI u h then 8 else 0
def takeH (L : List Hd) (h : Hd) : List Hd := match getH (keyH h) L with
  | none => L
  | some u => if 0 < newerI u h then L else dropH (keyH h) L
theorem take_mem {L : List Hd} {h x : Hd} (hx : x ∈ takeH L h) : x ∈ L := by
  unfold takeH at hx
  split at hx
  · exact hx
  · split at hx
    · exact hx
    · exact (List.mem_filter.1 hx).1
theorem take_len (L : List Hd) (h : Hd) : (takeH L h).length ≤ L.length := by
  unfold takeH
  split
  · exact Nat.le_refl _
  · split
    · exact Nat.le_refl _
    · exact List.length_filter_le _ _
theorem take_eq {M L : List Hd} (h : WEq M L) (x : Hd) : takeI M x = takeI L x ∧ WEq (takeH M x) (takeH L x) := by
  unfold takeI takeH
  rw [h.get]
  refine ⟨rfl, ?_⟩
  cases getH (keyH x) L with
  | none => exact h
  | some u =>
    simp only
    split
    · exact h
    · exact h.drop _

/-- the two -/
structure WPair (w wr : World) (p b q : Nat) (v : Value) (M L : List Hd) : Prop where
  wa : WaAt wr p b M
  rw : RwAt wr q v L
  bel : Below w.heap.size w wr
  ord : w.heap.size ≤ b ∧ b < p ∧ p < q
section
variable {w wr wr' : World} {p b q : Nat} {v u : Value} {M M' L L' : List Hd}
theorem WPair.keep (h : WPair w wr p b q v M L) (hb : Below wr.heap.size wr wr') : WPair w wr' p b q v M L := ⟨h.wa.keep hb, h.rw.keep hb, h.bel.trans (hb.mono h.bel.size), h.ord⟩
theorem WPair.m (h : WPair w wr p b q v M L) (hM : WaAt wr' p b M') (hg : wr.grownBy wr' (some b)) : WPair w wr' p b q v M' L := by
  have ho := h.ord
  refine ⟨hM, ⟨h.rw.ptr.grown hg (fun e => by injection e with e; omega), h.rw.own.kept hg (.inr fun e => ?_)⟩, h.bel.grown hg h.bel.size (fun k hk => by injection hk with hk; omega), ho⟩
  have := (h.rw.own.block b e).1
  omega
theorem WPair.l (h : WPair w wr p b q v M L) (hL : RwAt wr' q u L') (hk : Kept2 wr wr' q v.ownBlock) : WPair w wr' p b q u M L' := by
  have ho := h.ord
  have hs := h.bel.size
  have hlp := h.wa.ptr.lt
  have hlb := h.wa.map.lt
  have hne : ∀ i, i < q → some i ≠ v.ownBlock := fun i hi e => by
    have := (h.rw.own.block i e.symm).1
    omega
  refine ⟨⟨(hk.block p hlp (by omega) (hne p (by omega))).trans h.wa.ptr, h.wa.map.same (hk.block b hlb (by omega) (hne b (by omega)))⟩, hL, h.bel.trans ⟨hk.os, hk.tape, hk.output, by have := hk.size; omega, fun i hi => hk.block i (by omega) (by omega) (hne i (by omega))⟩, ho⟩
end

/-- .. and the act -/
structure WBun (w wr : World) (p b q : Nat) (v : Value) (M L : List Hd) (ga : Nat) (x : ActW) : Prop where
  pr : WPair w wr p b q v M L
  ba : Blk wr ga 80 #[.int .i64 x.kind, .slice x.ka x.heads.length x.kcap]
  ord : q < ga
  ng : v.ownBlock ≠ some ga
section
variable {w wr wr' : World} {p b q ga : Nat} {v u : Value} {M M' L L' : List Hd} {x : ActW}
theorem WBun.keep (h : WBun w wr p b q v M L ga x) (hb : Below wr.heap.size wr wr') : WBun w wr' p b q v M L ga x := ⟨h.pr.keep hb, h.ba.below hb h.ba.lt, h.ord, h.ng⟩
theorem WBun.m (h : WBun w wr p b q v M L ga x) (hM : WaAt wr' p b M') (hg : wr.grownBy wr' (some b)) : WBun w wr' p b q v M' L ga x := by
  have ho := h.pr.ord
  have h2 := h.ord
  exact ⟨h.pr.m hM hg, h.ba.grown hg (fun e => by injection e with e; omega), h2, h.ng⟩
theorem WBun.l (h : WBun w wr p b q v M L ga x) (hL : RwPost wr wr' q v L') : ∃ u, WBun w wr' p b q u M L' ga x := by
  obtain ⟨u, h1, hk, hu⟩ := hL
  have h2 := h.ord
  have hla := h.ba.lt
  refine ⟨u, h.pr.l h1 hk, (hk.block ga hla (by omega) (fun e => h.ng e.symm)).trans h.ba, h2, fun e => ?_⟩
  rcases hu ga e with e | e
  · exact h.ng e
  · omega
theorem WBun.cells (h : WBun w wr p b q v M L ga x) : wr.cell? ⟨ga, 0, none⟩ = some (.int .i64 x.kind) ∧ wr.cell? ⟨ga, 1, none⟩ = some (.slice x.ka x.heads.length x.kcap) := ⟨h.ba.cell 0, h.ba.cell 1⟩
theorem WBun.one (h : WBun w wr p b q v M L ga x) (k : Nat) (hk : k < x.heads.length) (hx : RowsAt 7 Hd.cells w w.heap.size x.ka x.heads) : ∃ g o, x.ka = some ⟨g, o, none⟩ ∧ g < w.heap.size ∧ wr.cell? ⟨g, o + k * 7, none⟩ = some (.int .i64 x.heads[k].age) ∧ wr.cell? ⟨g, o + k * 7 + 1, none⟩ = some (.int .i64 x.heads[k].kind) ∧ wr.cell? ⟨g, o + k * 7 + 2, none⟩ = some (.int .i64 x.heads[k].id) ∧ wr.cell? ⟨g, o + k * 7 + 3, none⟩ = some (.int .i64 x.heads[k].adv) ∧
      wr.cell? ⟨g, o + k * 7 + 4, none⟩ = some (.int .i64 x.heads[k].seq) ∧ wr.cell? ⟨g, o + k * 7 + 5, none⟩ = some (.int .i64 x.heads[k].sum) ∧ wr.cell? ⟨g, o + k * 7 + 6, none⟩ = some (.int .i64 x.heads[k].long) :=
  row_hd (hx.below h.pr.bel) k hk

theorem bAdd_m (h : WBun w wr p b q v M L ga x) (hx : RowsAt 7 Hd.cells w w.heap.size x.ka x.heads) (hM : ∀ y ∈ M, ageOk y) (hH : ∀ y ∈ x.heads, ageOk y) (hl : x.heads.length ≤ 1000) :
    Calls Try.prog 36 #[.pointer (some ⟨p, 0, none⟩), .slice x.ka x.heads.length x.kcap] wr fun r w' => r = .returned (.int .i64 (addAllM M x.heads).length) ∧ WBun w w' p b q v (addAllM M x.heads) L ga x :=
  (WaAdd_of p b M x.ka x.kcap x.heads wr h.pr.wa w.heap.size (fun W hg => hx.below (h.pr.bel.grown hg h.pr.bel.size (fun k hk => by injection hk with hk; have := h.pr.ord; omega))) hM hH hl _ rfl).mono fun r w' ⟨h1, h2, h3⟩ => ⟨h1, h.m h2 h3⟩
theorem bAdd_l (h : WBun w wr p b q v M L ga x) (hx : RowsAt 7 Hd.cells w w.heap.size x.ka x.heads) (hL : ∀ y ∈ L, ageOk y) (hH : ∀ y ∈ x.heads, ageOk y) (hl : L.length + x.heads.length ≤ 2 ^ 20) :
    Calls Try.prog 44 #[.pointer (some ⟨q, 0, none⟩), .slice x.ka x.heads.length x.kcap] wr fun r w' => r = .returned (.int .i64 (addAllD L x.heads).length) ∧ ∃ u, WBun w w' p b q u M (addAllD L x.heads) ga x := by
  refine (rwAddL q v L x.heads x.ka x.kcap wr h.pr.rw w.heap.size (fun W hk => hx.below (h.pr.bel.trans ?_)) hl hL hH _ rfl).mono fun r w' ⟨h1, h2⟩ => ⟨h1, h.l h2⟩
  have ho := h.pr.ord
  exact ⟨hk.os, hk.tape, hk.output, by have := hk.size; have := h.pr.bel.size; omega, fun i hi => hk.block i (by have := h.pr.bel.size; omega) (by omega) (fun e => by have := (h.pr.rw.own.block i e.symm).1; omega)⟩
theorem bTake_m (h : WBun w wr p b q v M L ga x) (y1 y2 y3 y4 y5 y6 y7 : Int) (hM : ∀ y ∈ M, ageOk y) (hy : 0 ≤ y1 ∧ y1 ≤ 60) :
    Calls Try.prog 41 #[.pointer (some ⟨p, 0, none⟩), .agg #[.int .i64 y1, .int .i64 y2, .int .i64 y3, .int .i64 y4, .int .i64 y5, .int .i64 y6, .int .i64 y7]] wr fun r w' => r = .returned (.int .i64 (takeI M ⟨y1, y2, y3, y4, y5, y6, y7⟩)) ∧ WBun w w' p b q v (takeH M ⟨y1, y2, y3, y4, y5, y6, y7⟩) L ga x := by
  unfold takeI takeH keyH
  simp only
  cases hg : getH ⟨y2, y3, y4⟩ M with
  | none => exact (WaTake_none p b M y1 y2 y3 y4 y5 y6 y7 wr h.pr.wa hg).mono fun r w' ⟨h1, h2⟩ => ⟨h1, h.keep h2⟩
  | some u =>
    simp only
    have hu := hM u (getH_mem hg).1
    by_cases hn : 0 < newerI u ⟨y1, y2, y3, y4, y5, y6, y7⟩
    · rw [if_pos hn, if_pos hn]
      exact (WaTake_old p b M y1 y2 y3 y4 y5 y6 y7 wr h.pr.wa u hg hu hy.1 hy.2 (by simpa using hn)).mono fun r w' ⟨h1, h2⟩ => ⟨h1, h.keep h2⟩
    · rw [if_neg hn, if_neg hn]
      exact (WaTake_got p b M y1 y2 y3 y4 y5 y6 y7 wr h.pr.wa u hg hu hy.1 hy.2 (by simpa using hn)).mono fun r w' ⟨h1, h2, h3⟩ => ⟨h1, h.m h2 h3⟩
theorem bTake_l (h : WBun w wr p b q v M L ga x) (y1 y2 y3 y4 y5 y6 y7 : Int) (hL : ∀ y ∈ L, ageOk y) (hn : (L.map keyH).Nodup) (hl : L.length ≤ 2 ^ 20) (hy : 0 ≤ y1 ∧ y1 ≤ 60) :
    Calls Try.prog 45 #[.pointer (some ⟨q, 0, none⟩), .agg #[.int .i64 y1, .int .i64 y2, .int .i64 y3, .int .i64 y4, .int .i64 y5, .int .i64 y6, .int .i64 y7]] wr fun r w' => r = .returned (.int .i64 (takeI L ⟨y1, y2, y3, y4, y5, y6, y7⟩)) ∧ ∃ u, WBun w w' p b q u M (takeH L ⟨y1, y2, y3, y4, y5, y6, y7⟩) ga x := by
  unfold takeI takeH keyH
  simp only
  rcases findI_get (k := ⟨y2, y3, y4⟩) (L := L) with ⟨h1, h2⟩ | ⟨j, hj, h1, h2, h3, -⟩
  · rw [h2]
    exact (rwTake_none q v L y1 y2 y3 y4 y5 y6 y7 wr h.pr.rw hl _ rfl h1).mono fun r w' ⟨h1, h2⟩ => ⟨h1, v, h.keep h2⟩
  · rw [h2]
    simp only
    have hc := rwTake_found q v L y1 y2 y3 y4 y5 y6 y7 wr h.pr.rw hl hy.1 hy.2 j hj h1 (hL _ (List.getElem_mem hj)) rfl
    rw [drop_at hn hj h3]
    refine hc.mono fun r w' hp => ?_
    unfold TakePost at hp
    by_cases hn2 : 0 < newerI L[j] ⟨y1, y2, y3, y4, y5, y6, y7⟩
    · rw [if_pos (by simpa using hn2)] at hp
      rw [if_pos hn2, if_pos hn2]
      exact ⟨hp.1, v, h.keep hp.2⟩
    · rw [if_neg (by simpa using hn2)] at hp
      rw [if_neg hn2, if_neg hn2]
      exact ⟨hp.1, h.l hp.2⟩
theorem bClear_m (h : WBun w wr p b q v M L ga x) :
    Calls Try.prog 39 #[.pointer (some ⟨p, 0, none⟩)] wr fun r w' => r = .returned (.int .i64 M.length) ∧ WBun w w' p b q v [] L ga x :=
  (WaClear p b M wr h.pr.wa).mono fun _r _w' ⟨h1, h2, h3⟩ => ⟨h1, h.m h2 h3⟩
theorem bNil_l (h : WBun w wr p b q v M L ga x) : WBun w (wr.setCell ⟨q, 0, none⟩ (.slice none 0 0)) p b q (.slice none 0 0) M [] ga x := by
  have ho := h.pr.ord
  have h2 := h.ord
  have hq := h.pr.rw.ptr
  refine ⟨⟨⟨h.pr.wa.ptr.far (by simp; omega) _, h.pr.wa.map.set_ (by simp; omega) _⟩, ⟨by simpa using hq.set_ 0 (.slice none 0 0), OwnR.nil _ _⟩, h.pr.bel.setCell (by simp; omega) _, ho⟩, h.ba.far (by simp; omega) _, h2, by simp [Value.ownBlock]⟩
end

end Go.Proofs.Ytannngcdphafdaa
