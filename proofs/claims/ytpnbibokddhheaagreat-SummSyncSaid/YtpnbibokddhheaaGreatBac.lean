/-
  Descriptions by their words; rows of them that the program made itself; the document's word for alike; keys.
-/
import Derived.Laws.StructEq
import Derived.RegionTactic
import Derived.Laws.FloatArith
import Derived.WalkKit
import Derived.Laws.ComplexArith
import Derived.Test.YtpnbibokddhheaaGreatBaa
import Derived.Test.YtpnbibokddhheaaGreatBab
namespace Go.Proofs.YtpnbibokddhheaaGreat
open Go.RowKit Go.Sort

abbrev VX := Hd × List Lnk × List Int
def vX (x : Lsa) : VX := (x.head, x.links, x.members)
def keyX (x : Lsa) : K3 := keyH x.head
def keyV (v : VX) : K3 := keyH v.1
theorem keyV_vX (x : Lsa) : keyV (vX x) = keyX x := rfl
theorem map_keys (L : List Lsa) : (L.map vX).map keyV = L.map keyX := by rw [List.map_map]; rfl
set_option maxHeartbeats 400000 in
theorem keyOf_any (a b c d e f g : Int) (w : World) : Calls Tryz.prog 23 #[.agg #[.int .i64 a, .int .i64 b, .int .i64 c, .int .i64 d, .int .i64 e, .int .i64 f, .int .i64 g]] w
    fun r w' => r = .returned (.agg #[.int .i64 b, .int .i64 c, .int .i64 d]) ∧ Below w.heap.size w w' := by
  go_enter Tryz.func23, Tryz.ntmps23
  go_wp2
  refine bodyPost_ret (v := .agg #[.int .i64 b, .int .i64 c, .int .i64 d]) (by simp [results, Tryz.results23, go_sem]) rfl ⟨rfl, ?_⟩
  exact ((Below.refl _ _).alloc (Nat.le_refl _) _).alloc (by simp) _
set_option maxHeartbeats 400000 in
theorem key_any (a b c d e f g : Int) (w : World) : Calls Tryz.prog 40 #[.agg #[.int .i64 a, .int .i64 b, .int .i64 c, .int .i64 d, .int .i64 e, .int .i64 f, .int .i64 g]] w
    fun r w' => r = .returned (.agg #[.int .i64 b, .int .i64 c, .int .i64 d]) ∧ Below w.heap.size w w' := by
  go_enter Tryz.func40, Tryz.ntmps40
  go_wp2
  refine bodyPost_ret (v := .agg #[.int .i64 b, .int .i64 c, .int .i64 d]) (by simp [results, Tryz.results40, go_sem]) rfl ⟨rfl, ?_⟩
  exact ((Below.refl _ _).alloc (Nat.le_refl _) _).alloc (by simp) _
theorem eqKey (a b c a' b' c' : Int) (w : World) : (Op.equalIn 10000 69 (.agg #[.int .i64 a, .int .i64 b, .int .i64 c]) (.agg #[.int .i64 a', .int .i64 b', .int .i64 c'])).run Tryz.prog w = .ok (a == a' && b == b' && c == c') w := by
  have hS : Tryz.prog.underlying 69 = some (.struct (Tryz.prog.fieldsOf 69)) := by kernel_rfl
  have hp : Tryz.prog.stoodInHeld 69 = false := by kernel_rfl
  rw [show (10000 : Nat) = 9999 + 1 from rfl, run_equalIn_struct w 9999 69 _ _ hS hp]
  simp only [Program.fieldsOf, Tryz.underlying69]
  go_simp
  by_cases h1 : a = a' <;> by_cases h2 : b = b' <;> by_cases h3 : c = c' <;> simp [h1, h2, h3]

/-- its two lists lie off the row that holds it -/
def farX (v : Value) (x : Lsa) : Prop := (∀ a, x.ka = some a → 0 < x.links.length → v.ownBlock ≠ some a.block) ∧ (∀ a, x.ma = some a → 0 < x.members.length → v.ownBlock ≠ some a.block)
/-- its two lists lie in blocks from B on -/
def fromX (B : Nat) (x : Lsa) : Prop := (∀ a, x.ka = some a → 0 < x.links.length → B ≤ a.block) ∧ (∀ a, x.ma = some a → 0 < x.members.length → B ≤ a.block)
/-- its two lists can be read -/
def rowsX (W : World) (x : Lsa) : Prop := RowsAt 4 Lnk.cells W W.heap.size x.ka x.links ∧ RowsAt 1 icell W W.heap.size x.ma x.members
/-- a row of descriptions that the program made itself: blocks from B on -/
structure XsAt (W : World) (B : Nat) (v : Value) (L : List Lsa) : Prop where
  own : OwnR 31 9 Lsa.cells W B v L
  rows : ∀ x ∈ L, rowsX W x
  far : ∀ x ∈ L, farX v x
  from_ : ∀ x ∈ L, fromX B x
  lens : ∀ x ∈ L, x.links.length ≤ 1000 ∧ x.members.length ≤ 1000
section
variable {W W' : World} {B B' : Nat} {v v' : Value} {L : List Lsa} {x : Lsa}
theorem rowsX.keep (h : rowsX W x) (hb : Below W.heap.size W W') : rowsX W' x := ⟨rows_keep h.1 hb, rows_keep h.2 hb⟩
theorem XsAt.nil (W : World) (B : Nat) : XsAt W B (.slice none 0 0) [] := ⟨OwnR.nil _ _, fun _ h => absurd h (by simp), fun _ h => absurd h (by simp), fun _ h => absurd h (by simp), fun _ h => absurd h (by simp)⟩
theorem XsAt.keep (h : XsAt W B v L) (hb : Below W.heap.size W W') : XsAt W' B v L := ⟨h.own.below hb, fun x hx => (h.rows x hx).keep hb, h.far, h.from_, h.lens⟩
theorem row_at (h : OwnR 31 9 Lsa.cells W B v L) (k : Nat) (hk : k < L.length) : ∃ g c, v = .slice (some ⟨g, 0, none⟩) L.length c ∧ W.cell? ⟨g, k * 9, none⟩ = some (.int .i64 L[k].head.age) ∧ W.cell? ⟨g, k * 9 + 1, none⟩ = some (.int .i64 L[k].head.kind) ∧ W.cell? ⟨g, k * 9 + 2, none⟩ = some (.int .i64 L[k].head.id) ∧ W.cell? ⟨g, k * 9 + 3, none⟩ = some (.int .i64 L[k].head.adv) ∧ W.cell? ⟨g, k * 9 + 4, none⟩ = some (.int .i64 L[k].head.seq) ∧ W.cell? ⟨g, k * 9 + 5, none⟩ = some (.int .i64 L[k].head.sum) ∧ W.cell? ⟨g, k * 9 + 6, none⟩ = some (.int .i64 L[k].head.long) ∧
      W.cell? ⟨g, k * 9 + 7, none⟩ = some (.slice L[k].ka L[k].links.length L[k].kcap) ∧ W.cell? ⟨g, k * 9 + 8, none⟩ = some (.slice L[k].ma L[k].members.length L[k].mcap) := by
  rcases h.shape2 with ⟨-, hn⟩ | ⟨g, c, rfl, hc⟩
  · subst hn; simp at hk
  · obtain ⟨b, o, e, _, hcell⟩ := (OwnR.rows (C := 9) (cells := Lsa.cells) (fun _ => rfl) h).2 (by omega)
    injection e with e
    injection e with e1 e2
    subst e1 e2
    refine ⟨g, c, rfl, ?_, ?_, ?_, ?_, ?_, ?_, ?_, ?_, ?_⟩
    · simpa using hcell k hk 0 _ (by omega) rfl
    · simpa using hcell k hk 1 _ (by omega) rfl
    · simpa using hcell k hk 2 _ (by omega) rfl
    · simpa using hcell k hk 3 _ (by omega) rfl
    · simpa using hcell k hk 4 _ (by omega) rfl
    · simpa using hcell k hk 5 _ (by omega) rfl
    · simpa using hcell k hk 6 _ (by omega) rfl
    · simpa using hcell k hk 7 _ (by omega) rfl
    · simpa using hcell k hk 8 _ (by omega) rfl
theorem row_lt2 {α : Type} {C : Nat} {cells : α → List Value} {a : Addr} {R : List α} {A : Option Addr} (h : RowsAt C cells W W.heap.size A R) (e : A = some a) (h0 : 0 < R.length) : a.block < W.heap.size := by
  subst e
  obtain ⟨b', o, e, hb, -⟩ := h h0
  injection e with e
  subst e
  exact hb
theorem rows_row2 {α : Type} {C : Nat} {cells : α → List Value} {A : Option Addr} {R : List α} {row : Option Nat} (h : RowsAt C cells W W.heap.size A R) (hg : W.grownBy W' row) (hne : ∀ a, A = some a → 0 < R.length → row ≠ some a.block) : RowsAt C cells W' W'.heap.size A R := by
  intro h0
  obtain ⟨b', o, e, hb, hc⟩ := h h0
  refine ⟨b', o, e, Nat.lt_of_lt_of_le hb hg.size, fun k hk i u hi hu => ?_⟩
  exact (World.cell?_of_block (w := W) (a := ⟨b', o + k * C + i, none⟩) (hg.block b' hb (fun e2 => hne _ e h0 e2.symm))).trans (hc k hk i u hi hu)
theorem rowsX.grown {row : Option Nat} (h : rowsX W x) (hg : W.grownBy W' row) (hne : ∀ a, (x.ka = some a ∧ 0 < x.links.length) ∨ (x.ma = some a ∧ 0 < x.members.length) → row ≠ some a.block) : rowsX W' x :=
  ⟨rows_row2 h.1 hg (fun a e h0 => hne a (.inl ⟨e, h0⟩)), rows_row2 h.2 hg (fun a e h0 => hne a (.inr ⟨e, h0⟩))⟩
theorem grown_set (W : World) (q i : Nat) (u : Value) : W.grownBy (W.setCell ⟨q, i, none⟩ u) (some q) := ⟨rfl, rfl, rfl, by simp [World.setCell], fun k _ hne => Below.heap_setCell _ _ _ _ (fun e => hne (by rw [e]))⟩
/-- one more -/
theorem XsAt.app (h : XsAt W B v L) (ho : OwnR 31 9 Lsa.cells W' B v' (L ++ [x])) (hg : W.grownBy W' v.ownBlock) (hor : v'.ownBlock = v.ownBlock ∨ v'.ownBlock = some W.heap.size) (hr : rowsX W x) (hf : farX v x) (hB : fromX B x) (hl : x.links.length ≤ 1000 ∧ x.members.length ≤ 1000) : XsAt W' B v' (L ++ [x]) := by
  have hrows : ∀ y ∈ L ++ [x], rowsX W y ∧ farX v y ∧ fromX B y ∧ (y.links.length ≤ 1000 ∧ y.members.length ≤ 1000) := by
    intro y hy
    rcases List.mem_append.1 hy with hy | hy
    · exact ⟨h.rows y hy, h.far y hy, h.from_ y hy, h.lens y hy⟩
    · rw [List.mem_singleton] at hy
      subst hy
      exact ⟨hr, hf, hB, hl⟩
  refine ⟨ho, fun y hy => (hrows y hy).1.grown hg (fun a ha => ?_), fun y hy => ?_, fun y hy => (hrows y hy).2.2.1, fun y hy => (hrows y hy).2.2.2⟩
  · rcases ha with ⟨e, h0⟩ | ⟨e, h0⟩
    · exact (hrows y hy).2.1.1 a e h0
    · exact (hrows y hy).2.1.2 a e h0
  · rcases hor with e | e
    · unfold farX
      rw [e]
      exact (hrows y hy).2.1
    · unfold farX
      rw [e]
      refine ⟨fun a ea h0 e2 => ?_, fun a ea h0 e2 => ?_⟩
      · have := row_lt2 (hrows y hy).1.1 ea h0
        injection e2 with e2
        omega
      · have := row_lt2 (hrows y hy).1.2 ea h0
        injection e2 with e2
        omega
end
theorem own_new {v v' : Value} {B n : Nat} (h : ∀ m, v.ownBlock = some m → B ≤ m) (hor : v'.ownBlock = v.ownBlock ∨ v'.ownBlock = some n) (hn : B ≤ n) : ∀ m, v'.ownBlock = some m → B ≤ m := by
  intro m e
  rcases hor with e2 | e2
  · exact h m (by rw [← e2]; exact e)
  · rw [e2] at e; injection e with e; omega
theorem infoX : (Tryz.prog.info? 31).map (fun i => (i.zero, i.size, i.bytes)) = some (some (.agg #[.int .i64 0, .int .i64 0, .int .i64 0, .int .i64 0, .int .i64 0, .int .i64 0, .int .i64 0, .slice none 0 0, .slice none 0 0]), 9, 104) := by kernel_rfl
theorem onesX (x : Lsa) : ∀ u ∈ Lsa.cells x, u.oneCell' = true := by
  intro u hu
  simp [Lsa.cells] at hu
  rcases hu with rfl | rfl | rfl | rfl | rfl | rfl | rfl | rfl | rfl <;> rfl


theorem row_lsa9b {w : World} {B : Nat} {A : Option Addr} {l : List Lsa} (h : RowsAt 9 Lsa.cells w B A l) (k : Nat) (hk : k < l.length) :
    ∃ b o, A = some ⟨b, o, none⟩ ∧ b < B ∧ w.cell? ⟨b, o + k * 9, none⟩ = some (.int .i64 l[k].head.age) ∧ w.cell? ⟨b, o + k * 9 + 1, none⟩ = some (.int .i64 l[k].head.kind) ∧ w.cell? ⟨b, o + k * 9 + 2, none⟩ = some (.int .i64 l[k].head.id) ∧ w.cell? ⟨b, o + k * 9 + 3, none⟩ = some (.int .i64 l[k].head.adv) ∧ w.cell? ⟨b, o + k * 9 + 4, none⟩ = some (.int .i64 l[k].head.seq) ∧ w.cell? ⟨b, o + k * 9 + 5, none⟩ = some (.int .i64 l[k].head.sum) ∧ w.cell? ⟨b, o + k * 9 + 6, none⟩ = some (.int .i64 l[k].head.long) ∧
      w.cell? ⟨b, o + k * 9 + 7, none⟩ = some (.slice l[k].ka l[k].links.length l[k].kcap) ∧ w.cell? ⟨b, o + k * 9 + 8, none⟩ = some (.slice l[k].ma l[k].members.length l[k].mcap) := by
  obtain ⟨b, o, e, hb, hc⟩ := h (by omega)
  exact ⟨b, o, e, hb, by simpa using hc k hk 0 _ (by omega) rfl, hc k hk 1 _ (by omega) rfl, hc k hk 2 _ (by omega) rfl, hc k hk 3 _ (by omega) rfl, hc k hk 4 _ (by omega) rfl, hc k hk 5 _ (by omega) rfl, hc k hk 6 _ (by omega) rfl, hc k hk 7 _ (by omega) rfl, hc k hk 8 _ (by omega) rfl⟩
theorem vX_len {l l' : List Lsa} (h : l.map vX = l'.map vX) : l.length = l'.length := by have := congrArg List.length h; simpa using this
theorem vX_at {l l' : List Lsa} (h : l.map vX = l'.map vX) (k : Nat) (hk : k < l.length) (hk' : k < l'.length) : vX l[k] = vX l'[k] := by
  have h1 : (l.map vX)[k]? = (l'.map vX)[k]? := by rw [h]
  simpa [hk, hk'] using h1
theorem seal_el {W W' : World} {B q nl nm : Nat} {v : Value} {O : List Lsa} {ls : List Lnk} {ms : List Int} {A : Option Addr} {c : Nat} {A' : Option Addr} {c' : Nat} {h : Hd} (ho : OwnR 31 9 Lsa.cells W B v O) (hq : q < W.heap.size) (_hnl : nl = ls.length) (_hnm : nm = ms.length) (hl : ls.length ≤ 1000) (hm : ms.length ≤ 1000)
    (oa : OwnR 152 4 Lnk.cells W' W.heap.size (.slice A nl c) ls) (ob : OwnR 3 1 icell W' W.heap.size (.slice A' nm c') ms) :
    rowsX W' ⟨h, A, c, ls, A', c', ms⟩ ∧ farX v ⟨h, A, c, ls, A', c', ms⟩ ∧ fromX (q + 1) ⟨h, A, c, ls, A', c', ms⟩ ∧ (ls.length ≤ 1000 ∧ ms.length ≤ 1000) := by
  refine ⟨⟨(OwnR.rows (C := 4) (cells := Lnk.cells) (fun _ => rfl) oa).2, (OwnR.rows (C := 1) (cells := icell) (fun _ => rfl) ob).2⟩, ⟨fun a e _ e2 => ?_, fun a e _ e2 => ?_⟩, ⟨fun a e _ => ?_, fun a e _ => ?_⟩, hl, hm⟩
  · simp only at e; subst e
    have := (oa.block _ rfl).1; have := (ho.block _ e2).2; omega
  · simp only at e; subst e
    have := (ob.block _ rfl).1; have := (ho.block _ e2).2; omega
  · simp only at e; subst e
    have := (oa.block _ rfl).1; omega
  · simp only at e; subst e
    have := (ob.block _ rfl).1; omega
theorem XsAt.lower {W : World} {B B' : Nat} {v : Value} {L : List Lsa} (h : XsAt W B v L) (hB : B' ≤ B) : XsAt W B' v L :=
  ⟨h.own.lower hB, h.rows, h.far, fun x hx => ⟨fun a e h0 => Nat.le_trans hB ((h.from_ x hx).1 a e h0), fun a e h0 => Nat.le_trans hB ((h.from_ x hx).2 a e h0)⟩, h.lens⟩
theorem XsAt.iter {W W' : World} {B i : Nat} {v : Value} {D : List Lsa} (h : XsAt W B v D) (hg : W.grownBy W' (some i)) (hi : i < B) : XsAt W' B v D :=
  ⟨h.own.kept hg (.inr (fun e => by have := (h.own.block i e).1; omega)), fun x hx => (h.rows x hx).grown hg (fun a ha => ha.elim (fun e e2 => by have := (h.from_ x hx).1 a e.1 e.2; injection e2 with e2; omega) (fun e e2 => by have := (h.from_ x hx).2 a e.1 e.2; injection e2 with e2; omega)), h.far, h.from_, h.lens⟩
end Go.Proofs.YtpnbibokddhheaaGreat

/-
  Layer 13: the heads that are told: the program's way.
-/
namespace Go.Proofs.YtpnbibokddhheaaGreat
open Go.RowKit Go.Sort

theorem infoHd13 : (Tryz.prog.info? 27).map (fun i => (i.zero, i.size, i.bytes)) = some (some (.agg #[.int .i64 0, .int .i64 0, .int .i64 0, .int .i64 0, .int .i64 0, .int .i64 0, .int .i64 0]), 7, 56) := by kernel_rfl
theorem onesHd13 (x : Hd) : ∀ u ∈ Hd.cells x, u.oneCell' = true := by
  intro u hu
  simp [Hd.cells] at hu
  rcases hu with rfl | rfl | rfl | rfl | rfl | rfl | rfl <;> rfl
/-- the heads of what isn't gone -/
def headsOf (l : List Lsa) : List Hd := (l.filter fun x => decide (x.head.age ≠ 60)).map fun x => x.head
theorem heads_more {l : List Lsa} {k : Nat} (hk : k < l.length) : headsOf (l.take (k + 1)) = headsOf (l.take k) ++ if l[k].head.age = 60 then [] else [l[k].head] := by
  unfold headsOf
  rw [List.take_succ_eq_append_getElem hk, List.filter_append, List.map_append]
  congr 1
  by_cases h : l[k].head.age = 60 <;> simp [h]
theorem heads_len (l : List Lsa) : (headsOf l).length ≤ l.length := by
  unfold headsOf
  rw [List.length_map]
  exact List.length_filter_le _ _
/-- a summary, in memory -/
structure SmAt (W : World) (s : Nat) (v : Value) (at_ : Int) (H : List Hd) : Prop where
  ptr : Blk W s 119 #[v, .int .i64 at_]
  own : OwnR 27 7 Hd.cells W (s + 1) v H
theorem SmAt.keep {W W' : World} {s : Nat} {v : Value} {at_ : Int} {H : List Hd} (h : SmAt W s v at_ H) (hb : Below W.heap.size W W') : SmAt W' s v at_ H := ⟨h.ptr.below hb h.ptr.lt, h.own.below hb⟩

set_option maxHeartbeats 8000000 in
set_option maxRecDepth 100000 in
theorem SuNew_any (A : Option Addr) (c : Nat) (l : List Lsa) (w : World) (B : Nat) (h : RowsAt 9 Lsa.cells w B A l) (hB : B ≤ w.heap.size) (hm : l.length ≤ 2 ^ 20) (nn : Nat) (hnn : nn = l.length) (K : List Hd)
    (HS : ∀ W v, OwnR 27 7 Hd.cells W (w.heap.size + 1) v (headsOf l) → Calls Tryz.prog 46 #[v, .func (.func 47) #[] #[]] W fun r W' => r = .returned (.tuple #[]) ∧ OwnR 27 7 Hd.cells W' (w.heap.size + 1) v K ∧ W.grownBy W' v.ownBlock) :
    Calls Tryz.prog 18 #[.slice A nn c] w fun r w' => r = .returned (.pointer (some ⟨w.heap.size, 0, none⟩)) ∧ (∃ v, SmAt w' w.heap.size v 0 K) ∧ Below w.heap.size w w' := by
  subst hnn
  obtain ⟨s, hs⟩ : ∃ s, w.heap.size = s := ⟨_, rfl⟩
  have HL := Lib.hid h
  have HSo := Lib.hid HS
  have Hs := Lib.hid (show w.heap.size ≤ s by omega)
  have hm' : (l.length : Int) ≤ 9223372036854775807 := by omega
  obtain ⟨w1, hw1⟩ : ∃ w1, w.alloc (.cells #[.slice none 0 0, .int .i64 0] 119) = w1 := ⟨_, rfl⟩
  have hk1 := Blk.new w 119 #[.slice none 0 0, .int .i64 0]
  have hb1 := below_new w (.cells #[.slice none 0 0, .int .i64 0] 119)
  rw [hw1, hs] at hk1
  rw [hw1] at hb1
  have S1 := Lib.hid (show SmAt w1 s (.slice none 0 0) 0 [] from ⟨hk1, OwnR.nil _ _⟩)
  have B1 := Lib.hid hb1
  clear h HS hk1 hb1
  go_enter Tryz.func18, Tryz.ntmps18
  go_wp2
  go_loopw [10] (fun i wr => ∃ (k : Nat) (v : Value), i = .int .i64 k ∧ k ≤ l.length ∧ SmAt wr s v 0 (headsOf (l.take k)) ∧ Below w.heap.size w wr) (fun i _ => l.length - (intOf i).toNat)
  case atStart => exact ⟨0, _, rfl, Nat.zero_le _, S1.out, B1.out⟩
  case round =>
    obtain ⟨k, v, rfl, hk, hsm, hb⟩ := hrel
    clear S1 B1
    by_cases hlt : k < l.length
    · obtain ⟨g, o, hA, -, x0, x1, x2, x3, x4, x5, x6, x7, x8⟩ := row_lsa9b (HL.out.below (hb.mono hB)) k hlt
      have hkl : (k : Int) < (l.length : Int) := by omega
      have hmore := heads_more hlt
      have HA := Lib.hid hA
      rw [hA]
      have Hlt := Lib.hid hlt
      generalize l[k] = x at *
      obtain ⟨⟨y1, y2, y3, y4, y5, y6, y7⟩, ka, kc, ls, ma, mc, ms⟩ := x
      simp only at x0 x1 x2 x3 x4 x5 x6 x7 x8 hmore
      obtain ⟨nl, hnl⟩ : ∃ nl, ls.length = nl := ⟨_, rfl⟩
      obtain ⟨nm, hnm⟩ : ∃ nm, ms.length = nm := ⟨_, rfl⟩
      rw [hnl] at x7
      rw [hnm] at x8
      have HHl := Lib.hid (show (headsOf (l.take k)).length ≤ 2 ^ 20 from Nat.le_trans (heads_len _) (by rw [List.length_take]; omega))
      have Hmore := Lib.hid hmore
      obtain ⟨H, hH⟩ : ∃ H, headsOf (l.take k) = H := ⟨_, rfl⟩
      rw [hH] at hsm HHl Hmore
      clear hmore hH
      obtain ⟨A7, c7, hv7⟩ := hsm.own.shape
      subst hv7
      obtain ⟨w8, hw8⟩ : ∃ w8, wr.alloc (.cells #[.int .i64 y1, .int .i64 y2, .int .i64 y3, .int .i64 y4, .int .i64 y5, .int .i64 y6, .int .i64 y7, .slice ka nl kc, .slice ma nm mc] 31) = w8 := ⟨_, rfl⟩
      obtain ⟨g8, hg8⟩ : ∃ g8, wr.heap.size = g8 := ⟨_, rfl⟩
      have hk8 := Blk.new wr 31 #[.int .i64 y1, .int .i64 y2, .int .i64 y3, .int .i64 y4, .int .i64 y5, .int .i64 y6, .int .i64 y7, .slice ka nl kc, .slice ma nm mc]
      have hb8 := below_new wr (.cells #[.int .i64 y1, .int .i64 y2, .int .i64 y3, .int .i64 y4, .int .i64 y5, .int .i64 y6, .int .i64 y7, .slice ka nl kc, .slice ma nm mc] 31)
      rw [hw8, hg8] at hk8
      rw [hw8] at hb8
      have K8 := Lib.hid hk8
      have S8 := Lib.hid (hsm.keep hb8)
      have B8 := Lib.hid (below_trans hb hb.size hb8)
      have Hg8 := Lib.hid (show (Value.slice A7 H.length c7).ownBlock ≠ some g8 from fun e => by have := (hsm.own.block _ e).2; omega)
      obtain ⟨z0, z1, z2, z3, z4, z5, z6, z7, z8, zf⟩ := blk9 hk8
      by_cases h60 : y1 = 60
      · subst h60
        rw [if_pos rfl, List.append_nil] at Hmore
        clear hnl hnm hA hlt hk8 hb8 hk hsm hb
        go_wp2
        go_roundw
        case measure => have := Hlt.out; simp only [intOf]; omega
        case rel => exact ⟨k + 1, _, by go_num, Hlt.out, by rw [Hmore.out]; exact S8.out, B8.out⟩
      · rw [if_neg h60] at Hmore
        have FF := Lib.hid (show ∀ W, Blk W s 119 #[.slice A7 H.length c7, .int .i64 0] → Blk W g8 31 #[.int .i64 y1, .int .i64 y2, .int .i64 y3, .int .i64 y4, .int .i64 y5, .int .i64 y6, .int .i64 y7, .slice ka nl kc, .slice ma nm mc] → (W.cell? ⟨s, 0, none⟩ = some (.slice A7 H.length c7) ∧ W.cell? ⟨g8, 0, none⟩ = some (.int .i64 y1) ∧ W.cell? ⟨g8, 1, none⟩ = some (.int .i64 y2) ∧ W.cell? ⟨g8, 2, none⟩ = some (.int .i64 y3) ∧ W.cell? ⟨g8, 3, none⟩ = some (.int .i64 y4) ∧ W.cell? ⟨g8, 4, none⟩ = some (.int .i64 y5) ∧ W.cell? ⟨g8, 5, none⟩ = some (.int .i64 y6) ∧ W.cell? ⟨g8, 6, none⟩ = some (.int .i64 y7)) from
          fun W h1 h2 => ⟨h1.cell 0, h2.cell 0, h2.cell 1, h2.cell 2, h2.cell 3, h2.cell 4, h2.cell 5, h2.cell 6⟩)
        clear hnl hnm hA hlt hk8 hb8 hk hsm hb
        go_wp2
        refine wp_region_F (F := fun W => W.cell? ⟨s, 0, none⟩ = some (.slice A7 H.length c7) ∧ W.cell? ⟨g8, 0, none⟩ = some (.int .i64 y1) ∧ W.cell? ⟨g8, 1, none⟩ = some (.int .i64 y2) ∧ W.cell? ⟨g8, 2, none⟩ = some (.int .i64 y3) ∧ W.cell? ⟨g8, 3, none⟩ = some (.int .i64 y4) ∧ W.cell? ⟨g8, 4, none⟩ = some (.int .i64 y5) ∧ W.cell? ⟨g8, 5, none⟩ = some (.int .i64 y6) ∧ W.cell? ⟨g8, 6, none⟩ = some (.int .i64 y7)) (n := 11) (m := 12) (s := #[false, false, false, false, false, false, false, false, false, false, false, false]) (by kernel_rfl) (by kernel_rfl) (by kernel_rfl) ?_
        intro wd hwd
        have hbd : Below w8.heap.size w8 wd := by rw [hwd.out]; exact (Below.refl _ _).drew
        have S9 := S8.out.keep hbd
        have B9 := below_trans B8.out B8.out.size hbd
        have hF := FF.out wd S9.ptr (K8.out.below hbd K8.out.lt)
        have K9 := K8.out.below hbd K8.out.lt
        clear hwd hbd
        refine F_take (i := 0) (d := some 18) (by kernel_rfl) (by kernel_rfl) (by decide) (s' := #[true, false, false, false, false, false, false, false, false, false, false, false]) (by kernel_rfl) rfl rfl (by kernel_rfl) (by kernel_rfl) (by kernel_rfl) (fun _ _ _ h => h) (Or.inl ⟨by kernel_rfl, fun W hW => by obtain ⟨c0, x0, x1, x2, x3, x4, x5, x6⟩ := hW; go_simp; try with_reducible rfl⟩) hF ?_
        go_frame
        refine F_take (i := 1) (d := some 19) (by kernel_rfl) (by kernel_rfl) (by decide) (s' := #[true, true, false, false, false, false, false, false, false, false, false, false]) (by kernel_rfl) rfl rfl (by kernel_rfl) (by kernel_rfl) (by kernel_rfl) (fun _ _ _ h => h) (Or.inl ⟨by kernel_rfl, fun W hW => by obtain ⟨c0, x0, x1, x2, x3, x4, x5, x6⟩ := hW; go_simp; try with_reducible rfl⟩) hF ?_
        go_frame
        refine F_take (i := 2) (d := some 20) (by kernel_rfl) (by kernel_rfl) (by decide) (s' := #[true, true, true, false, false, false, false, false, false, false, false, false]) (by kernel_rfl) rfl rfl (by kernel_rfl) (by kernel_rfl) (by kernel_rfl) (fun _ _ _ h => h) (Or.inl ⟨by kernel_rfl, fun W hW => by obtain ⟨c0, x0, x1, x2, x3, x4, x5, x6⟩ := hW; go_simp; try with_reducible rfl⟩) hF ?_
        go_frame
        refine F_take (i := 3) (d := some 21) (by kernel_rfl) (by kernel_rfl) (by decide) (s' := #[true, true, true, true, false, false, false, false, false, false, false, false]) (by kernel_rfl) rfl rfl (by kernel_rfl) (by kernel_rfl) (by kernel_rfl) (fun _ _ _ h => h) (Or.inl ⟨by kernel_rfl, fun W hW => by obtain ⟨c0, x0, x1, x2, x3, x4, x5, x6⟩ := hW; go_simp; try with_reducible rfl⟩) hF ?_
        go_frame
        refine F_take (i := 4) (d := some 22) (by kernel_rfl) (by kernel_rfl) (by decide) (s' := #[true, true, true, true, true, false, false, false, false, false, false, false]) (by kernel_rfl) rfl rfl (by kernel_rfl) (by kernel_rfl) (by kernel_rfl) (fun _ _ _ h => h) (Or.inl ⟨by kernel_rfl, fun W hW => by obtain ⟨c0, x0, x1, x2, x3, x4, x5, x6⟩ := hW; go_simp; try with_reducible rfl⟩) hF ?_
        go_frame
        refine F_take (i := 5) (d := some 23) (by kernel_rfl) (by kernel_rfl) (by decide) (s' := #[true, true, true, true, true, true, false, false, false, false, false, false]) (by kernel_rfl) rfl rfl (by kernel_rfl) (by kernel_rfl) (by kernel_rfl) (fun _ _ _ h => h) (Or.inl ⟨by kernel_rfl, fun W hW => by obtain ⟨c0, x0, x1, x2, x3, x4, x5, x6⟩ := hW; go_simp; try with_reducible rfl⟩) hF ?_
        go_frame
        refine F_take (i := 6) (d := some 24) (by kernel_rfl) (by kernel_rfl) (by decide) (s' := #[true, true, true, true, true, true, true, false, false, false, false, false]) (by kernel_rfl) rfl rfl (by kernel_rfl) (by kernel_rfl) (by kernel_rfl) (fun _ _ _ h => h) (Or.inl ⟨by kernel_rfl, fun W hW => by obtain ⟨c0, x0, x1, x2, x3, x4, x5, x6⟩ := hW; go_simp; try with_reducible rfl⟩) hF ?_
        go_frame
        refine F_one (i := 7) (s' := #[true, true, true, true, true, true, true, true, false, false, false, false]) (by kernel_rfl) (by kernel_rfl) (wpOp_valueL (i := 7) (d := some 25) (w' := wd.alloc (.cells #[.int .i64 y1, .int .i64 y2, .int .i64 y3, .int .i64 y4, .int .i64 y5, .int .i64 y6, .int .i64 y7] 27)) (v := .slice (some ⟨wd.heap.size, 0, none⟩) 1 1) rfl rfl (by kernel_rfl) (by go_simp) ⟨fun _ => FF.out _ (S9.ptr.alloc _) (K9.alloc _), ?_⟩)
        go_frame
        obtain ⟨v5, w5, hrun, hown5, hg5, hor5⟩ := app_row_run (e := 27) (sl := 58) Hd.cells (fun _ => rfl) (by decide) (bytes := 56) (by decide) infoHd13 rfl Tryz.underlying58 onesHd13 58 (s + 1) (.slice A7 H.length c7) H (S9.own.alloc (.cells #[.int .i64 y1, .int .i64 y2, .int .i64 y3, .int .i64 y4, .int .i64 y5, .int .i64 y6, .int .i64 y7] 27)) wd.heap.size ⟨y1, y2, y3, y4, y5, y6, y7⟩ (Blk.new wd _ _) (by have := HHl.out; omega) (by have := S9.ptr.lt; simp; omega)
        have hs5 := (S9.ptr.alloc (.cells #[.int .i64 y1, .int .i64 y2, .int .i64 y3, .int .i64 y4, .int .i64 y5, .int .i64 y6, .int .i64 y7] 27)).grown hg5 (fun e => by have := (S9.own.block s e.symm).1; omega)
        have hk5 := (K9.alloc (.cells #[.int .i64 y1, .int .i64 y2, .int .i64 y3, .int .i64 y4, .int .i64 y5, .int .i64 y6, .int .i64 y7] 27)).grown hg5 (fun e => Hg8.out e.symm)
        refine F_one (i := 8) (s' := #[true, true, true, true, true, true, true, true, true, false, false, false]) (by kernel_rfl) (by kernel_rfl) (wpOp_appendL (i := 8) (d := some 26) (t := 58) rfl rfl rfl (by kernel_rfl) rfl (by rfl) (by rfl) hrun ⟨fun _ => FF.out _ hs5 hk5, ?_⟩)
        go_frame
        have hF5 := FF.out w5 hs5 hk5
        refine F_take (i := 9) (d := some 27) (by kernel_rfl) (by kernel_rfl) (by decide) (s' := #[true, true, true, true, true, true, true, true, true, true, false, false]) (by kernel_rfl) rfl rfl (by kernel_rfl) (by kernel_rfl) (by kernel_rfl) (fun _ _ _ h => h) (Or.inl ⟨by kernel_rfl, fun W hW => by obtain ⟨c0, x0, x1, x2, x3, x4, x5, x6⟩ := hW; go_simp; try with_reducible rfl⟩) hF5 ?_
        go_frame
        refine F_take (i := 10) (d := some 28) (by kernel_rfl) (by kernel_rfl) (by decide) (s' := #[true, true, true, true, true, true, true, true, true, true, true, false]) (by kernel_rfl) rfl rfl (by kernel_rfl) (by kernel_rfl) (by kernel_rfl) (fun _ _ _ h => h) (Or.inl ⟨by kernel_rfl, fun W hW => by obtain ⟨c0, x0, x1, x2, x3, x4, x5, x6⟩ := hW; go_simp; try with_reducible rfl⟩) hF5 ?_
        go_frame
        obtain ⟨A5, c5, hv5⟩ := hown5.shape
        subst hv5
        obtain ⟨n5, hn5⟩ : ∃ n5, (H ++ [(⟨y1, y2, y3, y4, y5, y6, y7⟩ : Hd)]).length = n5 := ⟨_, rfl⟩
        rw [hn5] at hown5 hor5 ⊢
        have hsf := hs5.frozen 0
        have hsc := hs5.cell 0
        simp only [List.getElem?_toArray, List.getElem?_cons_zero] at hsc
        refine F_one (i := 11) (s' := #[true, true, true, true, true, true, true, true, true, true, true, true]) (by kernel_rfl) (by kernel_rfl) (wpOp_skipL (i := 11) (w' := w5.setCell ⟨s, 0, none⟩ (.slice A5 n5 c5)) rfl rfl (by kernel_rfl) (by go_simp) ⟨fun h => absurd h (by decide), ?_⟩)
        go_frame
        refine F_done (by kernel_rfl) ?_ _
        have hblk5 : Blk (w5.setCell ⟨s, 0, none⟩ (.slice A5 n5 c5)) s 119 #[.slice A5 n5 c5, .int .i64 0] := by simpa using hs5.set_ 0 (.slice A5 n5 c5)
        have S10 := Lib.hid (show SmAt (w5.setCell ⟨s, 0, none⟩ (.slice A5 n5 c5)) s (.slice A5 n5 c5) 0 (H ++ [⟨y1, y2, y3, y4, y5, y6, y7⟩]) from ⟨hblk5, hown5.set_ (by simp) _⟩)
        have B10 := Lib.hid (show Below w.heap.size w (w5.setCell ⟨s, 0, none⟩ (.slice A5 n5 c5)) from ((B9.alloc B9.size (.cells #[.int .i64 y1, .int .i64 y2, .int .i64 y3, .int .i64 y4, .int .i64 y5, .int .i64 y6, .int .i64 y7] 27)).grown hg5 (by have := B9.size; simp; omega) (fun m e => by have := (S9.own.block m e).1; have := Hs.out; omega)).setCell (p := ⟨s, 0, none⟩) (by have := Hs.out; simpa using this) _)
        clear hblk5 hs5 hk5 hown5 hor5 hg5 hrun hF S9 K9 B9 hsf hsc hn5
        go_wp2
        go_roundw
        case measure => have := Hlt.out; simp only [intOf]; omega
        case rel => exact ⟨k + 1, _, by go_num, Hlt.out, by rw [Hmore.out]; exact S10.out, B10.out⟩
    · have hke : k = l.length := by omega
      subst hke
      have hkl : ¬ (l.length : Int) < (l.length : Int) := by omega
      rw [List.take_length] at hsm
      obtain ⟨A7, c7, hv7⟩ := hsm.own.shape
      subst hv7
      have S8 := Lib.hid hsm
      have B8 := Lib.hid hb
      have hcell := hsm.ptr.cell 0
      simp only [List.getElem?_toArray, List.getElem?_cons_zero] at hcell
      obtain ⟨nh, hnh⟩ : ∃ nh, (headsOf l).length = nh := ⟨_, rfl⟩
      rw [hnh] at hcell
      have hS := HSo.out wr _ (by have := S8.out.own; rw [← hs] at this; exact this)
      rw [hnh] at hS
      have HS2 := Lib.hid hS
      have Hnh := Lib.hid hnh
      clear hsm hb hlt hS hnh
      go_wp2_with fail
      with_reducible refine Calls.mono HS2.out ?_
      rintro r w9 ⟨rfl, hown9, hg9⟩
      have hown8 := S8.out.own
      have hptr8 := S8.out.ptr
      rw [Hnh.out] at hown8 hptr8
      have S9 := Lib.hid (show SmAt w9 s (.slice A7 nh c7) 0 K from ⟨hptr8.grown hg9 (fun e => by have := (hown8.block s e.symm).1; omega), by rw [← hs]; exact hown9⟩)
      have B9 := Lib.hid (show Below w.heap.size w w9 from B8.out.grown hg9 B8.out.size (fun m e => by have := (hown8.block m e).1; omega))
      clear hown9 hg9 hown8 hptr8
      go_wp2
      go_ret
      exact ⟨by rw [hs]; rfl, ⟨_, by rw [hs]; exact S9.out⟩, B9.out⟩

end Go.Proofs.YtpnbibokddhheaaGreat

/-
  Layer 13: a piece of a summary; the methods of one that is not there.
-/
namespace Go.Proofs.YtpnbibokddhheaaGreat
open Go.RowKit Go.Sort

theorem SuPiece_nil (w : World) : Calls Tryz.prog 19 #[.pointer none] w fun r w' => r = .returned (.slice none 0 0) ∧ Below w.heap.size w w' := by
  go_enter Tryz.func19, Tryz.ntmps19
  go_wp2
  go_ret
  exact ⟨rfl, Below.refl _ _⟩
theorem SuStep_nil (w : World) : Calls Tryz.prog 20 #[.pointer none] w fun r w' => r = .returned (.bool false) ∧ Below w.heap.size w w' := by
  go_enter Tryz.func20, Tryz.ntmps20
  go_wp2
  go_ret
  exact ⟨rfl, Below.refl _ _⟩
set_option maxRecDepth 100000 in
theorem SuMore_nil (w : World) : Calls Tryz.prog 48 #[.pointer none] w fun r w' => r = .returned (.bool false) ∧ Below w.heap.size w w' := by
  go_enter Tryz.func48, Tryz.ntmps48
  go_wp2_with fail
  refine wp_drew_tail 15 (by kernel_rfl) (by kernel_rfl) ?_
  simp only [List.take_succ_cons, List.take_zero, List.drop_succ_cons, List.drop_zero]
  repeat (go_big_quiet_step (fail))
  refine wpQuiet_nil ?_
  rintro w3 ⟨dq, rfl⟩
  go_wp2
  go_ret
  exact ⟨rfl, below_drewN (Below.refl _ _) dq⟩
set_option maxHeartbeats 4000000 in
set_option maxRecDepth 100000 in
theorem SuPiece_one (s : Nat) (v : Value) (x : Hd) (w : World) (h : SmAt w s v 0 [x]) : Calls Tryz.prog 19 #[.pointer (some ⟨s, 0, none⟩)] w fun r w' => (∃ u, r = .returned u ∧ OwnR 27 7 Hd.cells w' w.heap.size u [x]) ∧ Below w.heap.size w w' := by
  obtain ⟨g, cap, hc, hv⟩ : ∃ g c, 1 ≤ c ∧ v = .slice (some ⟨g, 0, none⟩) 1 c := by
    rcases h.own.shape2 with ⟨-, hl⟩ | ⟨g, c5, rfl, hc5⟩
    · cases hl
    · exact ⟨g, c5, hc5, rfl⟩
  subst hv
  have HS := Lib.hid h
  obtain ⟨c0, c1⟩ : _ ∧ _ := ⟨h.ptr.cell 0, h.ptr.cell 1⟩
  simp only [List.getElem?_toArray, List.getElem?_cons_zero, List.getElem?_cons_succ] at c0 c1
  have hcn : ¬ cap < 1 := by omega
  clear h
  go_enter Tryz.func19, Tryz.ntmps19
  go_wp2_with fail
  refine wp_drew_tail 19 (by kernel_rfl) (by kernel_rfl) ?_
  simp only [List.take_succ_cons, List.take_zero, List.drop_succ_cons, List.drop_zero]
  repeat (go_big_quiet_step (fail))
  refine wpQuiet_nil ?_
  rintro w3 ⟨dq, rfl⟩
  have HR := Lib.hid (show RowsAt 7 Hd.cells (w.drewN dq) (w.drewN dq).heap.size (some ⟨g, 0, none⟩) [x] from (OwnR.rows (C := 7) (cells := Hd.cells) (fun _ => rfl) HS.out.own).2)
  have HE := Lib.hid (OwnR.nil (e := 27) (C := 7) (cells := Hd.cells) (w.drewN dq) w.heap.size)
  go_wp2_with (at_builtin; (refine app_rows (e := 27) Hd.cells (fun _ => rfl) (by decide) (bytes := 56) (by decide) infoHd13 rfl Tryz.underlying58 onesHd13 (by rfl) _ _ (by rfl) w.heap.size _ [] (by rfl) HE.out (some ⟨g, 0, none⟩) _ 1 [x] rfl (by rfl) HR.out (by simp) (by simp [World.drewN]) ?_); intro v5 w5 hown5 hg5 hor5; have O5 := Lib.hid hown5; have G5 := Lib.hid hg5; clear hown5 hg5 hor5)
  obtain ⟨A5, c5, hv5⟩ := O5.out.shape
  subst hv5
  go_wp2
  go_ret
  exact ⟨⟨_, rfl, O5.out⟩, (below_drewN (Below.refl _ _) dq).grown G5.out (by simp [World.drewN]) (fun m e => by cases e)⟩

end Go.Proofs.YtpnbibokddhheaaGreat

/-
  Floats that are whole numbers: sums and comparisons of them are exact.
-/
namespace Go.Proofs.YtpnbibokddhheaaGreat
open Go

/-- the float of a whole number -/
def flt (n : Nat) : Nat := Ieee.Format.nearest Ieee.double false n 0

theorem dbl_least : Ieee.double.leastPlace = -1074 := by decide
theorem dbl_binade : Ieee.double.binade = 2 ^ 52 := by decide
theorem dbl_inf : Ieee.double.infRung = 2047 * 2 ^ 52 := by decide
theorem dbl_sw : Ieee.double.signWeight = 2 ^ 63 := by decide
theorem log2_mul_pow {n : Nat} (hn : n ≠ 0) (d : Nat) : (n * 2 ^ d).log2 = n.log2 + d := by
  have hp : 0 < 2 ^ d := Nat.two_pow_pos d
  have h0 : n * 2 ^ d ≠ 0 := Nat.mul_ne_zero hn (by omega)
  rw [Nat.log2_eq_iff h0]
  have h1 := Nat.log2_self_le hn
  have h2 := Nat.lt_log2_self (n := n)
  constructor
  · rw [Nat.pow_add]
    exact Nat.mul_le_mul_right _ h1
  · rw [show n.log2 + d + 1 = (n.log2 + 1) + d by omega, Nat.pow_add]
    exact Nat.mul_lt_mul_of_pos_right h2 hp
theorem cut_even0 (n d : Nat) : Ieee.Toward.cut .even false (n * 2 ^ d) d = n := by
  unfold Ieee.Toward.cut
  by_cases hn : n = 0
  · subst hn
    simp [Nat.shiftLeft_eq]
  · have hd : min d ((n * 2 ^ d).log2 + 2) = d := by
      rw [log2_mul_pow hn]
      omega
    rw [hd, Nat.shiftLeft_eq, Nat.one_mul]
    have hp : 0 < 2 ^ d := Nat.two_pow_pos d
    simp only [Nat.mul_div_cancel _ hp, Nat.mul_mod_left]
    have h1 : decide (2 ^ d < 2 * 0) = false := by simp
    have h2 : (2 ^ d == 2 * 0) = false := by simp
    rw [h1, h2]
    simp
theorem minX (X L m : Nat) (hL : L ≤ 52) (hm : m < 2 * X) : min ((L + 1022) * X + m) (2047 * X) = (L + 1022) * X + m := by
  have : (L + 1022) * X ≤ 1074 * X := Nat.mul_le_mul_right _ (by omega)
  omega
theorem ltXf (X L m : Nat) (hL : L ≤ 52) (hm : m < 2 * X) (hm0 : X ≤ m) : (L + 1022) * X + m < 2047 * X ∧ ¬(L + 1022) * X + m < X ∧ ((L + 1022) * X + m) / X = L + 1023 ∧ ((L + 1022) * X + m) % X = m - X := by
  have h1 : (L + 1022) * X ≤ 1074 * X := Nat.mul_le_mul_right _ (by omega)
  have h2 : 1 * X ≤ (L + 1022) * X := Nat.mul_le_mul_right _ (by omega)
  have hX : 0 < X := by omega
  have e : (L + 1022) * X + m = (m - X) + X * (L + 1023) := by
    rw [Nat.mul_comm X, show L + 1023 = (L + 1022) + 1 by omega, Nat.add_mul (L + 1022) 1]
    omega
  refine ⟨by omega, by omega, ?_, ?_⟩
  · rw [e, Nat.add_mul_div_left _ _ hX, Nat.div_eq_of_lt (by omega)]; omega
  · rw [e, Nat.add_mul_mod_self_left, Nat.mod_eq_of_lt (by omega)]
theorem nearest_shift (n k : Nat) (hn : n < 2 ^ 53) : Ieee.Format.nearest Ieee.double false (n * 2 ^ k) (-(k : Int)) = if n = 0 then 0 else (n.log2 + 1022) * 2 ^ 52 + n * 2 ^ (52 - n.log2) := by
  unfold Ieee.Format.nearest
  by_cases h0 : n = 0
  · subst h0
    simp [Ieee.Format.word]
  · have hp : 0 < 2 ^ k := Nat.two_pow_pos k
    rw [if_neg h0, if_neg (Nat.mul_ne_zero h0 (by omega)), log2_mul_pow h0, dbl_least, dbl_binade, dbl_inf]
    have hL : n.log2 ≤ 52 := by
      have := (Nat.log2_lt h0).2 hn
      omega
    have hfb : ((Ieee.double.fractionBits : Nat) : Int) = 52 := rfl
    simp only [hfb]
    obtain ⟨L, hLL⟩ : ∃ L, n.log2 = L := ⟨_, rfl⟩
    have h1 := Nat.log2_self_le h0
    have h2 := Nat.lt_log2_self (n := n)
    rw [hLL] at h1 h2 hL ⊢
    have hlast : max (-(k : Int) + ((L + k : Nat) : Int) - 52) (-1074) = (L : Int) - 52 := by omega
    rw [hlast]
    have hw : ((L : Int) - 52 - -1074).toNat = L + 1022 := by omega
    rw [hw]
    have hcut : Ieee.Toward.cut .even false ((n * 2 ^ k) <<< (-(k : Int) - ((L : Int) - 52)).toNat) (((L : Int) - 52 - -(k : Int)).toNat) = n * 2 ^ (52 - L) := by
      rw [Nat.shiftLeft_eq]
      by_cases hc : k ≤ 52 - L
      · rw [show ((L : Int) - 52 - -(k : Int)).toNat = 0 by omega, show (-(k : Int) - ((L : Int) - 52)).toNat = 52 - L - k by omega]
        have := cut_even0 (n * 2 ^ k * 2 ^ (52 - L - k)) 0
        rw [Nat.pow_zero, Nat.mul_one] at this
        rw [this, Nat.mul_assoc, ← Nat.pow_add]
        congr 2
        omega
      · rw [show ((L : Int) - 52 - -(k : Int)).toNat = k - (52 - L) by omega, show (-(k : Int) - ((L : Int) - 52)).toNat = 0 by omega, Nat.pow_zero, Nat.mul_one]
        have := cut_even0 (n * 2 ^ (52 - L)) (k - (52 - L))
        rw [Nat.mul_assoc, ← Nat.pow_add, show 52 - L + (k - (52 - L)) = k by omega] at this
        exact this
    rw [hcut]
    have hlt : n * 2 ^ (52 - L) < 2 ^ 53 := by
      have : n * 2 ^ (52 - L) < 2 ^ (L + 1) * 2 ^ (52 - L) := Nat.mul_lt_mul_of_pos_right h2 (Nat.two_pow_pos _)
      rw [← Nat.pow_add, show L + 1 + (52 - L) = 53 by omega] at this
      exact this
    unfold Ieee.Format.word
    simp only [Bool.false_eq_true, if_false]
    exact minX _ _ _ hL (by rw [← Nat.pow_succ']; exact hlt)
theorem flt_eq (n : Nat) (hn : n < 2 ^ 53) : flt n = if n = 0 then 0 else (n.log2 + 1022) * 2 ^ 52 + n * 2 ^ (52 - n.log2) := by
  have := nearest_shift n 0 hn
  rw [Nat.pow_zero, Nat.mul_one] at this
  exact this
/-- what it reads as -/
theorem flt_read (n : Nat) (hn : n < 2 ^ 53) : ∃ k : Nat, k ≤ 1074 ∧ Ieee.double.read (flt n) = .number false (n * 2 ^ k) (-(k : Int)) := by
  rw [flt_eq n hn]
  by_cases h0 : n = 0
  · subst h0
    obtain ⟨c, hc⟩ : ∃ c : Nat, c = 1074 := ⟨_, rfl⟩
    refine ⟨c, by omega, ?_⟩
    rw [if_pos rfl, Nat.zero_mul, hc]
    unfold Ieee.Format.read
    rw [dbl_sw, dbl_binade, dbl_least]
    simp
  · rw [if_neg h0]
    have hL : n.log2 ≤ 52 := by
      have := (Nat.log2_lt h0).2 hn
      omega
    have h1 := Nat.log2_self_le h0
    have h2 := Nat.lt_log2_self (n := n)
    obtain ⟨L, hLL⟩ : ∃ L, n.log2 = L := ⟨_, rfl⟩
    rw [hLL] at h1 h2 hL ⊢
    have hlt : n * 2 ^ (52 - L) < 2 ^ 53 := by
      have : n * 2 ^ (52 - L) < 2 ^ (L + 1) * 2 ^ (52 - L) := Nat.mul_lt_mul_of_pos_right h2 (Nat.two_pow_pos _)
      rw [← Nat.pow_add, show L + 1 + (52 - L) = 53 by omega] at this
      exact this
    have hge : 2 ^ 52 ≤ n * 2 ^ (52 - L) := by
      have : 2 ^ L * 2 ^ (52 - L) ≤ n * 2 ^ (52 - L) := Nat.mul_le_mul_right _ h1
      rw [← Nat.pow_add, show L + (52 - L) = 52 by omega] at this
      exact this
    refine ⟨52 - L, by omega, ?_⟩
    generalize n * 2 ^ (52 - L) = m at *
    obtain ⟨r1, r2, r3, r4⟩ := ltXf (2 ^ 52) L m hL (by rw [← Nat.pow_succ']; exact hlt) hge
    unfold Ieee.Format.read
    rw [dbl_sw, dbl_binade, dbl_inf, dbl_least]
    have h63 : (2047 : Nat) * 2 ^ 52 ≤ 2 ^ 63 := by decide
    have r5 : (L + 1022) * 2 ^ 52 + m < 2 ^ 63 := Nat.lt_of_lt_of_le r1 h63
    simp only [Nat.div_eq_of_lt r5, Nat.mod_eq_of_lt r5]
    rw [if_neg r2, if_pos r1, r3, r4]
    simp only [Nat.zero_mod, show ((0 : Nat) == 1) = false from rfl, Ieee.Datum.number.injEq, true_and]
    constructor
    · exact Nat.add_sub_cancel' hge
    · omega
theorem shiftI (n k : Nat) (b : Int) (h : b ≤ -(k : Int)) : Ieee.signed false (n * 2 ^ k) (-(k : Int) - b).toNat = ((n * 2 ^ (-b).toNat : Nat) : Int) := by
  unfold Ieee.signed
  simp only [Bool.false_eq_true, if_false]
  rw [Nat.shiftLeft_eq, Nat.mul_assoc, ← Nat.pow_add, show k + (-(k : Int) - b).toNat = (-b).toNat by omega]
theorem flt_add (a b : Nat) (h : a + b < 2 ^ 53) : floatBits .add .f64 (flt a) (flt b) = some (flt (a + b)) := by
  obtain ⟨i, hi, ea⟩ := flt_read a (by omega)
  obtain ⟨j, hj, eb⟩ := flt_read b (by omega)
  unfold floatBits FloatKind.format Ieee.Format.add
  simp only
  rw [ea, eb]
  unfold Ieee.Datum.sum
  simp only [Option.map_some, Option.some.injEq]
  rw [shiftI a i _ (by omega), shiftI b j _ (by omega)]
  obtain ⟨c, hc⟩ : ∃ c : Nat, min (-(i : Int)) (-(j : Int)) = -(c : Int) ∧ c ≤ 1074 := ⟨max i j, by omega, by omega⟩
  rw [hc.1, show (-(-(c : Int))).toNat = c by omega]
  have hsum : ((a * 2 ^ c : Nat) : Int) + ((b * 2 ^ c : Nat) : Int) = (((a + b) * 2 ^ c : Nat) : Int) := by
    rw [Nat.add_mul]; omega
  rw [hsum]
  have hneg : decide ((((a + b) * 2 ^ c : Nat) : Int) < 0) = false := by
    have : (0 : Int) ≤ (((a + b) * 2 ^ c : Nat) : Int) := Int.natCast_nonneg _
    simpa using this
  rw [hneg]
  simp only [Bool.and_false, ite_self, Int.natAbs_natCast]
  unfold Ieee.Format.write
  simp only
  rw [nearest_shift _ _ h, ← flt_eq _ h]
theorem flt_toInt (n : Nat) (h : n < 2 ^ 53) : floatToIntVal .f64 (flt n) .i64 = some (n : Int) := by
  obtain ⟨i, hi, ea⟩ := flt_read n h
  unfold floatToIntVal FloatKind.decode FloatKind.format
  simp only
  rw [ea]
  unfold Ieee.Datum.toInt Ieee.Datum.integral
  simp only
  have : Ieee.Toward.cut .zero false ((n * 2 ^ i) <<< (-(i : Int)).toNat) (- -(i : Int)).toNat = n := by
    rw [show (-(i : Int)).toNat = 0 by omega, show (- -(i : Int)).toNat = i by omega, Nat.shiftLeft_eq, Nat.pow_zero, Nat.mul_one]
    unfold Ieee.Toward.cut
    by_cases hn : n = 0
    · subst hn
      simp
    · have hd : min i ((n * 2 ^ i).log2 + 2) = i := by
        rw [log2_mul_pow hn]
        omega
      rw [hd, Nat.shiftLeft_eq, Nat.one_mul]
      simp only [Nat.mul_div_cancel _ (Nat.two_pow_pos i)]
      simp
  rw [this]
  unfold Ieee.signed
  simp only [Bool.false_eq_true, if_false, Nat.shiftLeft_eq, Nat.pow_zero, Nat.mul_one]
  have h1 : IntKind.i64.min = -9223372036854775808 := by decide
  have h2 : IntKind.i64.max = 9223372036854775807 := by decide
  rw [h1, h2, if_pos (by omega)]
theorem flt_order (a b : Nat) (ha : a < 2 ^ 53) (hb : b < 2 ^ 53) : Ieee.double.order (flt a) (flt b) = some (compare a b) := by
  obtain ⟨i, hi, ea⟩ := flt_read a (by omega)
  obtain ⟨j, hj, eb⟩ := flt_read b (by omega)
  unfold Ieee.Format.order
  rw [ea, eb]
  unfold Ieee.Datum.order
  simp only [Option.some.injEq]
  rw [shiftI a i _ (by omega), shiftI b j _ (by omega)]
  have hp : 0 < 2 ^ (-min (-(i : Int)) (-(j : Int))).toNat := Nat.two_pow_pos _
  generalize 2 ^ (-min (-(i : Int)) (-(j : Int))).toNat = c at *
  simp only [compare, compareOfLessAndEq]
  by_cases h : a < b
  · have : a * c < b * c := Nat.mul_lt_mul_of_pos_right h hp
    rw [if_pos h, if_pos (by omega)]
  · rw [if_neg h]
    by_cases h2 : a = b
    · subst h2
      simp
    · have : b * c < a * c := Nat.mul_lt_mul_of_pos_right (by omega) hp
      rw [if_neg h2, if_neg (by omega), if_neg (by omega)]
theorem flt_int (n : Nat) : floatOfInt .f64 (n : Int) = flt n := by
  have : decide ((n : Int) < 0) = false := by simp
  show Ieee.Format.nearest Ieee.double (decide ((n : Int) < 0)) (n : Int).natAbs 0 = _
  rw [this]
  rfl
theorem flt_nearest (n : Nat) : FloatKind.f64.nearest (n : Int) = flt n := by
  unfold FloatKind.nearest
  exact flt_int n
end Go.Proofs.YtpnbibokddhheaaGreat

/-
  Sums by Fletcher, in plain words; the two bytes that make them nothing.
-/
namespace Go.Proofs.YtpnbibokddhheaaGreat

def stepF (s : Int × Int) (x : Int) : Int × Int := ((s.1 + x) % 255, (s.2 + (s.1 + x)) % 255)
def sumsF (bs : List Int) : Int × Int := bs.foldl stepF (0, 0)
def secW : List Int → Int
  | [] => 0
  | x :: l => ((l.length : Int) + 1) * x + secW l
theorem sums_from (bs : List Int) : ∀ a b : Int, 0 ≤ a → a < 255 → 0 ≤ b → b < 255 → bs.foldl stepF (a, b) = ((a + bs.sum) % 255, (b + (bs.length : Int) * a + secW bs) % 255) := by
  induction bs with
  | nil =>
    intro a b h1 h2 h3 h4
    simp only [List.foldl_nil, List.sum_nil, List.length_nil, secW, Prod.mk.injEq]
    constructor <;> omega
  | cons x l ih =>
    intro a b h1 h2 h3 h4
    rw [List.foldl_cons]
    unfold stepF
    simp only
    have e1 : 0 ≤ (a + x) % 255 := by omega
    have e2 : (a + x) % 255 < 255 := by omega
    have e3 : 0 ≤ (b + (a + x)) % 255 := by omega
    have e4 : (b + (a + x)) % 255 < 255 := by omega
    have := ih _ _ e1 e2 e3 e4
    unfold stepF at this
    rw [this]
    obtain ⟨p, hp⟩ : ∃ p, (a + x) % 255 = a + x - 255 * p := ⟨(a + x) / 255, by omega⟩
    obtain ⟨q, hq⟩ : ∃ q, (b + (a + x)) % 255 = b + (a + x) - 255 * q := ⟨(b + (a + x)) / 255, by omega⟩
    rw [hp, hq]
    simp only [List.sum_cons, List.length_cons, secW, Prod.mk.injEq]
    constructor
    · omega
    · have e : b + (a + x) - 255 * q + (l.length : Int) * (a + x - 255 * p) + secW l = b + ((l.length + 1 : Nat) : Int) * a + (((l.length : Int) + 1) * x + secW l) + 255 * (-(q + (l.length : Int) * p)) := by grind
      rw [e, Int.add_mul_emod_self_left]
theorem sums_eq (bs : List Int) : sumsF bs = (bs.sum % 255, secW bs % 255) := by
  unfold sumsF
  rw [sums_from bs 0 0 (by omega) (by omega) (by omega) (by omega)]
  simp
theorem secW_append (l m : List Int) : secW (l ++ m) = secW l + (m.length : Int) * l.sum + secW m := by
  induction l with
  | nil => simp [secW]
  | cons x l ih =>
    simp only [List.cons_append, secW, ih, List.length_append, List.sum_cons]
    grind
/-- what the two bytes add -/
theorem secW_two (pre post : List Int) (a b : Int) : (pre ++ a :: b :: post).sum = (pre ++ 0 :: 0 :: post).sum + a + b ∧ secW (pre ++ a :: b :: post) = secW (pre ++ 0 :: 0 :: post) + ((post.length : Int) + 2) * a + ((post.length : Int) + 1) * b := by
  constructor
  · simp only [List.sum_append, List.sum_cons]; omega
  · rw [secW_append, secW_append]
    simp only [secW, List.length_cons]
    grind
/-- the two bytes, of what is left behind the place, and the two sums -/
def fillA (k x y : Int) : Int := ((k - 1) * x - y) % 255
def fillB (k x y : Int) : Int := (y - k * x) % 255
def wholeP (bs : List Int) : Prop := bs.sum % 255 = 0 ∧ secW bs % 255 = 0
theorem fill_iff (pre post : List Int) (i : Int) (hi : 0 ≤ i) (hi2 : i < 255) :
    wholeP (pre ++ i :: ((510 - (pre ++ 0 :: 0 :: post).sum % 255 - i) % 255) :: post) ↔ i = fillA ((post.length : Int) + 2) ((pre ++ 0 :: 0 :: post).sum % 255) (secW (pre ++ 0 :: 0 :: post) % 255) := by
  unfold wholeP fillA
  obtain ⟨h1, h2⟩ := secW_two pre post i ((510 - (pre ++ 0 :: 0 :: post).sum % 255 - i) % 255)
  rw [h1, h2]
  generalize (pre ++ 0 :: 0 :: post).sum = S
  generalize secW (pre ++ 0 :: 0 :: post) = W
  generalize (post.length : Int) = n
  obtain ⟨p, hp⟩ : ∃ p, S = S % 255 + 255 * p := ⟨S / 255, by omega⟩
  obtain ⟨q, hq⟩ : ∃ q, W = W % 255 + 255 * q := ⟨W / 255, by omega⟩
  obtain ⟨x, hx⟩ : ∃ x, S % 255 = x := ⟨_, rfl⟩
  obtain ⟨y, hy⟩ : ∃ y, W % 255 = y := ⟨_, rfl⟩
  obtain ⟨r, hr⟩ : ∃ r, (510 - x - i) % 255 = 510 - x - i - 255 * r := ⟨(510 - x - i) / 255, by omega⟩
  rw [hx] at hp ⊢
  rw [hy] at hq ⊢
  rw [hr, hp, hq]
  have e1 : x + 255 * p + i + (510 - x - i - 255 * r) = 255 * (p + 2 - r) := by omega
  have e2 : y + 255 * q + (n + 2) * i + (n + 1) * (510 - x - i - 255 * r) = (i - ((n + 1) * x - y)) + 255 * (q + (n + 1) * (2 - r)) := by grind
  rw [e1, e2, Int.mul_emod_right, Int.add_mul_emod_self_left, show n + 2 - 1 = n + 1 by omega]
  generalize (n + 1) * x - y = z
  constructor
  · rintro ⟨-, h⟩
    omega
  · intro h
    exact ⟨rfl, by omega⟩
theorem fill_b (k x y : Int) : (510 - x - fillA k x y) % 255 = fillB k x y := by
  unfold fillA fillB
  have e : k * x = (k - 1) * x + x := by grind
  rw [e]
  generalize (k - 1) * x = z
  omega
end Go.Proofs.YtpnbibokddhheaaGreat

/-
  slices.Clone at the slices that a description has.
-/
namespace Go.Proofs.YtpnbibokddhheaaGreat
open Go.RowKit

theorem own_empty {α : Type} {e : TypeId} {C : Nat} {cells : α → List Value} (w : World) : OwnR e C cells (w.alloc (.cells #[] e)) w.heap.size (.slice (some ⟨w.heap.size, 0, none⟩) 0 0) ([] : List α) := by
  exact ⟨by simp, .inr ⟨w.heap.size, 0, #[], rfl, Nat.le_refl _, Blk.new w e #[], by simp, by unfold maxLen; omega, by simp, by simp⟩⟩
theorem infoInt' : (Tryz.prog.info? 3).map (fun i => (i.zero, i.size, i.bytes)) = some (some (.int .i64 0), 1, 8) := by kernel_rfl
theorem onesI (x : Int) : ∀ u ∈ icell x, u.oneCell' = true := by
  intro u hu
  simp [icell] at hu
  subst hu
  rfl
theorem infoLnk : (Tryz.prog.info? 152).map (fun i => (i.zero, i.size, i.bytes)) = some (some (.agg #[.int .i64 0, .int .i64 0, .int .i64 0, .int .i64 0]), 4, 32) := by kernel_rfl
theorem onesL (x : Lnk) : ∀ u ∈ Lnk.cells x, u.oneCell' = true := by
  intro u hu
  simp [Lnk.cells] at hu
  rcases hu with rfl | rfl | rfl | rfl <;> rfl
set_option maxHeartbeats 2000000 in
set_option maxRecDepth 100000 in
theorem cloneInt (A : Option Addr) (c : Nat) (M : List Int) (w : World) (B : Nat) (h : RowsAt 1 icell w B A M) (hB : B ≤ w.heap.size) (hl : M.length ≤ 2 ^ 20) (n : Nat) (hn : n = M.length) :
    Calls Tryz.prog 81 #[.slice A n c] w fun r w' => ∃ v, r = .returned v ∧ OwnR 3 1 icell w' w.heap.size v M ∧ Below w.heap.size w w' := by
  subst hn
  cases A with
  | none =>
    have hM : M = [] := by
      rcases Nat.eq_zero_or_pos M.length with h0 | h0
      · exact List.eq_nil_of_length_eq_zero h0
      · obtain ⟨b, o, e, -⟩ := h h0
        cases e
    subst hM
    clear h
    have hnil := fun (w : World) => Lib.run_eql_slice_nil (P := Tryz.prog) w 29 3 none 0 c 0 0 Tryz.underlying29
    simp only [List.length_nil]
    go_enter Tryz.func81, Tryz.ntmps81
    go_wp2
    go_ret
    exact ⟨_, rfl, OwnR.nil _ _, Below.refl _ _⟩
  | some a =>
    have H := Lib.hid (h.more hB)
    have HE : Hid (OwnR 3 1 icell (w.alloc (.cells #[] 3)) w.heap.size (.slice (some ⟨w.heap.size, 0, none⟩) 0 0) ([] : List Int)) := Lib.hid (own_empty _)
    have hb1 := (Below.refl w.heap.size w).alloc (Nat.le_refl _) (.cells #[] 3)
    have Hb1 := Lib.hid hb1
    clear h hB hb1
    have hnil := fun (w : World) => Lib.run_eql_slice_nil (P := Tryz.prog) w 29 3 (some a) M.length c 0 0 Tryz.underlying29
    go_enter Tryz.func81, Tryz.ntmps81
    go_wp2_with (at_builtin; (refine app_rows (e := 3) icell (fun _ => rfl) (by decide) (bytes := 8) (by decide) infoInt' rfl Tryz.underlying29 onesI (by rfl) _ _ (by rfl) w.heap.size _ [] (by rfl) HE.out (some a) c M.length M rfl (by rfl) ((H.out.below Hb1.out).more (by simp)) (by simp; omega) (by simp) ?_); intro v5 w5 hown5 hg5 hor5; have Hown5 := Lib.hid hown5; have Hb5 := Lib.hid (Hb1.out.grown hg5 (by simp) (fun j hj => (HE.out.block j hj).1)); clear hown5 hg5 hor5)
    go_ret
    exact ⟨_, rfl, by simpa using Hown5.out, Hb5.out⟩
set_option maxHeartbeats 2000000 in
set_option maxRecDepth 100000 in
theorem cloneLnk (A : Option Addr) (c : Nat) (M : List Lnk) (w : World) (B : Nat) (h : RowsAt 4 Lnk.cells w B A M) (hB : B ≤ w.heap.size) (hl : M.length ≤ 2 ^ 20) (n : Nat) (hn : n = M.length) :
    Calls Tryz.prog 80 #[.slice A n c] w fun r w' => ∃ v, r = .returned v ∧ OwnR 152 4 Lnk.cells w' w.heap.size v M ∧ Below w.heap.size w w' := by
  subst hn
  cases A with
  | none =>
    have hM : M = [] := by
      rcases Nat.eq_zero_or_pos M.length with h0 | h0
      · exact List.eq_nil_of_length_eq_zero h0
      · obtain ⟨b, o, e, -⟩ := h h0
        cases e
    subst hM
    clear h
    have hnil := fun (w : World) => Lib.run_eql_slice_nil (P := Tryz.prog) w 28 152 none 0 c 0 0 Tryz.underlying28
    simp only [List.length_nil]
    go_enter Tryz.func80, Tryz.ntmps80
    go_wp2
    go_ret
    exact ⟨_, rfl, OwnR.nil _ _, Below.refl _ _⟩
  | some a =>
    have H := Lib.hid (h.more hB)
    have HE : Hid (OwnR 152 4 Lnk.cells (w.alloc (.cells #[] 152)) w.heap.size (.slice (some ⟨w.heap.size, 0, none⟩) 0 0) ([] : List Lnk)) := Lib.hid (own_empty _)
    have hb1 := (Below.refl w.heap.size w).alloc (Nat.le_refl _) (.cells #[] 152)
    have Hb1 := Lib.hid hb1
    clear h hB hb1
    have hnil := fun (w : World) => Lib.run_eql_slice_nil (P := Tryz.prog) w 28 152 (some a) M.length c 0 0 Tryz.underlying28
    go_enter Tryz.func80, Tryz.ntmps80
    go_wp2_with (at_builtin; (refine app_rows (e := 152) Lnk.cells (fun _ => rfl) (by decide) (bytes := 32) (by decide) infoLnk rfl Tryz.underlying28 onesL (by rfl) _ _ (by rfl) w.heap.size _ [] (by rfl) HE.out (some a) c M.length M rfl (by rfl) ((H.out.below Hb1.out).more (by simp)) (by simp; omega) (by simp) ?_); intro v5 w5 hown5 hg5 hor5; have Hown5 := Lib.hid hown5; have Hb5 := Lib.hid (Hb1.out.grown hg5 (by simp) (fun j hj => (HE.out.block j hj).1)); clear hown5 hg5 hor5)
    go_ret
    exact ⟨_, rfl, by simpa using Hown5.out, Hb5.out⟩

end Go.Proofs.YtpnbibokddhheaaGreat

/-
  Numbers as bytes: the program's way.
-/
namespace Go.Proofs.YtpnbibokddhheaaGreat
open Go.RowKit

def bcell (x : Int) : List Value := [.int .u8 x]
abbrev OwnB (w : World) (B : Nat) (v : Value) (l : List Int) : Prop := OwnR 5 1 bcell w B v l
theorem infoB : (Tryz.prog.info? 5).map (fun i => (i.zero, i.size, i.bytes)) = some (some (.int .u8 0), 1, 1) := by kernel_rfl
theorem onesB (x : Int) : ∀ u ∈ bcell x, u.oneCell' = true := by
  intro u hu
  simp [bcell] at hu
  subst hu
  rfl
def byteI (n : Int) (k : Nat) : Int := n / 2 ^ (8 * k) % 256
/-- a number's lowest bytes, the highest first -/
def beL (k : Nat) (n : Int) : List Int := (List.range k).reverse.map (byteI n)
theorem beL_len (k : Nat) (n : Int) : (beL k n).length = k := by simp [beL]
theorem beL_at (k : Nat) (n : Int) (j : Nat) (hj : j < k) : (beL k n)[j]? = some (byteI n (k - 1 - j)) := by
  unfold beL
  rw [List.getElem?_map, List.getElem?_reverse (by simpa using hj), List.length_range, List.getElem?_range (by omega)]
  rfl
theorem beL_take (k : Nat) (n : Int) (j : Nat) (hj : j < k) : (beL k n).take (j + 1) = (beL k n).take j ++ [byteI n (k - 1 - j)] := by
  have hl : j < (beL k n).length := by rw [beL_len]; exact hj
  rw [List.take_succ_eq_append_getElem hl]
  have := beL_at k n j hj
  rw [List.getElem?_eq_getElem hl] at this
  rw [Option.some.inj this]

set_option maxHeartbeats 1000000 in
theorem wide_v (k : Nat) (h1 : 1 ≤ k) (h4 : k ≤ 4) (w : World) : Calls Tryz.prog 134 #[.int .i64 k] w fun r w' => r = .returned (.int .i64 k) ∧ w = w' := by
  go_enter Tryz.func134, Tryz.ntmps134
  go_wp2
  go_ret
  refine ⟨?_, rfl⟩
  have e1 : max (k : Int) 1 = k := by omega
  have e2 : min (k : Int) 4 = k := by omega
  first
    | rfl
    | (show Ending.returned (.int .i64 (min (max (k : Int) 1) 4)) = _; rw [e1, e2])
theorem wrap_u8 (z : Int) : IntKind.u8.wrap z = z % 256 := by simp [IntKind.wrap, IntKind.bits, IntKind.signed]

set_option maxHeartbeats 4000000 in
set_option maxRecDepth 100000 in
theorem quadPut (A : Option Addr) (c : Nat) (L : List Int) (k : Nat) (h1 : 1 ≤ k) (h4 : k ≤ 4) (A2 : Option Addr) (c2 : Nat) (ns : List Int) (w : World) (B : Nat) (hL : RowsAt 1 bcell w B A L) (hN : RowsAt 1 icell w B A2 ns) (hB : B ≤ w.heap.size) (hll : L.length ≤ 2 ^ 20) (hnl : ns.length ≤ 2 ^ 16) (n n2 : Nat) (hn : n = L.length) (hn2 : n2 = ns.length) :
    Calls Tryz.prog 130 #[.slice A n c, .int .i64 k, .slice A2 n2 c2] w fun r w' => ∃ v, r = .returned v ∧ OwnB w' w.heap.size v (L ++ ns.flatMap (beL k)) ∧ Below w.heap.size w w' := by
  subst hn hn2
  have HL := Lib.hid (hL.more hB)
  have HN := Lib.hid (hN.more hB)
  have HE := Lib.hid (OwnR.nil (e := 5) (C := 1) (cells := bcell) w w.heap.size)
  clear hL hN hB
  go_enter Tryz.func130, Tryz.ntmps130
  go_wp2_with (at_builtin; (refine app_rows (e := 5) bcell (fun _ => rfl) (by decide) (bytes := 1) (by decide) infoB rfl Tryz.underlying24 onesB (by rfl) _ _ (by rfl) w.heap.size _ [] (by rfl) HE.out A c L.length L rfl (by rfl) HL.out (by simp; omega) (Nat.le_refl _) ?_); intro v5 w5 hown5 hg5 hor5; have Hown5 := Lib.hid hown5; have Hb5 := Lib.hid ((Below.refl w.heap.size w).grown hg5 (Nat.le_refl _) (fun j hj => (HE.out.block j hj).1)); clear hown5 hg5 hor5)
  go_loopw [7, 15] (fun o i wr => ∃ (j : Nat) (M : List Int), i = .int .i64 j ∧ j ≤ ns.length ∧ M = L ++ (ns.take j).flatMap (beL k) ∧ M.length = L.length + j * k ∧ OwnB wr w.heap.size o M ∧ Below w.heap.size w wr) (fun _ i _ => ns.length - (intOf i).toNat)
  case atStart => exact ⟨0, L, rfl, Nat.zero_le _, by simp, by simp, by simpa using Hown5.out, Hb5.out⟩
  case round =>
    obtain ⟨j, M, rfl, hj, hM, hMl, hown, hb⟩ := hrel
    have hjk : j * k ≤ 2 ^ 18 := by
      calc j * k ≤ 2 ^ 16 * 4 := Nat.mul_le_mul (by omega) h4
        _ = 2 ^ 18 := by decide
    have Hown := Lib.hid hown
    have Hb := Lib.hid hb
    have HM := Lib.hid hM
    clear hM
    by_cases hlt : j < ns.length
    · obtain ⟨g, o, rfl, -, z0⟩ := row_int (HN.out.below hb) j hlt
      have hjl : (j : Int) < (ns.length : Int) := by omega
      have hs := List.take_succ_eq_append_getElem hlt
      generalize ns[j] = y at *
      have Hs := Lib.hid hs
      clear hs hown hb
      go_wp2_with (go_at_call 134; (with_reducible refine Calls.mono (wide_v k h1 h4 _) ?_); rintro r w2 ⟨rfl, rfl⟩)
      go_loopw [7, 10] (fun o i wq => ∃ (q : Nat) (K : List Int), i = .int .i64 ((k : Int) - 1 - q) ∧ q ≤ k ∧ K = M ++ (beL k y).take q ∧ K.length = M.length + q ∧ OwnB wq w.heap.size o K ∧ Below w.heap.size w wq) (fun _ i _ => ((intOf i) + 1).toNat)
      case atStart => exact ⟨0, M, by simp, Nat.zero_le _, by simp, by simp, Hown.out, Hb.out⟩
      case round =>
        obtain ⟨wo, rfl⟩ : ∃ wo : World, wo = wr := ⟨_, rfl⟩
        obtain ⟨q, K, rfl, hq, hK, hKl, hown, hb⟩ := hrel
        obtain ⟨A6, c6, hv6⟩ := hown.shape
        rw [hKl] at hv6
        subst hv6
        have HownK := Lib.hid hown
        have Hbq := Lib.hid hb
        have HK := Lib.hid hK
        clear hK hown hb
        by_cases hqk : q < k
        · obtain ⟨i, hi⟩ : ∃ i : Nat, (k : Int) - 1 - q = i ∧ i = k - 1 - q := ⟨k - 1 - q, by omega, rfl⟩
          rw [hi.1]
          have hbt := beL_take k y q hqk
          rw [← hi.2] at hbt
          have Hbt := Lib.hid hbt
          have Hi := Lib.hid hi
          have hi3 : i ≤ 3 := by omega
          clear hbt hi
          have hKn : K.length + 1 ≤ 2 ^ 30 := by omega
          go_wp2_with (at_builtin; (refine app_row (e := 5) bcell (fun _ => rfl) (by decide) (bytes := 1) (by decide) infoB rfl Tryz.underlying24 onesB (by rfl) _ _ (by rfl) w.heap.size _ K (by rfl) (HownK.out.alloc _) wo.heap.size (byteI y i) (by rfl) (Blk.new _ _ _) hKn (by have := Hbq.out.size; simp; omega) ?_); intro v7 w7 hown7 hg7 hor7; have Hown7 := Lib.hid hown7; have Hb7 := Lib.hid ((Hbq.out.alloc Hbq.out.size _).grown hg7 (by have := Hbq.out.size; simp; omega) (fun j hj => (HownK.out.block j hj).1)); clear hown7 hg7 hor7)
          go_roundw
          case measure => (first | (simp [intOf]; done) | (simp [intOf]; omega))
          case rel => exact ⟨q + 1, K ++ [byteI y i], by rw [show ((k : Int) - 1 - ((q + 1 : Nat) : Int)) = (i : Int) - 1 by have := Hi.out.1; omega], hqk, by rw [Hbt.out, HK.out, List.append_assoc], by rw [List.length_append, hKl, List.length_singleton, Nat.add_assoc], Hown7.out, Hb7.out⟩
        · have hqk' : q = k := by omega
          subst hqk'
          have Hfin := Lib.hid (show K = L ++ (ns.take (j + 1)).flatMap (beL q) by
            have e : (beL q y).take q = beL q y := List.take_of_length_le (by rw [beL_len]; exact Nat.le_refl _)
            rw [HK.out, e, HM.out, Hs.out, List.flatMap_append, List.append_assoc]
            simp)
          have hneg : ((q : Int) - 1 - q) = -1 := by omega
          rw [hneg]
          clear hneg
          go_wp2
          go_roundw
          case measure => simp [intOf]; omega
          case rel => exact ⟨j + 1, K, by go_num, hlt, Hfin.out, by rw [hKl, hMl, Nat.add_mul]; omega, by rw [← hKl] at *; exact HownK.out, Hbq.out⟩
    · have hjj : j = ns.length := by omega
      subst hjj
      have Hfin := Lib.hid (show M = L ++ ns.flatMap (beL k) by rw [HM.out, List.take_length])
      obtain ⟨A6, c6, hv6⟩ := hown.shape
      subst hv6
      clear hown hb
      go_wp2
      go_ret
      exact ⟨_, rfl, by rw [← Hfin.out]; exact Hown.out, Hb.out⟩

end Go.Proofs.YtpnbibokddhheaaGreat

/-
  Sums by Fletcher: the program's way.
-/
namespace Go.Proofs.YtpnbibokddhheaaGreat
open Go.RowKit

theorem held_em (n : Int) : (n.tmod 255 + 255) % 255 = n % 255 := by
  rcases Int.le_total 0 n with hp | hp
  · rw [Int.tmod_eq_emod_of_nonneg hp]
    omega
  · have e : n.tmod 255 = -((-n) % 255) := by
      rw [← Int.tmod_eq_emod_of_nonneg (show 0 ≤ -n by omega), Int.neg_tmod, Int.neg_neg]
    rw [e]
    omega
theorem tmod_small (n : Int) : -255 < n.tmod 255 ∧ n.tmod 255 < 255 := by
  rcases Int.le_total 0 n with hp | hp
  · rw [Int.tmod_eq_emod_of_nonneg hp]; omega
  · have e : n.tmod 255 = -((-n) % 255) := by
      rw [← Int.tmod_eq_emod_of_nonneg (show 0 ≤ -n by omega), Int.neg_tmod, Int.neg_neg]
    rw [e]; omega
set_option maxHeartbeats 1000000 in
theorem held_v (n : Int) {m : Int} (hm : n % 255 = m) (w : World) : Calls Tryz.prog 187 #[.int .i64 n] w fun r w' => r = .returned (.int .i64 m) ∧ w = w' := by
  obtain ⟨t1, t2⟩ := tmod_small n
  have hm : (n.tmod 255 + 255) % 255 = m := (held_em n).trans hm
  have Hm := Lib.hid hm
  clear hm
  go_enter Tryz.func187, Tryz.ntmps187
  go_wp2
  go_ret
  refine ⟨?_, rfl⟩
  show Ending.returned (.int .i64 ((n.tmod 255 + 255) % 255)) = _
  rw [Hm.out]
theorem f64Int (b : Nat) (n : Int) (h : floatToIntVal .f64 b .i64 = some n) (w : World) : (convert 142 3 (.float .f64 b)).run Tryz.prog w = .ok (.int .i64 n) w :=
  run_convert_float_int w 142 3 .f64 .i64 b n (by rw [Tryz.underlying142]; rfl) Tryz.underlying3 h
theorem cAdd (T : TypeId) (a b c d : Nat) (h1 : a + c < 2 ^ 53) (h2 : b + d < 2 ^ 53) (w : World) : (binOp .add T (.complex .f64 (flt a) (flt b)) (.complex .f64 (flt c) (flt d))).run Tryz.prog w = .ok (.complex .f64 (flt (a + c)) (flt (b + d))) w := by
  refine run_complex_sum w .add (.inl rfl) T .f64 _ _ _ _ _ _ ?_
  unfold cSumBits
  rw [flt_add _ _ h1, flt_add _ _ h2]
  rfl
theorem flt_zero : flt 0 = 0 := by rw [flt_eq 0 (by omega)]; rfl
def byteOk (x : Int) : Prop := 0 ≤ x ∧ x < 256
theorem row_byte {w : World} {B : Nat} {A : Option Addr} {l : List Int} (h : RowsAt 1 bcell w B A l) (k : Nat) (hk : k < l.length) :
    ∃ b o, A = some ⟨b, o, none⟩ ∧ b < B ∧ w.cell? ⟨b, o + k, none⟩ = some (.int .u8 l[k]) := by
  obtain ⟨b, o, e, hb, hc⟩ := h (by omega)
  exact ⟨b, o, e, hb, by simpa using hc k hk 0 _ (by omega) rfl⟩

set_option maxHeartbeats 4000000 in
set_option maxRecDepth 100000 in
theorem Sums_any (A : Option Addr) (c : Nat) (L : List Int) (w : World) (B : Nat) (hL : RowsAt 1 bcell w B A L) (hB : B ≤ w.heap.size) (hbs : ∀ x ∈ L, byteOk x) (hm : L.length ≤ 2 ^ 30) (n : Nat) (hn : n = L.length) :
    Calls Tryz.prog 186 #[.slice A n c] w fun r w' => r = .returned (.tuple #[.int .i64 (sumsF L).1, .int .i64 (sumsF L).2]) ∧ w = w' := by
  subst hn
  have HL := Lib.hid (hL.more hB)
  have Hbs := Lib.hid hbs
  have f0 := flt_zero
  clear hL hB hbs
  go_enter Tryz.func186, Tryz.ntmps186
  go_wp2
  go_loopw [4, 9] (fun cv i wr => ∃ (k a b : Nat), i = .int .i64 k ∧ cv = .complex .f64 (flt a) (flt b) ∧ k ≤ L.length ∧ a < 255 ∧ b < 255 ∧ (L.take k).foldl stepF (0, 0) = ((a : Int), (b : Int)) ∧ wr = w) (fun _ i _ => L.length - (intOf i).toNat)
  case atStart => exact ⟨0, 0, 0, rfl, by rw [f0], Nat.zero_le _, by omega, by omega, rfl, rfl⟩
  case round =>
    obtain ⟨k, a, b, rfl, rfl, hk, ha, hb, hf, rfl⟩ := hrel
    clear f0
    by_cases hlt : k < L.length
    · obtain ⟨g, o, rfl, -, z0⟩ := row_byte HL.out k hlt
      have hkl : (k : Int) < (L.length : Int) := by omega
      obtain ⟨x, hx, hx2⟩ : ∃ x : Nat, L[k] = (x : Int) ∧ x < 256 := by
        have := Hbs.out L[k] (List.getElem_mem hlt)
        exact ⟨L[k].toNat, by have := this.1; omega, by have := this.2; have := this; omega⟩
      have hs : (L.take (k + 1)).foldl stepF (0, 0) = ((((a + x) % 255 : Nat) : Int), (((b + (a + x)) % 255 : Nat) : Int)) := by
        rw [List.take_succ_eq_append_getElem hlt, List.foldl_append, hf, hx]
        simp [stepF]
      rw [hx] at z0
      have Hs := Lib.hid hs
      clear hs hx hf
      have fx := flt_int x
      have c1 := fun T w => cAdd T a b x 0 (by omega) (by omega) w
      have c2 := fun T w => cAdd T (a + x) b 0 (a + x) (by omega) (by omega) w
      rw [flt_zero] at c1 c2
      obtain ⟨m1, hm1⟩ : ∃ m1 : Int, ((a + x : Nat) : Int) = m1 := ⟨_, rfl⟩
      obtain ⟨m2, hm2⟩ : ∃ m2 : Int, ((b + (a + x) : Nat) : Int) = m2 := ⟨_, rfl⟩
      have i1 := f64Int _ m1 (by rw [← hm1]; exact flt_toInt (a + x) (by omega))
      have i2 := f64Int _ m2 (by rw [← hm2]; exact flt_toInt (b + (a + x)) (by omega))
      obtain ⟨r1, hr1⟩ : ∃ r1 : Nat, (a + x) % 255 = r1 := ⟨_, rfl⟩
      obtain ⟨r2, hr2⟩ : ∃ r2 : Nat, (b + (a + x)) % 255 = r2 := ⟨_, rfl⟩
      have G1 := Lib.hid (show m1 % 255 = (r1 : Int) by rw [← hm1, ← hr1]; omega)
      have G2 := Lib.hid (show m2 % 255 = (r2 : Int) by rw [← hm2, ← hr2]; omega)
      have fr1 := flt_int r1
      have fr2 := flt_int r2
      rw [hr1, hr2] at Hs
      have L1 := Lib.hid (show r1 < 255 ∧ r2 < 255 by omega)
      clear hm1 hm2 hr1 hr2
      go_wp2_with (first
        | (go_at_call 187; (with_reducible refine Calls.mono (held_v m1 G1.out _) ?_); rintro r w2 ⟨rfl, rfl⟩)
        | (go_at_call 187; (with_reducible refine Calls.mono (held_v m2 G2.out _) ?_); rintro r w2 ⟨rfl, rfl⟩))
      go_roundw
      case measure => simp [intOf]; omega
      case rel => exact ⟨k + 1, r1, r2, by go_num, rfl, hlt, L1.out.1, L1.out.2, Hs.out, trivial⟩
    · have hkk : k = L.length := by omega
      subst hkk
      rw [List.take_length] at hf
      have hres : sumsF L = ((a : Int), (b : Int)) := hf
      have Hres := Lib.hid hres
      have i1 := f64Int _ (a : Int) (flt_toInt a (by omega))
      have i2 := f64Int _ (b : Int) (flt_toInt b (by omega))
      clear hf hres
      go_wp2
      go_ret2
      exact ⟨by rw [Hres.out]; rfl, rfl⟩

end Go.Proofs.YtpnbibokddhheaaGreat

/-
  Two bytes that make sums nothing: the program's way.
-/
namespace Go.Proofs.YtpnbibokddhheaaGreat
open Go.RowKit

theorem set_flatB (l : List Int) (k : Nat) (x : Int) : (l.set k x).flatMap bcell = (l.flatMap bcell).set k (.int .u8 x) := by
  induction l generalizing k with
  | nil => simp
  | cons d l ih =>
    cases k with
    | zero => simp [bcell]
    | succ k => simp only [List.set_cons_succ, List.flatMap_cons, ih k, bcell, List.cons_append, List.nil_append]
section
variable {w : World} {B g cap n : Nat} {l : List Int}
theorem OwnB.set1 (h : OwnB w B (.slice (some ⟨g, 0, none⟩) n cap) l) (hn : n = l.length) (k : Nat) (x : Int) : OwnB (w.setCell ⟨g, k, none⟩ (.int .u8 x)) B (.slice (some ⟨g, 0, none⟩) n cap) (l.set k x) := by
  subst hn
  unfold OwnB OwnR
  rw [set_flatB, List.length_set]
  exact (World.ownsRow.stored h k (.int .u8 x)).1
theorem OwnB.at_ (h : OwnB w B (.slice (some ⟨g, 0, none⟩) n cap) l) (k : Nat) (hk : k < l.length) : w.cell? ⟨g, k, none⟩ = some (.int .u8 l[k]) ∧ w.frozen? ⟨g, k, none⟩ = false := by
  obtain ⟨b, o, e, -, z⟩ := row_byte (OwnR.rows (C := 1) (cells := bcell) (fun _ => rfl) h).2 k hk
  injection e with e
  injection e with e1 e2
  subst e1 e2
  refine ⟨by simpa using z, ?_⟩
  rcases h.2 with ⟨hv, -⟩ | ⟨g', cap', cur, hv, -, hb, -⟩
  · cases hv
  · simp only [Value.slice.injEq, Option.some.injEq, Addr.mk.injEq, and_true] at hv
    obtain ⟨rfl, -, -⟩ := hv
    simp [World.frozen?, hb]
theorem OwnB.lt (h : OwnB w B (.slice (some ⟨g, 0, none⟩) n cap) l) : B ≤ g ∧ g < w.heap.size := h.block g rfl
end
theorem own_pair {w : World} {B n : Nat} {v : Value} {L : List Int} (h : OwnR 5 1 bcell w B v ([] ++ L)) (hn : n = L.length) (h16 : 16 ≤ n) :
    ∃ g c a b, v = .slice (some ⟨g, 0, none⟩) n c ∧ OwnB w B (.slice (some ⟨g, 0, none⟩) n c) L ∧ w.cell? ⟨g, 14, none⟩ = some (.int .u8 a) ∧ w.frozen? ⟨g, 14, none⟩ = false ∧ w.cell? ⟨g, 15, none⟩ = some (.int .u8 b) ∧ w.frozen? ⟨g, 15, none⟩ = false := by
  rw [List.nil_append] at h
  subst hn
  rcases h.shape2 with ⟨-, h0⟩ | ⟨g, c5, rfl, hc5⟩
  · rw [h0] at h16; simp at h16
  · exact ⟨g, c5, _, _, rfl, h, (OwnB.at_ h 14 (by omega)).1, (OwnB.at_ h 14 (by omega)).2, (OwnB.at_ h 15 (by omega)).1, (OwnB.at_ h 15 (by omega)).2⟩
def zero2 (bs : List Int) : List Int := (bs.set 14 0).set 15 0
def bytA (bs : List Int) : Int := fillA ((bs.length : Int) - 14) (sumsF (zero2 bs)).1 (sumsF (zero2 bs)).2
def bytB (bs : List Int) : Int := fillB ((bs.length : Int) - 14) (sumsF (zero2 bs)).1 (sumsF (zero2 bs)).2
def fillL (bs : List Int) : List Int := ((zero2 bs).set 14 (bytA bs)).set 15 (bytB bs)
theorem sumsF_lt (bs : List Int) : 0 ≤ (sumsF bs).1 ∧ (sumsF bs).1 < 255 ∧ 0 ≤ (sumsF bs).2 ∧ (sumsF bs).2 < 255 := by
  rw [sums_eq]
  simp only
  omega
theorem zero2_ok {bs : List Int} (h : ∀ x ∈ bs, byteOk x) : ∀ x ∈ zero2 bs, byteOk x := by
  intro x hx
  unfold zero2 at hx
  rcases List.mem_or_eq_of_mem_set hx with hx | rfl
  · rcases List.mem_or_eq_of_mem_set hx with hx | rfl
    · exact h x hx
    · exact ⟨by omega, by omega⟩
  · exact ⟨by omega, by omega⟩

set_option maxHeartbeats 4000000 in
set_option maxRecDepth 100000 in
theorem Fill_any (A : Option Addr) (c : Nat) (L : List Int) (w : World) (B : Nat) (hL : RowsAt 1 bcell w B A L) (hB : B ≤ w.heap.size) (hbs : ∀ x ∈ L, byteOk x) (h16 : 16 ≤ L.length) (hm : L.length ≤ 2 ^ 20) (n : Nat) (hn : n = L.length) :
    Calls Tryz.prog 132 #[.slice A n c, .int .i64 14] w fun r w' => ∃ v, r = .returned (.tuple #[v, .bool true]) ∧ OwnB w' w.heap.size v (fillL L) ∧ Below w.heap.size w w' := by
  have HL := Lib.hid (hL.more hB)
  have Hbs := Lib.hid hbs
  have HE := Lib.hid (OwnR.nil (e := 5) (C := 1) (cells := bcell) w w.heap.size)
  have hnl : ¬(n : Int) - 2 < 14 := by omega
  have Hn := Lib.hid hn
  have hn2 : 16 ≤ n := by omega
  have hm2 : n ≤ 2 ^ 20 := by omega
  clear hL hB hbs hn h16 hm
  go_enter Tryz.func132, Tryz.ntmps132
  go_wp2_with (at_builtin; (refine app_rows (e := 5) bcell (fun _ => rfl) (by decide) (bytes := 1) (by decide) infoB rfl Tryz.underlying24 onesB (by rfl) _ _ (by rfl) w.heap.size _ [] (by rfl) HE.out A c n L Hn.out (by rfl) HL.out (by have := Hn.out; simp; omega) (Nat.le_refl _) ?_); intro v5 w5 hown5 hg5 hor5; have Hb5 := Lib.hid ((Below.refl w.heap.size w).grown hg5 (Nat.le_refl _) (fun j hj => (HE.out.block j hj).1)); obtain ⟨g, c5, a0, b0, rfl, hown6, z1, q1, z2, q2⟩ := own_pair hown5 Hn.out hn2; have Hown5 := Lib.hid hown6; clear hown5 hg5 hor5 hown6)
  have hown7 := (Hown5.out.set1 Hn.out 14 0).set1 (by rw [List.length_set]; exact Hn.out) 15 0
  have hgl := Hown5.out.lt
  have hb7 := (Hb5.out.setCell (p := ⟨g, 14, none⟩) hgl.1 (.int .u8 0)).setCell (p := ⟨g, 15, none⟩) hgl.1 (.int .u8 0)
  obtain ⟨w7, hW7⟩ : ∃ w7, (w5.setCell ⟨g, 14, none⟩ (.int .u8 0)).setCell ⟨g, 15, none⟩ (.int .u8 0) = w7 := ⟨_, rfl⟩
  rw [hW7] at hown7 hb7 ⊢
  have hzl : n = (zero2 L).length := by unfold zero2; rw [List.length_set, List.length_set]; exact Hn.out
  have hown7 : OwnB w7 w.heap.size (.slice (some ⟨g, 0, none⟩) n c5) (zero2 L) := hown7
  obtain ⟨a2, z3, q3⟩ : ∃ a2, w7.cell? ⟨g, 14, none⟩ = some (.int .u8 a2) ∧ w7.frozen? ⟨g, 14, none⟩ = false := ⟨_, hown7.at_ 14 (by omega)⟩
  obtain ⟨b2, z4, q4⟩ : ∃ b2, w7.cell? ⟨g, 15, none⟩ = some (.int .u8 b2) ∧ w7.frozen? ⟨g, 15, none⟩ = false := ⟨_, hown7.at_ 15 (by omega)⟩
  have hS := Sums_any (some ⟨g, 0, none⟩) c5 (zero2 L) w7 w7.heap.size (OwnR.rows (C := 1) (cells := bcell) (fun _ => rfl) hown7).2 (Nat.le_refl _) (zero2_ok Hbs.out) (by omega) n hzl
  obtain ⟨l1, l2, l3, l4⟩ := sumsF_lt (zero2 L)
  obtain ⟨x, hx⟩ : ∃ x, (sumsF (zero2 L)).1 = x := ⟨_, rfl⟩
  obtain ⟨y, hy⟩ : ∃ y, (sumsF (zero2 L)).2 = y := ⟨_, rfl⟩
  rw [hx, hy] at hS
  rw [hx] at l1 l2
  rw [hy] at l3 l4
  have hA : bytA L = ((((n : Int) - 14) - 1) * x - y) % 255 := by unfold bytA fillA; rw [hx, hy, Hn.out]
  have hBB : bytB L = (y - ((n : Int) - 14) * x) % 255 := by unfold bytB fillB; rw [hx, hy, Hn.out]
  have k1 : (0 : Int) ≤ ((n : Int) - 14 - 1) * x := Int.mul_nonneg (by omega) l1
  have k2 : ((n : Int) - 14 - 1) * x ≤ 2 ^ 20 * 255 := Int.mul_le_mul (by omega) (by omega) l1 (by omega)
  have k3 : (0 : Int) ≤ ((n : Int) - 14) * x := Int.mul_nonneg (by omega) l1
  have k4 : ((n : Int) - 14) * x ≤ 2 ^ 20 * 255 := Int.mul_le_mul (by omega) (by omega) l1 (by omega)
  have HS := Lib.hid hS
  have Hown7 := Lib.hid hown7
  have Hb7 := Lib.hid hb7
  have HA := Lib.hid hA
  have HBB := Lib.hid hBB
  clear hS hown7 hb7 hA hBB hx hy hW7 z1 q1 z2 q2 hzl hgl
  obtain ⟨a1, ha1⟩ : ∃ a1, bytA L = a1 := ⟨_, rfl⟩
  obtain ⟨b1, hb1⟩ : ∃ b1, bytB L = b1 := ⟨_, rfl⟩
  have Ha1 := Lib.hid ha1
  have Hb1 := Lib.hid hb1
  have e1 : a1 % 256 = a1 := by rw [← ha1, HA.out]; omega
  have e2 : b1 % 256 = b1 := by rw [← hb1, HBB.out]; omega
  clear ha1 hb1
  go_wp2_with fail
  with_reducible refine Calls.mono HS.out ?_
  rintro r w8 ⟨rfl, rfl⟩
  have HH1 := Lib.hid (fun w => held_v (((n : Int) - 14 - 1) * x - y) (m := a1) (by rw [← Ha1.out, HA.out]) w)
  have HH2 := Lib.hid (fun w => held_v (y - ((n : Int) - 14) * x) (m := b1) (by rw [← Hb1.out, HBB.out]) w)
  go_wp2_with (first
    | (go_at_call 187; (with_reducible refine Calls.mono (HH1.out _) ?_); rintro r w2 ⟨rfl, rfl⟩)
    | (go_at_call 187; (with_reducible refine Calls.mono (HH2.out _) ?_); rintro r w2 ⟨rfl, rfl⟩))
  go_ret2
  refine ⟨_, rfl, ?_, ?_⟩
  · have h1 := (Hown7.out.set1 (by unfold zero2; rw [List.length_set, List.length_set]; exact Hn.out) 14 a1).set1 (by unfold zero2; rw [List.length_set, List.length_set, List.length_set]; exact Hn.out) 15 b1
    unfold fillL
    rw [Ha1.out, Hb1.out]
    exact h1
  · exact (Hb7.out.setCell (p := ⟨g, 14, none⟩) (Hown7.out.lt).1 _).setCell (p := ⟨g, 15, none⟩) (Hown7.out.lt).1 _

end Go.Proofs.YtpnbibokddhheaaGreat
