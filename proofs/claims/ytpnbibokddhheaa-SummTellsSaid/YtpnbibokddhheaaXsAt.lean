/-
  Descriptions by their words; rows of them that the program made itself; the document's word for alike; keys.
-/
import Derived.Laws.StructEq
import Derived.RegionTactic
import Derived.Test.YtpnbibokddhheaaLsRight
import Derived.Test.YtpnbibokddhheaaOwnR
import Derived.Test.YtpnbibokddhheaaRegionP
import Derived.Test.YtpnbibokddhheaaQuietTail
import Derived.Test.YtpnbibokddhheaaKyPlain
namespace Go.Proofs.Ytpnbibokddhheaa
open Go.RowKit Go.Sort

abbrev VX := Hd × List Lnk × List Int
def vX (x : Lsa) : VX := (x.head, x.links, x.members)
def keyX (x : Lsa) : K3 := keyH x.head
def keyV (v : VX) : K3 := keyH v.1
theorem keyV_vX (x : Lsa) : keyV (vX x) = keyX x := rfl
theorem map_keys (L : List Lsa) : (L.map vX).map keyV = L.map keyX := by rw [List.map_map]; rfl
set_option maxHeartbeats 400000 in
theorem keyOf_any (a b c d e f g : Int) (w : World) : Calls Try.prog 47 #[.agg #[.int .i64 a, .int .i64 b, .int .i64 c, .int .i64 d, .int .i64 e, .int .i64 f, .int .i64 g]] w
    fun r w' => r = .returned (.agg #[.int .i64 b, .int .i64 c, .int .i64 d]) ∧ Below w.heap.size w w' := by
  go_enter Try.func47, Try.ntmps47
  go_wp2
  refine bodyPost_ret (v := .agg #[.int .i64 b, .int .i64 c, .int .i64 d]) (by simp [results, Try.results47, go_sem]) rfl ⟨rfl, ?_⟩
  exact ((Below.refl _ _).alloc (Nat.le_refl _) _).alloc (by simp) _
set_option maxHeartbeats 400000 in
theorem key_any (a b c d e f g : Int) (w : World) : Calls Try.prog 49 #[.agg #[.int .i64 a, .int .i64 b, .int .i64 c, .int .i64 d, .int .i64 e, .int .i64 f, .int .i64 g]] w
    fun r w' => r = .returned (.agg #[.int .i64 b, .int .i64 c, .int .i64 d]) ∧ Below w.heap.size w w' := by
  go_enter Try.func49, Try.ntmps49
  go_wp2
  refine bodyPost_ret (v := .agg #[.int .i64 b, .int .i64 c, .int .i64 d]) (by simp [results, Try.results49, go_sem]) rfl ⟨rfl, ?_⟩
  exact ((Below.refl _ _).alloc (Nat.le_refl _) _).alloc (by simp) _
theorem eqKey (a b c a' b' c' : Int) (w : World) : (Op.equalIn 10000 85 (.agg #[.int .i64 a, .int .i64 b, .int .i64 c]) (.agg #[.int .i64 a', .int .i64 b', .int .i64 c'])).run Try.prog w = .ok (a == a' && b == b' && c == c') w := by
  have hS : Try.prog.underlying 85 = some (.struct (Try.prog.fieldsOf 85)) := by kernel_rfl
  have hp : Try.prog.stoodInHeld 85 = false := by kernel_rfl
  rw [show (10000 : Nat) = 9999 + 1 from rfl, run_equalIn_struct w 9999 85 _ _ hS hp]
  simp only [Program.fieldsOf, Try.underlying85]
  go_simp
  by_cases h1 : a = a' <;> by_cases h2 : b = b' <;> by_cases h3 : c = c' <;> simp [h1, h2, h3]

/-- its two lists lie off the row that holds it -/
def farX (v : Value) (x : Lsa) : Prop := (∀ a, x.ka = some a → 0 < x.links.length → v.ownBlock ≠ some a.block) ∧ (∀ a, x.ma = some a → 0 < x.members.length → v.ownBlock ≠ some a.block)
/-- its two lists lie in blocks from B on -/
def fromX (B : Nat) (x : Lsa) : Prop := (∀ a, x.ka = some a → 0 < x.links.length → B ≤ a.block) ∧ (∀ a, x.ma = some a → 0 < x.members.length → B ≤ a.block)
/-- its two lists can be read -/
def rowsX (W : World) (x : Lsa) : Prop := RowsAt 4 Lnk.cells W W.heap.size x.ka x.links ∧ RowsAt 1 icell W W.heap.size x.ma x.members
/-- a row of descriptions that the program made itself: blocks from B on -/
structure XsAt (W : World) (B : Nat) (v : Value) (L : List Lsa) : Prop where
  own : OwnR 38 9 Lsa.cells W B v L
  rows : ∀ x ∈ L, rowsX W x
  far : ∀ x ∈ L, farX v x
  from_ : ∀ x ∈ L, fromX B x
  lens : ∀ x ∈ L, x.links.length ≤ 1000 ∧ x.members.length ≤ 1000
section
variable {W W' : World} {B B' : Nat} {v v' : Value} {L : List Lsa} {x : Lsa}
theorem rowsX.keep (h : rowsX W x) (hb : Below W.heap.size W W') : rowsX W' x := ⟨rows_keep h.1 hb, rows_keep h.2 hb⟩
theorem XsAt.nil (W : World) (B : Nat) : XsAt W B (.slice none 0 0) [] := ⟨OwnR.nil _ _, fun _ h => absurd h (by simp), fun _ h => absurd h (by simp), fun _ h => absurd h (by simp), fun _ h => absurd h (by simp)⟩
theorem XsAt.keep (h : XsAt W B v L) (hb : Below W.heap.size W W') : XsAt W' B v L := ⟨h.own.below hb, fun x hx => (h.rows x hx).keep hb, h.far, h.from_, h.lens⟩
theorem row_at (h : OwnR 38 9 Lsa.cells W B v L) (k : Nat) (hk : k < L.length) : ∃ g c, v = .slice (some ⟨g, 0, none⟩) L.length c ∧ W.cell? ⟨g, k * 9, none⟩ = some (.int .i64 L[k].head.age) ∧ W.cell? ⟨g, k * 9 + 1, none⟩ = some (.int .i64 L[k].head.kind) ∧ W.cell? ⟨g, k * 9 + 2, none⟩ = some (.int .i64 L[k].head.id) ∧ W.cell? ⟨g, k * 9 + 3, none⟩ = some (.int .i64 L[k].head.adv) ∧ W.cell? ⟨g, k * 9 + 4, none⟩ = some (.int .i64 L[k].head.seq) ∧ W.cell? ⟨g, k * 9 + 5, none⟩ = some (.int .i64 L[k].head.sum) ∧ W.cell? ⟨g, k * 9 + 6, none⟩ = some (.int .i64 L[k].head.long) ∧
      W.cell? ⟨g, k * 9 + 7, none⟩ = some (.slice L[k].ka L[k].links.length L[k].kcap) ∧ W.cell? ⟨g, k * 9 + 8, none⟩ = some (.slice L[k].ma L[k].members.length L[k].mcap) := by
  rcases h.shape2 with ⟨-, hn⟩ | ⟨g, c, rfl, hc⟩
  · subst hn; simp at hk
  · obtain ⟨b, o, e, _, hcell⟩ := (OwnR.rows (C := 9) (cells := Lsa.cells) (fun _ => rfl) h).2 (by omega)
    injection e with e
    injection e with e1 e2
    subst e1 e2
    refine ⟨g, c, rfl, ?_, ?_, ?_, ?_, ?_, ?_, ?_, ?_, ?_⟩
    · simpa using hcell k hk 0 _ (by omega) rfl
    · simpa using hcell k hk 1 _ (by omega) rfl
    · simpa using hcell k hk 2 _ (by omega) rfl
    · simpa using hcell k hk 3 _ (by omega) rfl
    · simpa using hcell k hk 4 _ (by omega) rfl
    · simpa using hcell k hk 5 _ (by omega) rfl
    · simpa using hcell k hk 6 _ (by omega) rfl
    · simpa using hcell k hk 7 _ (by omega) rfl
    · simpa using hcell k hk 8 _ (by omega) rfl
theorem row_lt2 {α : Type} {C : Nat} {cells : α → List Value} {a : Addr} {R : List α} {A : Option Addr} (h : RowsAt C cells W W.heap.size A R) (e : A = some a) (h0 : 0 < R.length) : a.block < W.heap.size := by
  subst e
  obtain ⟨b', o, e, hb, -⟩ := h h0
  injection e with e
  subst e
  exact hb
theorem rows_row2 {α : Type} {C : Nat} {cells : α → List Value} {A : Option Addr} {R : List α} {row : Option Nat} (h : RowsAt C cells W W.heap.size A R) (hg : W.grownBy W' row) (hne : ∀ a, A = some a → 0 < R.length → row ≠ some a.block) : RowsAt C cells W' W'.heap.size A R := by
  intro h0
  obtain ⟨b', o, e, hb, hc⟩ := h h0
  refine ⟨b', o, e, Nat.lt_of_lt_of_le hb hg.size, fun k hk i u hi hu => ?_⟩
  exact (World.cell?_of_block (w := W) (a := ⟨b', o + k * C + i, none⟩) (hg.block b' hb (fun e2 => hne _ e h0 e2.symm))).trans (hc k hk i u hi hu)
theorem rowsX.grown {row : Option Nat} (h : rowsX W x) (hg : W.grownBy W' row) (hne : ∀ a, (x.ka = some a ∧ 0 < x.links.length) ∨ (x.ma = some a ∧ 0 < x.members.length) → row ≠ some a.block) : rowsX W' x :=
  ⟨rows_row2 h.1 hg (fun a e h0 => hne a (.inl ⟨e, h0⟩)), rows_row2 h.2 hg (fun a e h0 => hne a (.inr ⟨e, h0⟩))⟩
theorem grown_set (W : World) (q i : Nat) (u : Value) : W.grownBy (W.setCell ⟨q, i, none⟩ u) (some q) := ⟨rfl, rfl, rfl, by simp [World.setCell], fun k _ hne => Below.heap_setCell _ _ _ _ (fun e => hne (by rw [e]))⟩
/-- one more -/
theorem XsAt.app (h : XsAt W B v L) (ho : OwnR 38 9 Lsa.cells W' B v' (L ++ [x])) (hg : W.grownBy W' v.ownBlock) (hor : v'.ownBlock = v.ownBlock ∨ v'.ownBlock = some W.heap.size) (hr : rowsX W x) (hf : farX v x) (hB : fromX B x) (hl : x.links.length ≤ 1000 ∧ x.members.length ≤ 1000) : XsAt W' B v' (L ++ [x]) := by
  have hrows : ∀ y ∈ L ++ [x], rowsX W y ∧ farX v y ∧ fromX B y ∧ (y.links.length ≤ 1000 ∧ y.members.length ≤ 1000) := by
    intro y hy
    rcases List.mem_append.1 hy with hy | hy
    · exact ⟨h.rows y hy, h.far y hy, h.from_ y hy, h.lens y hy⟩
    · rw [List.mem_singleton] at hy
      subst hy
      exact ⟨hr, hf, hB, hl⟩
  refine ⟨ho, fun y hy => (hrows y hy).1.grown hg (fun a ha => ?_), fun y hy => ?_, fun y hy => (hrows y hy).2.2.1, fun y hy => (hrows y hy).2.2.2⟩
  · rcases ha with ⟨e, h0⟩ | ⟨e, h0⟩
    · exact (hrows y hy).2.1.1 a e h0
    · exact (hrows y hy).2.1.2 a e h0
  · rcases hor with e | e
    · unfold farX
      rw [e]
      exact (hrows y hy).2.1
    · unfold farX
      rw [e]
      refine ⟨fun a ea h0 e2 => ?_, fun a ea h0 e2 => ?_⟩
      · have := row_lt2 (hrows y hy).1.1 ea h0
        injection e2 with e2
        omega
      · have := row_lt2 (hrows y hy).1.2 ea h0
        injection e2 with e2
        omega
end
theorem own_new {v v' : Value} {B n : Nat} (h : ∀ m, v.ownBlock = some m → B ≤ m) (hor : v'.ownBlock = v.ownBlock ∨ v'.ownBlock = some n) (hn : B ≤ n) : ∀ m, v'.ownBlock = some m → B ≤ m := by
  intro m e
  rcases hor with e2 | e2
  · exact h m (by rw [← e2]; exact e)
  · rw [e2] at e; injection e with e; omega
theorem infoX : (Try.prog.info? 38).map (fun i => (i.zero, i.size, i.bytes)) = some (some (.agg #[.int .i64 0, .int .i64 0, .int .i64 0, .int .i64 0, .int .i64 0, .int .i64 0, .int .i64 0, .slice none 0 0, .slice none 0 0]), 9, 104) := by kernel_rfl
theorem onesX (x : Lsa) : ∀ u ∈ Lsa.cells x, u.oneCell' = true := by
  intro u hu
  simp [Lsa.cells] at hu
  rcases hu with rfl | rfl | rfl | rfl | rfl | rfl | rfl | rfl | rfl <;> rfl


theorem row_lsa9b {w : World} {B : Nat} {A : Option Addr} {l : List Lsa} (h : RowsAt 9 Lsa.cells w B A l) (k : Nat) (hk : k < l.length) :
    ∃ b o, A = some ⟨b, o, none⟩ ∧ b < B ∧ w.cell? ⟨b, o + k * 9, none⟩ = some (.int .i64 l[k].head.age) ∧ w.cell? ⟨b, o + k * 9 + 1, none⟩ = some (.int .i64 l[k].head.kind) ∧ w.cell? ⟨b, o + k * 9 + 2, none⟩ = some (.int .i64 l[k].head.id) ∧ w.cell? ⟨b, o + k * 9 + 3, none⟩ = some (.int .i64 l[k].head.adv) ∧ w.cell? ⟨b, o + k * 9 + 4, none⟩ = some (.int .i64 l[k].head.seq) ∧ w.cell? ⟨b, o + k * 9 + 5, none⟩ = some (.int .i64 l[k].head.sum) ∧ w.cell? ⟨b, o + k * 9 + 6, none⟩ = some (.int .i64 l[k].head.long) ∧
      w.cell? ⟨b, o + k * 9 + 7, none⟩ = some (.slice l[k].ka l[k].links.length l[k].kcap) ∧ w.cell? ⟨b, o + k * 9 + 8, none⟩ = some (.slice l[k].ma l[k].members.length l[k].mcap) := by
  obtain ⟨b, o, e, hb, hc⟩ := h (by omega)
  exact ⟨b, o, e, hb, by simpa using hc k hk 0 _ (by omega) rfl, hc k hk 1 _ (by omega) rfl, hc k hk 2 _ (by omega) rfl, hc k hk 3 _ (by omega) rfl, hc k hk 4 _ (by omega) rfl, hc k hk 5 _ (by omega) rfl, hc k hk 6 _ (by omega) rfl, hc k hk 7 _ (by omega) rfl, hc k hk 8 _ (by omega) rfl⟩
theorem vX_len {l l' : List Lsa} (h : l.map vX = l'.map vX) : l.length = l'.length := by have := congrArg List.length h; simpa using this
theorem vX_at {l l' : List Lsa} (h : l.map vX = l'.map vX) (k : Nat) (hk : k < l.length) (hk' : k < l'.length) : vX l[k] = vX l'[k] := by
  have h1 : (l.map vX)[k]? = (l'.map vX)[k]? := by rw [h]
  simpa [hk, hk'] using h1
theorem seal_el {W W' : World} {B q nl nm : Nat} {v : Value} {O : List Lsa} {ls : List Lnk} {ms : List Int} {A : Option Addr} {c : Nat} {A' : Option Addr} {c' : Nat} {h : Hd} (ho : OwnR 38 9 Lsa.cells W B v O) (hq : q < W.heap.size) (_hnl : nl = ls.length) (_hnm : nm = ms.length) (hl : ls.length ≤ 1000) (hm : ms.length ≤ 1000)
    (oa : OwnR 127 4 Lnk.cells W' W.heap.size (.slice A nl c) ls) (ob : OwnR 3 1 icell W' W.heap.size (.slice A' nm c') ms) :
    rowsX W' ⟨h, A, c, ls, A', c', ms⟩ ∧ farX v ⟨h, A, c, ls, A', c', ms⟩ ∧ fromX (q + 1) ⟨h, A, c, ls, A', c', ms⟩ ∧ (ls.length ≤ 1000 ∧ ms.length ≤ 1000) := by
  refine ⟨⟨(OwnR.rows (C := 4) (cells := Lnk.cells) (fun _ => rfl) oa).2, (OwnR.rows (C := 1) (cells := icell) (fun _ => rfl) ob).2⟩, ⟨fun a e _ e2 => ?_, fun a e _ e2 => ?_⟩, ⟨fun a e _ => ?_, fun a e _ => ?_⟩, hl, hm⟩
  · simp only at e; subst e
    have := (oa.block _ rfl).1; have := (ho.block _ e2).2; omega
  · simp only at e; subst e
    have := (ob.block _ rfl).1; have := (ho.block _ e2).2; omega
  · simp only at e; subst e
    have := (oa.block _ rfl).1; omega
  · simp only at e; subst e
    have := (ob.block _ rfl).1; omega
theorem XsAt.lower {W : World} {B B' : Nat} {v : Value} {L : List Lsa} (h : XsAt W B v L) (hB : B' ≤ B) : XsAt W B' v L :=
  ⟨h.own.lower hB, h.rows, h.far, fun x hx => ⟨fun a e h0 => Nat.le_trans hB ((h.from_ x hx).1 a e h0), fun a e h0 => Nat.le_trans hB ((h.from_ x hx).2 a e h0)⟩, h.lens⟩
theorem XsAt.iter {W W' : World} {B i : Nat} {v : Value} {D : List Lsa} (h : XsAt W B v D) (hg : W.grownBy W' (some i)) (hi : i < B) : XsAt W' B v D :=
  ⟨h.own.kept hg (.inr (fun e => by have := (h.own.block i e).1; omega)), fun x hx => (h.rows x hx).grown hg (fun a ha => ha.elim (fun e e2 => by have := (h.from_ x hx).1 a e.1 e.2; injection e2 with e2; omega) (fun e e2 => by have := (h.from_ x hx).2 a e.1 e.2; injection e2 with e2; omega)), h.far, h.from_, h.lens⟩
end Go.Proofs.Ytpnbibokddhheaa
