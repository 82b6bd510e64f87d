/-
  Descriptions by their words; rows of them that the program made itself; the document's word for alike; keys.
-/
import Derived.Laws.StructEq
import Derived.RegionTactic
import Derived.Test.YtpnbibokddhheaaProg
import Derived.WalkLawsBesides
import Derived.Test.YtpnbibokddhheaaBaa
import Derived.Test.YtpnbibokddhheaaBab
import Derived.Test.YtpnbibokddhheaaBac
import Derived.Test.YtpnbibokddhheaaBae
namespace Go.Proofs.Ytpnbibokddhheaa
open Go.RowKit Go.Sort

abbrev VX := Hd × List Lnk × List Int
def vX (x : Lsa) : VX := (x.head, x.links, x.members)
def keyX (x : Lsa) : K3 := keyH x.head
def keyV (v : VX) : K3 := keyH v.1
theorem keyV_vX (x : Lsa) : keyV (vX x) = keyX x := rfl
theorem map_keys (L : List Lsa) : (L.map vX).map keyV = L.map keyX := by rw [List.map_map]; rfl
set_option maxHeartbeats 400000 in
theorem keyOf_any (a b c d e f g : Int) (w : World) : Calls Try.prog 47 #[.agg #[.int .i64 a, .int .i64 b, .int .i64 c, .int .i64 d, .int .i64 e, .int .i64 f, .int .i64 g]] w
    fun r w' => r = .returned (.agg #[.int .i64 b, .int .i64 c, .int .i64 d]) ∧ Below w.heap.size w w' := by
  go_enter Try.func47, Try.ntmps47
  go_wp2
  refine bodyPost_ret (v := .agg #[.int .i64 b, .int .i64 c, .int .i64 d]) (by simp [results, Try.results47, go_sem]) rfl ⟨rfl, ?_⟩
  exact ((Below.refl _ _).alloc (Nat.le_refl _) _).alloc (by simp) _
set_option maxHeartbeats 400000 in
theorem key_any (a b c d e f g : Int) (w : World) : Calls Try.prog 49 #[.agg #[.int .i64 a, .int .i64 b, .int .i64 c, .int .i64 d, .int .i64 e, .int .i64 f, .int .i64 g]] w
    fun r w' => r = .returned (.agg #[.int .i64 b, .int .i64 c, .int .i64 d]) ∧ Below w.heap.size w w' := by
  go_enter Try.func49, Try.ntmps49
  go_wp2
  refine bodyPost_ret (v := .agg #[.int .i64 b, .int .i64 c, .int .i64 d]) (by simp [results, Try.results49, go_sem]) rfl ⟨rfl, ?_⟩
  exact ((Below.refl _ _).alloc (Nat.le_refl _) _).alloc (by simp) _
theorem eqKey (a b c a' b' c' : Int) (w : World) : (Op.equalIn 10000 85 (.agg #[.int .i64 a, .int .i64 b, .int .i64 c]) (.agg #[.int .i64 a', .int .i64 b', .int .i64 c'])).run Try.prog w = .ok (a == a' && b == b' && c == c') w := by
  have hS : Try.prog.underlying 85 = some (.struct (Try.prog.fieldsOf 85)) := by kernel_rfl
  have hp : Try.prog.stoodInHeld 85 = false := by kernel_rfl
  rw [show (10000 : Nat) = 9999 + 1 from rfl, run_equalIn_struct w 9999 85 _ _ hS hp]
  simp only [Program.fieldsOf, Try.underlying85]
  go_simp
  by_cases h1 : a = a' <;> by_cases h2 : b = b' <;> by_cases h3 : c = c' <;> simp [h1, h2, h3]

/-- its two lists lie off the row that holds it -/
def farX (v : Value) (x : Lsa) : Prop := (∀ a, x.ka = some a → 0 < x.links.length → v.ownBlock ≠ some a.block) ∧ (∀ a, x.ma = some a → 0 < x.members.length → v.ownBlock ≠ some a.block)
/-- its two lists lie in blocks from B on -/
def fromX (B : Nat) (x : Lsa) : Prop := (∀ a, x.ka = some a → 0 < x.links.length → B ≤ a.block) ∧ (∀ a, x.ma = some a → 0 < x.members.length → B ≤ a.block)
/-- its two lists can be read -/
def rowsX (W : World) (x : Lsa) : Prop := RowsAt 4 Lnk.cells W W.heap.size x.ka x.links ∧ RowsAt 1 icell W W.heap.size x.ma x.members
/-- a row of descriptions that the program made itself: blocks from B on -/
structure XsAt (W : World) (B : Nat) (v : Value) (L : List Lsa) : Prop where
  own : OwnR 38 9 Lsa.cells W B v L
  rows : ∀ x ∈ L, rowsX W x
  far : ∀ x ∈ L, farX v x
  from_ : ∀ x ∈ L, fromX B x
  lens : ∀ x ∈ L, x.links.length ≤ 1000 ∧ x.members.length ≤ 1000
section
variable {W W' : World} {B B' : Nat} {v v' : Value} {L : List Lsa} {x : Lsa}
theorem rowsX.keep (h : rowsX W x) (hb : Below W.heap.size W W') : rowsX W' x := ⟨rows_keep h.1 hb, rows_keep h.2 hb⟩
theorem XsAt.nil (W : World) (B : Nat) : XsAt W B (.slice none 0 0) [] := ⟨OwnR.nil _ _, fun _ h => absurd h (by simp), fun _ h => absurd h (by simp), fun _ h => absurd h (by simp), fun _ h => absurd h (by simp)⟩
theorem XsAt.keep (h : XsAt W B v L) (hb : Below W.heap.size W W') : XsAt W' B v L := ⟨h.own.below hb, fun x hx => (h.rows x hx).keep hb, h.far, h.from_, h.lens⟩
theorem row_at (h : OwnR 38 9 Lsa.cells W B v L) (k : Nat) (hk : k < L.length) : ∃ g c, v = .slice (some ⟨g, 0, none⟩) L.length c ∧ W.cell? ⟨g, k * 9, none⟩ = some (.int .i64 L[k].head.age) ∧ W.cell? ⟨g, k * 9 + 1, none⟩ = some (.int .i64 L[k].head.kind) ∧ W.cell? ⟨g, k * 9 + 2, none⟩ = some (.int .i64 L[k].head.id) ∧ W.cell? ⟨g, k * 9 + 3, none⟩ = some (.int .i64 L[k].head.adv) ∧ W.cell? ⟨g, k * 9 + 4, none⟩ = some (.int .i64 L[k].head.seq) ∧ W.cell? ⟨g, k * 9 + 5, none⟩ = some (.int .i64 L[k].head.sum) ∧ W.cell? ⟨g, k * 9 + 6, none⟩ = some (.int .i64 L[k].head.long) ∧
      W.cell? ⟨g, k * 9 + 7, none⟩ = some (.slice L[k].ka L[k].links.length L[k].kcap) ∧ W.cell? ⟨g, k * 9 + 8, none⟩ = some (.slice L[k].ma L[k].members.length L[k].mcap) := by
  rcases h.shape2 with ⟨-, hn⟩ | ⟨g, c, rfl, hc⟩
  · subst hn; simp at hk
  · obtain ⟨b, o, e, _, hcell⟩ := (OwnR.rows (C := 9) (cells := Lsa.cells) (fun _ => rfl) h).2 (by omega)
    injection e with e
    injection e with e1 e2
    subst e1 e2
    refine ⟨g, c, rfl, ?_, ?_, ?_, ?_, ?_, ?_, ?_, ?_, ?_⟩
    · simpa using hcell k hk 0 _ (by omega) rfl
    · simpa using hcell k hk 1 _ (by omega) rfl
    · simpa using hcell k hk 2 _ (by omega) rfl
    · simpa using hcell k hk 3 _ (by omega) rfl
    · simpa using hcell k hk 4 _ (by omega) rfl
    · simpa using hcell k hk 5 _ (by omega) rfl
    · simpa using hcell k hk 6 _ (by omega) rfl
    · simpa using hcell k hk 7 _ (by omega) rfl
    · simpa using hcell k hk 8 _ (by omega) rfl
theorem row_lt2 {α : Type} {C : Nat} {cells : α → List Value} {a : Addr} {R : List α} {A : Option Addr} (h : RowsAt C cells W W.heap.size A R) (e : A = some a) (h0 : 0 < R.length) : a.block < W.heap.size := by
  subst e
  obtain ⟨b', o, e, hb, -⟩ := h h0
  injection e with e
  subst e
  exact hb
theorem rows_row2 {α : Type} {C : Nat} {cells : α → List Value} {A : Option Addr} {R : List α} {row : Option Nat} (h : RowsAt C cells W W.heap.size A R) (hg : W.grownBy W' row) (hne : ∀ a, A = some a → 0 < R.length → row ≠ some a.block) : RowsAt C cells W' W'.heap.size A R := by
  intro h0
  obtain ⟨b', o, e, hb, hc⟩ := h h0
  refine ⟨b', o, e, Nat.lt_of_lt_of_le hb hg.size, fun k hk i u hi hu => ?_⟩
  exact (World.cell?_of_block (w := W) (a := ⟨b', o + k * C + i, none⟩) (hg.block b' hb (fun e2 => hne _ e h0 e2.symm))).trans (hc k hk i u hi hu)
theorem rowsX.grown {row : Option Nat} (h : rowsX W x) (hg : W.grownBy W' row) (hne : ∀ a, (x.ka = some a ∧ 0 < x.links.length) ∨ (x.ma = some a ∧ 0 < x.members.length) → row ≠ some a.block) : rowsX W' x :=
  ⟨rows_row2 h.1 hg (fun a e h0 => hne a (.inl ⟨e, h0⟩)), rows_row2 h.2 hg (fun a e h0 => hne a (.inr ⟨e, h0⟩))⟩
theorem grown_set (W : World) (q i : Nat) (u : Value) : W.grownBy (W.setCell ⟨q, i, none⟩ u) (some q) := ⟨rfl, rfl, rfl, by simp [World.setCell], fun k _ hne => Below.heap_setCell _ _ _ _ (fun e => hne (by rw [e]))⟩
/-- one more -/
theorem XsAt.app (h : XsAt W B v L) (ho : OwnR 38 9 Lsa.cells W' B v' (L ++ [x])) (hg : W.grownBy W' v.ownBlock) (hor : v'.ownBlock = v.ownBlock ∨ v'.ownBlock = some W.heap.size) (hr : rowsX W x) (hf : farX v x) (hB : fromX B x) (hl : x.links.length ≤ 1000 ∧ x.members.length ≤ 1000) : XsAt W' B v' (L ++ [x]) := by
  have hrows : ∀ y ∈ L ++ [x], rowsX W y ∧ farX v y ∧ fromX B y ∧ (y.links.length ≤ 1000 ∧ y.members.length ≤ 1000) := by
    intro y hy
    rcases List.mem_append.1 hy with hy | hy
    · exact ⟨h.rows y hy, h.far y hy, h.from_ y hy, h.lens y hy⟩
    · rw [List.mem_singleton] at hy
      subst hy
      exact ⟨hr, hf, hB, hl⟩
  refine ⟨ho, fun y hy => (hrows y hy).1.grown hg (fun a ha => ?_), fun y hy => ?_, fun y hy => (hrows y hy).2.2.1, fun y hy => (hrows y hy).2.2.2⟩
  · rcases ha with ⟨e, h0⟩ | ⟨e, h0⟩
    · exact (hrows y hy).2.1.1 a e h0
    · exact (hrows y hy).2.1.2 a e h0
  · rcases hor with e | e
    · unfold farX
      rw [e]
      exact (hrows y hy).2.1
    · unfold farX
      rw [e]
      refine ⟨fun a ea h0 e2 => ?_, fun a ea h0 e2 => ?_⟩
      · have := row_lt2 (hrows y hy).1.1 ea h0
        injection e2 with e2
        omega
      · have := row_lt2 (hrows y hy).1.2 ea h0
        injection e2 with e2
        omega
end
theorem own_new {v v' : Value} {B n : Nat} (h : ∀ m, v.ownBlock = some m → B ≤ m) (hor : v'.ownBlock = v.ownBlock ∨ v'.ownBlock = some n) (hn : B ≤ n) : ∀ m, v'.ownBlock = some m → B ≤ m := by
  intro m e
  rcases hor with e2 | e2
  · exact h m (by rw [← e2]; exact e)
  · rw [e2] at e; injection e with e; omega
theorem infoX : (Try.prog.info? 38).map (fun i => (i.zero, i.size, i.bytes)) = some (some (.agg #[.int .i64 0, .int .i64 0, .int .i64 0, .int .i64 0, .int .i64 0, .int .i64 0, .int .i64 0, .slice none 0 0, .slice none 0 0]), 9, 104) := by kernel_rfl
theorem onesX (x : Lsa) : ∀ u ∈ Lsa.cells x, u.oneCell' = true := by
  intro u hu
  simp [Lsa.cells] at hu
  rcases hu with rfl | rfl | rfl | rfl | rfl | rfl | rfl | rfl | rfl <;> rfl


theorem row_lsa9b {w : World} {B : Nat} {A : Option Addr} {l : List Lsa} (h : RowsAt 9 Lsa.cells w B A l) (k : Nat) (hk : k < l.length) :
    ∃ b o, A = some ⟨b, o, none⟩ ∧ b < B ∧ w.cell? ⟨b, o + k * 9, none⟩ = some (.int .i64 l[k].head.age) ∧ w.cell? ⟨b, o + k * 9 + 1, none⟩ = some (.int .i64 l[k].head.kind) ∧ w.cell? ⟨b, o + k * 9 + 2, none⟩ = some (.int .i64 l[k].head.id) ∧ w.cell? ⟨b, o + k * 9 + 3, none⟩ = some (.int .i64 l[k].head.adv) ∧ w.cell? ⟨b, o + k * 9 + 4, none⟩ = some (.int .i64 l[k].head.seq) ∧ w.cell? ⟨b, o + k * 9 + 5, none⟩ = some (.int .i64 l[k].head.sum) ∧ w.cell? ⟨b, o + k * 9 + 6, none⟩ = some (.int .i64 l[k].head.long) ∧
      w.cell? ⟨b, o + k * 9 + 7, none⟩ = some (.slice l[k].ka l[k].links.length l[k].kcap) ∧ w.cell? ⟨b, o + k * 9 + 8, none⟩ = some (.slice l[k].ma l[k].members.length l[k].mcap) := by
  obtain ⟨b, o, e, hb, hc⟩ := h (by omega)
  exact ⟨b, o, e, hb, by simpa using hc k hk 0 _ (by omega) rfl, hc k hk 1 _ (by omega) rfl, hc k hk 2 _ (by omega) rfl, hc k hk 3 _ (by omega) rfl, hc k hk 4 _ (by omega) rfl, hc k hk 5 _ (by omega) rfl, hc k hk 6 _ (by omega) rfl, hc k hk 7 _ (by omega) rfl, hc k hk 8 _ (by omega) rfl⟩
theorem vX_len {l l' : List Lsa} (h : l.map vX = l'.map vX) : l.length = l'.length := by have := congrArg List.length h; simpa using this
theorem vX_at {l l' : List Lsa} (h : l.map vX = l'.map vX) (k : Nat) (hk : k < l.length) (hk' : k < l'.length) : vX l[k] = vX l'[k] := by
  have h1 : (l.map vX)[k]? = (l'.map vX)[k]? := by rw [h]
  simpa [hk, hk'] using h1
theorem seal_el {W W' : World} {B q nl nm : Nat} {v : Value} {O : List Lsa} {ls : List Lnk} {ms : List Int} {A : Option Addr} {c : Nat} {A' : Option Addr} {c' : Nat} {h : Hd} (ho : OwnR 38 9 Lsa.cells W B v O) (hq : q < W.heap.size) (_hnl : nl = ls.length) (_hnm : nm = ms.length) (hl : ls.length ≤ 1000) (hm : ms.length ≤ 1000)
    (oa : OwnR 127 4 Lnk.cells W' W.heap.size (.slice A nl c) ls) (ob : OwnR 3 1 icell W' W.heap.size (.slice A' nm c') ms) :
    rowsX W' ⟨h, A, c, ls, A', c', ms⟩ ∧ farX v ⟨h, A, c, ls, A', c', ms⟩ ∧ fromX (q + 1) ⟨h, A, c, ls, A', c', ms⟩ ∧ (ls.length ≤ 1000 ∧ ms.length ≤ 1000) := by
  refine ⟨⟨(OwnR.rows (C := 4) (cells := Lnk.cells) (fun _ => rfl) oa).2, (OwnR.rows (C := 1) (cells := icell) (fun _ => rfl) ob).2⟩, ⟨fun a e _ e2 => ?_, fun a e _ e2 => ?_⟩, ⟨fun a e _ => ?_, fun a e _ => ?_⟩, hl, hm⟩
  · simp only at e; subst e
    have := (oa.block _ rfl).1; have := (ho.block _ e2).2; omega
  · simp only at e; subst e
    have := (ob.block _ rfl).1; have := (ho.block _ e2).2; omega
  · simp only at e; subst e
    have := (oa.block _ rfl).1; omega
  · simp only at e; subst e
    have := (ob.block _ rfl).1; omega
theorem XsAt.lower {W : World} {B B' : Nat} {v : Value} {L : List Lsa} (h : XsAt W B v L) (hB : B' ≤ B) : XsAt W B' v L :=
  ⟨h.own.lower hB, h.rows, h.far, fun x hx => ⟨fun a e h0 => Nat.le_trans hB ((h.from_ x hx).1 a e h0), fun a e h0 => Nat.le_trans hB ((h.from_ x hx).2 a e h0)⟩, h.lens⟩
theorem XsAt.iter {W W' : World} {B i : Nat} {v : Value} {D : List Lsa} (h : XsAt W B v D) (hg : W.grownBy W' (some i)) (hi : i < B) : XsAt W' B v D :=
  ⟨h.own.kept hg (.inr (fun e => by have := (h.own.block i e).1; omega)), fun x hx => (h.rows x hx).grown hg (fun a ha => ha.elim (fun e e2 => by have := (h.from_ x hx).1 a e.1 e.2; injection e2 with e2; omega) (fun e e2 => by have := (h.from_ x hx).2 a e.1 e.2; injection e2 with e2; omega)), h.far, h.from_, h.lens⟩
end Go.Proofs.Ytpnbibokddhheaa

/-
  Layer 7: a database in memory; a new one, its number.
-/
namespace Go.Proofs.Ytpnbibokddhheaa
open Go.RowKit

def dbL (M : List Lsa) : List (K3 × Value) := M.map fun x => (keyH x.head, x.val)
def getX (k : K3) : List Lsa → Option Lsa
  | [] => none
  | x :: M => if keyH x.head = k then some x else getX k M
def setX (y : Lsa) : List Lsa → List Lsa
  | [] => [y]
  | x :: M => if keyH x.head = keyH y.head then y :: M else x :: setX y M
theorem getL_db (k : K3) : ∀ M : List Lsa, getL k (dbL M) = (getX k M).map Lsa.val
  | [] => rfl
  | x :: M => by
    have ih := getL_db k M
    unfold dbL at ih ⊢
    by_cases hx : keyH x.head = k
    · simp [getL, getX, hx]
    · simp [getL, getX, hx, ih]
theorem setL_db (y : Lsa) : ∀ M : List Lsa, setL (keyH y.head) y.val (dbL M) = dbL (setX y M)
  | [] => rfl
  | x :: M => by
    have ih := setL_db y M
    unfold dbL at ih ⊢
    by_cases hx : keyH x.head = keyH y.head
    · simp [setL, setX, hx]
    · simp [setL, setX, hx, ih]
theorem getX_mem {k : K3} : ∀ {M : List Lsa} {x : Lsa}, getX k M = some x → x ∈ M ∧ keyH x.head = k
  | y :: M, x, h => by
    unfold getX at h
    by_cases hy : keyH y.head = k
    · rw [if_pos hy] at h
      injection h with h
      subst h
      exact ⟨by simp, hy⟩
    · rw [if_neg hy] at h
      have := getX_mem h
      exact ⟨by simp [this.1], this.2⟩
theorem setX_mem {y x : Lsa} : ∀ {M : List Lsa}, x ∈ setX y M → x ∈ M ∨ x = y
  | [], h => by simp [setX] at h; exact .inr h
  | z :: M, h => by
    unfold setX at h
    split at h
    · rcases List.mem_cons.1 h with e | h
      · exact .inr e
      · exact .inl (by simp [h])
    · rcases List.mem_cons.1 h with e | h
      · exact .inl (by simp [e])
      · rcases setX_mem h with h1 | h1
        · exact .inl (by simp [h1])
        · exact .inr h1
structure DbAt (w : World) (p b : Nat) (room : Int) (M : List Lsa) : Prop where
  ptr : Blk w p 91 #[.int .i64 room, .map (some b)]
  map : MapAt K3.enc w b (dbL M)
  rows : ∀ x ∈ M, RowsAt 4 Lnk.cells w w.heap.size x.ka x.links ∧ RowsAt 1 icell w w.heap.size x.ma x.members
  lens : ∀ x ∈ M, x.links.length ≤ 1000 ∧ x.members.length ≤ 1000
theorem rows_map {α κ : Type} {C : Nat} {cells : α → List Value} {w w' : World} {A : Option Addr} {R : List α} {b : Nat} {enc : κ → Value} {L : List (κ × Value)} (hC : ∀ x, (cells x).length = C) (hC0 : 0 < C) (h : RowsAt C cells w w.heap.size A R) (hm : MapAt enc w b L) (hg : w.grownBy w' (some b)) : RowsAt C cells w' w'.heap.size A R := by
  intro h0
  obtain ⟨b', o, e, hb, hc⟩ := h h0
  have hlt : 0 < (cells R[0]).length := by rw [hC]; exact hC0
  have h1 := hc 0 h0 0 _ hC0 (List.getElem?_eq_getElem hlt)
  have hne : b' ≠ b := by
    rintro rfl
    obtain ⟨es, clock, hb', -⟩ := hm
    simp [World.cell?, hb'] at h1
  refine ⟨b', o, e, Nat.lt_of_lt_of_le hb hg.size, fun k hk i u hi hu => ?_⟩
  exact (World.cell?_of_block (w := w) (a := ⟨b', o + k * C + i, none⟩) (hg.block b' hb (fun e => hne (Option.some.inj e)))).trans (hc k hk i u hi hu)
section
variable {w w' : World} {p b : Nat} {room : Int} {M M' : List Lsa}
theorem DbAt.keep (h : DbAt w p b room M) (hb : Below w.heap.size w w') : DbAt w' p b room M :=
  ⟨h.ptr.below hb h.ptr.lt, h.map.below hb h.map.lt, fun x hx => ⟨rows_keep (h.rows x hx).1 hb, rows_keep (h.rows x hx).2 hb⟩, h.lens⟩
theorem DbAt.ne (h : DbAt w p b room M) : p ≠ b := by
  intro e
  obtain ⟨es, clock, hb, -⟩ := h.map
  have hp := h.ptr
  unfold Blk at hp
  rw [e, hb] at hp
  cases hp
theorem DbAt.turned (h : DbAt w p b room M) (hg : w.grownBy w' (some b)) (hm : MapAt K3.enc w' b (dbL M'))
    (hr : ∀ x ∈ M', x ∈ M ∨ (RowsAt 4 Lnk.cells w' w'.heap.size x.ka x.links ∧ RowsAt 1 icell w' w'.heap.size x.ma x.members) ∧ x.links.length ≤ 1000 ∧ x.members.length ≤ 1000) : DbAt w' p b room M' :=
  ⟨h.ptr.grown hg (fun e => h.ne (by injection e)), hm, fun x hx => (hr x hx).elim (fun hx => ⟨rows_map (fun _ => rfl) (by decide) (h.rows x hx).1 h.map hg, rows_map (fun _ => rfl) (by decide) (h.rows x hx).2 h.map hg⟩) (·.1), fun x hx => (hr x hx).elim (h.lens x) (·.2)⟩
end
set_option maxHeartbeats 1000000 in
theorem DbNew (room : Int) (w : World) : Calls Try.prog 18 #[.int .i64 room] w fun r w' => r = .returned (.pointer (some ⟨w.heap.size + 1, 0, none⟩)) ∧ DbAt w' (w.heap.size + 1) w.heap.size (min (max room 1) 40) [] ∧ Below w.heap.size w w' := by
  have hmm := @run_makeMap Try.prog
  go_enter Try.func18, Try.ntmps18
  go_wp2
  all_goals
    go_ret
    first
      | exact ⟨rfl, ⟨Blk.size (by simp), (MapAt.new w).alloc _, by simp, by simp⟩, ((Below.refl _ _).alloc (Nat.le_refl _) _).alloc (by simp) _⟩
      | (rw [show min (max room 1) 40 = 1 by omega]; exact ⟨rfl, ⟨Blk.size (by simp), (MapAt.new w).alloc _, by simp, by simp⟩, ((Below.refl _ _).alloc (Nat.le_refl _) _).alloc (by simp) _⟩)
      | (rw [show min (max room 1) 40 = room by omega]; exact ⟨rfl, ⟨Blk.size (by simp), (MapAt.new w).alloc _, by simp, by simp⟩, ((Below.refl _ _).alloc (Nat.le_refl _) _).alloc (by simp) _⟩)
      | (rw [show min (max room 1) 40 = 40 by omega]; exact ⟨rfl, ⟨Blk.size (by simp), (MapAt.new w).alloc _, by simp, by simp⟩, ((Below.refl _ _).alloc (Nat.le_refl _) _).alloc (by simp) _⟩)
set_option maxHeartbeats 1000000 in
theorem DbLen (p b : Nat) (room : Int) (M : List Lsa) (w : World) (h : DbAt w p b room M) : Calls Try.prog 26 #[.pointer (some ⟨p, 0, none⟩)] w fun r w' => r = .returned (.int .i64 M.length) ∧ w' = w := by
  have hcell := h.ptr.cell 1
  simp only [List.getElem?_toArray, List.getElem?_cons_zero, List.getElem?_cons_succ] at hcell
  have hL : (dbL M).length = M.length := by simp [dbL]
  have hl := fun t => h.map.len_run (P := Try.prog) Try.underlying89 t
  rw [hL] at hl
  clear h hL
  go_enter Try.func26, Try.ntmps26
  go_wp2
  go_ret
  exact ⟨rfl, rfl⟩

end Go.Proofs.Ytpnbibokddhheaa

/-
  Layer 7: the description of a key.
-/
namespace Go.Proofs.Ytpnbibokddhheaa
open Go.RowKit

def zeroX : Lsa := ⟨⟨0, 0, 0, 0, 0, 0, 0⟩, none, 0, [], none, 0, []⟩
theorem zeroXv (w : World) : (zeroValue 38).run Try.prog w = .ok zeroX.val w := by kernel_rfl
theorem getL_valX (k : K3) (M : List Lsa) : (getL k (dbL M)).getD zeroX.val = ((getX k M).getD zeroX).val ∧ (getL k (dbL M)).isSome = (getX k M).isSome := by
  rw [getL_db]
  cases getX k M <;> exact ⟨rfl, rfl⟩
theorem blk9f {_w : World} {g : Nat} {t : TypeId} {a b c d e f x y z : Value} {F : Obj → World} (h : ∀ o, Blk (F o) g t #[a, b, c, d, e, f, x, y, z]) : (∀ o, (F o).cell? ⟨g, 0, none⟩ = some a) ∧ (∀ o, (F o).cell? ⟨g, 1, none⟩ = some b) ∧ (∀ o, (F o).cell? ⟨g, 2, none⟩ = some c) ∧ (∀ o, (F o).cell? ⟨g, 3, none⟩ = some d) ∧ (∀ o, (F o).cell? ⟨g, 4, none⟩ = some e) ∧ (∀ o, (F o).cell? ⟨g, 5, none⟩ = some f) ∧ (∀ o, (F o).cell? ⟨g, 6, none⟩ = some x) ∧ (∀ o, (F o).cell? ⟨g, 7, none⟩ = some y) ∧ (∀ o, (F o).cell? ⟨g, 8, none⟩ = some z) ∧ ∀ o i, (F o).frozen? ⟨g, i, none⟩ = false :=
  ⟨fun o => (h o).cell 0, fun o => (h o).cell 1, fun o => (h o).cell 2, fun o => (h o).cell 3, fun o => (h o).cell 4, fun o => (h o).cell 5, fun o => (h o).cell 6, fun o => (h o).cell 7, fun o => (h o).cell 8, fun o i => (h o).frozen i⟩
set_option maxHeartbeats 4000000 in
set_option maxRecDepth 100000 in
theorem DbGet (p b : Nat) (room : Int) (M : List Lsa) (k1 k2 k3 : Int) (w : World) (h : DbAt w p b room M) {h1 h2 h3 h4 h5 h6 h7 : Int} {ka : Option Addr} {kc : Nat} {ls : List Lnk} {ma : Option Addr} {mc : Nat} {ms : List Int} {is : Bool}
    (hy : (getX ⟨k1, k2, k3⟩ M).getD zeroX = ⟨⟨h1, h2, h3, h4, h5, h6, h7⟩, ka, kc, ls, ma, mc, ms⟩) (his : (getX ⟨k1, k2, k3⟩ M).isSome = is) (nl nm : Nat) (hnl : nl = ls.length) (hnm : nm = ms.length) :
    Calls Try.prog 57 #[.pointer (some ⟨p, 0, none⟩), .agg #[.int .i64 k1, .int .i64 k2, .int .i64 k3]] w fun r w' => ∃ Aa ca Ab cb, r = .returned (.tuple #[.agg #[.int .i64 h1, .int .i64 h2, .int .i64 h3, .int .i64 h4, .int .i64 h5, .int .i64 h6, .int .i64 h7, .slice Aa nl ca, .slice Ab nm cb], .bool is]) ∧ OwnR 127 4 Lnk.cells w' w.heap.size (.slice Aa nl ca) ls ∧ OwnR 3 1 icell w' w.heap.size (.slice Ab nm cb) ms ∧ Below w.heap.size w w' := by
  have hrw : RowsAt 4 Lnk.cells w w.heap.size ka ls ∧ RowsAt 1 icell w w.heap.size ma ms ∧ ls.length ≤ 1000 ∧ ms.length ≤ 1000 := by
    cases hx : getX ⟨k1, k2, k3⟩ M with
    | none =>
      rw [hx] at hy
      simp [zeroX] at hy
      obtain ⟨-, rfl, rfl, rfl, rfl, rfl, rfl⟩ := hy
      exact ⟨RowsAt.nil, RowsAt.nil, by simp, by simp⟩
    | some x =>
      rw [hx] at hy
      simp only [Option.getD_some] at hy
      have hm := (getX_mem hx).1
      rw [hy] at hm
      exact ⟨(h.rows _ hm).1, (h.rows _ hm).2, (h.lens _ hm).1, (h.lens _ hm).2⟩
  obtain ⟨w0, hW0⟩ : ∃ w0, (w.alloc (.cells #[.int .i64 k1, .int .i64 k2, .int .i64 k3] 85)).alloc (.cells #[.int .i64 0, .int .i64 0, .int .i64 0, .int .i64 0, .int .i64 0, .int .i64 0, .int .i64 0, .slice none 0 0, .slice none 0 0] 38) = w0 := ⟨_, rfl⟩
  have hk : Blk w0 w.heap.size 85 #[.int .i64 k1, .int .i64 k2, .int .i64 k3] := by rw [← hW0]; exact (Blk.new w _ _).alloc _
  have ho : Blk w0 (w.heap.size + 1) 38 #[.int .i64 0, .int .i64 0, .int .i64 0, .int .i64 0, .int .i64 0, .int .i64 0, .int .i64 0, .slice none 0 0, .slice none 0 0] := by rw [← hW0]; exact Blk.size (by simp)
  have hb0 : Below w.heap.size w w0 := by rw [← hW0]; exact ((Below.refl w.heap.size w).alloc (Nat.le_refl _) _).alloc (by simp) _
  have hw := h.keep hb0
  have Hb0 := Lib.hid hb0
  obtain ⟨z0, z1, z2⟩ : _ ∧ _ ∧ _ := ⟨hk.cell 0, hk.cell 1, hk.cell 2⟩
  have z3 := hw.ptr.cell 1
  simp only [List.getElem?_toArray, List.getElem?_cons_zero, List.getElem?_cons_succ] at z0 z1 z2 z3
  have hl := hw.map.drew.look_run keyK3 Try.underlying89 (zeroXv _) ⟨k1, k2, k3⟩ true
  simp only [if_true, K3.enc] at hl
  obtain ⟨e1, e2⟩ := getL_valX ⟨k1, k2, k3⟩ M
  rw [hy] at e1
  rw [his] at e2
  rw [e1, e2] at hl
  have hl2 := fun o => (hw.map.alloc o).drew.look_run keyK3 Try.underlying89 (zeroXv _) ⟨k1, k2, k3⟩ true
  simp only [if_true, K3.enc] at hl2
  rw [e1, e2] at hl2
  have c0 := fun o => (hk.alloc o).cell 0
  have c1 := fun o => (hk.alloc o).cell 1
  have c2 := fun o => (hk.alloc o).cell 2
  have c3 := fun o => (hw.ptr.alloc o).cell 1
  simp only [List.getElem?_toArray, List.getElem?_cons_zero, List.getElem?_cons_succ] at c0 c1 c2 c3
  unfold Lsa.val Lsa.cells at hl hl2
  simp only at hl hl2
  rw [← hnl, ← hnm] at hl hl2
  have Hrw := Lib.hid hrw
  have Hnl := Lib.hid hnl
  have Hnm := Lib.hid hnm
  have Ho := Lib.hid ho
  clear hk hw h e1 e2 ho hy his hrw hnl hnm hb0
  go_enter Try.func57, Try.ntmps57
  go_upto_region 3 with fail
  go_region
  go_upto_region 4 with fail
  obtain ⟨w4, hw4⟩ : ∃ w4, (w0.alloc (.cells #[.int .i64 h1, .int .i64 h2, .int .i64 h3, .int .i64 h4, .int .i64 h5, .int .i64 h6, .int .i64 h7, .slice ka nl kc, .slice ma nm mc] 38)).drew = w4 := ⟨_, rfl⟩
  have hk4 : Blk w4 w0.heap.size 38 #[.int .i64 h1, .int .i64 h2, .int .i64 h3, .int .i64 h4, .int .i64 h5, .int .i64 h6, .int .i64 h7, .slice ka nl kc, .slice ma nm mc] := by rw [← hw4]; exact Blk.new w0 _ _
  have hb4 : Below w0.heap.size w0 w4 := by rw [← hw4]; exact (below_new w0 _).drew
  have hb4w := below_trans Hb0.out Hb0.out.size hb4
  have HOW := Lib.hid (own_any h1 h2 h3 h4 h5 h6 h7 ka kc ls ma mc ms w4 w.heap.size (Hrw.out.1.below hb4w) (Hrw.out.2.1.below hb4w) hb4w.size (by have := Hrw.out.2.2.1; omega) (by have := Hrw.out.2.2.2; omega) nl nm Hnl.out Hnm.out)
  have hs0 : w0.heap.size = w.heap.size + 2 := by rw [← hW0]; simp
  have Hb4w := Lib.hid hb4w
  have Ho4 := Lib.hid (Ho.out.below hb4 (by omega))
  obtain ⟨p0, p1, p2, p3, p4, p5, p6, p7, p8, pf⟩ := blk9 hk4
  rw [hw4]
  have hq4 : w.heap.size + 1 < w4.heap.size := Ho4.out.lt
  clear hW0 hw4 hk4 hb4 hb4w z0 z1 z2 z3 hl hl2 c0 c1 c2 c3
  rw [hs0] at p0 p1 p2 p3 p4 p5 p6 p7 p8 pf
  go_wp2_with (go_at_call 52; (with_reducible refine Calls.mono HOW.out ?_); rintro r w5 ⟨Aa, ca, Ab, cb, rfl, oa, ob, hb5⟩; have OA := Lib.hid oa; have OB := Lib.hid ob; have Hb5 := Lib.hid hb5; obtain ⟨q0, q1, q2, q3, q4, q5, q6, q7, q8, qf⟩ := blk9 (Ho4.out.below hb5 Ho4.out.lt); clear oa ob hb5)
  have hna : (Value.slice Aa nl ca).ownBlock ≠ some (w.heap.size + 1) := fun e => by have := (OwnR.block OA.out _ e).1; omega
  have hnb : (Value.slice Ab nm cb).ownBlock ≠ some (w.heap.size + 1) := fun e => by have := (OwnR.block OB.out _ e).1; omega
  refine bodyPost_named (v := .tuple #[.agg #[.int .i64 h1, .int .i64 h2, .int .i64 h3, .int .i64 h4, .int .i64 h5, .int .i64 h6, .int .i64 h7, .slice Aa nl ca, .slice Ab nm cb], .bool is]) (fun W => Blk W (w.heap.size + 1) 38 #[.int .i64 h1, .int .i64 h2, .int .i64 h3, .int .i64 h4, .int .i64 h5, .int .i64 h6, .int .i64 h7, .slice Aa nl ca, .slice Ab nm cb]) (Blk.set9 (Ho4.out.below Hb5.out Ho4.out.lt) _ _ _ _ _ _ _ _ _) (fun W hB => by
    obtain ⟨e0, e1, e2, e3, e4, e5, e6, e7, e8, -⟩ := blk9 hB
    simp [results, Try.results57, go_sem, e0, e1, e2, e3, e4, e5, e6, e7, e8]) rfl ?_
  exact ⟨Aa, ca, Ab, cb, rfl, OwnR.lower (own_far9 OA.out hna _ _ _ _ _ _ _ _ _) Hb4w.out.size, OwnR.lower (own_far9 OB.out hnb _ _ _ _ _ _ _ _ _) Hb4w.out.size, below_set9 (below_trans Hb4w.out Hb4w.out.size Hb5.out) (by omega) _ _ _ _ _ _ _ _ _⟩

end Go.Proofs.Ytpnbibokddhheaa

/-
  Layer 7 in plain words: the document's list in order, beside what a map has.
-/
namespace Go.Proofs.Ytpnbibokddhheaa

def insX (y : Lsa) : List Lsa → List Lsa
  | [] => [y]
  | x :: L => if lessK (keyX y) (keyX x) = true then y :: x :: L else x :: insX y L
def dropX (k : K3) (L : List Lsa) : List Lsa := L.filter fun x => decide (keyX x ≠ k)
def findX (k : K3) : List Lsa → Int
  | [] => -1
  | x :: L => if keyX x = k then 0 else if findX k L < 0 then -1 else findX k L + 1
theorem findX_ge (k : K3) : ∀ L : List Lsa, -1 ≤ findX k L ∧ findX k L < L.length
  | [] => ⟨by simp [findX], by simp [findX]⟩
  | x :: L => by
    have := findX_ge k L
    unfold findX
    simp only [List.length_cons]
    split
    · omega
    · split <;> omega
theorem findX_at {k : K3} : ∀ {L : List Lsa} {j : Nat} (hj : j < L.length), keyX L[j] = k → (∀ i, (hi : i < j) → (hl : i < L.length) → keyX L[i] ≠ k) → findX k L = j
  | x :: L, 0, _, he, _ => by simp at he; simp [findX, he]
  | x :: L, j + 1, hj, he, h0 => by
    have h1 := h0 0 (by omega) (by simp)
    simp only [List.getElem_cons_zero] at h1
    have h2 := findX_at (L := L) (j := j) (by simpa using hj) (by simpa using he) (fun i hi hl => by
      have := h0 (i + 1) (by omega) (by simp; omega)
      simpa using this)
    unfold findX
    rw [if_neg h1, if_neg (by omega), h2]
    omega
theorem findX_none {k : K3} : ∀ {L : List Lsa}, (∀ i, (hi : i < L.length) → keyX L[i] ≠ k) → findX k L = -1
  | [], _ => rfl
  | x :: L, h0 => by
    have h1 := h0 0 (by simp)
    simp only [List.getElem_cons_zero] at h1
    have h2 := findX_none (L := L) (fun i hi => by
      have := h0 (i + 1) (by simp; omega)
      simpa using this)
    unfold findX
    rw [if_neg h1, if_pos (by omega)]
theorem findX_get {k : K3} : ∀ {L : List Lsa}, (findX k L < 0 ∧ getX k L = none ∧ dropX k L = L) ∨ (∃ (j : Nat) (hj : j < L.length), findX k L = j ∧ getX k L = some L[j] ∧ keyX L[j] = k ∧ ∀ h : Lsa, keyX h = k → setX h L = L.set j h)
  | [] => .inl ⟨by simp [findX], rfl, rfl⟩
  | x :: L => by
    by_cases hx : keyX x = k
    · right
      have hx' : keyH x.head = k := hx
      refine ⟨0, by simp, ?_, ?_, hx, fun h hh => ?_⟩
      · simp [findX, hx]
      · simp [getX, hx']
      · have hh' : keyH h.head = k := hh
        simp [setX, hx', hh']
    · have hx' : ¬ keyH x.head = k := hx
      rcases findX_get (k := k) (L := L) with ⟨h1, h2, h3⟩ | ⟨j, hj, h1, h2, h3, h4⟩
      · left
        refine ⟨?_, ?_, ?_⟩
        · unfold findX; rw [if_neg hx, if_pos h1]; omega
        · unfold getX; rw [if_neg hx', h2]
        · unfold dropX at h3 ⊢
          rw [List.filter_cons_of_pos (by simpa using hx), h3]
      · right
        refine ⟨j + 1, by simp; omega, ?_, ?_, by simpa using h3, fun h hh => ?_⟩
        · unfold findX; rw [if_neg hx, if_neg (by omega), h1]; omega
        · unfold getX; rw [if_neg hx', h2]; simp
        · have hh' : keyH h.head = k := hh
          unfold setX; rw [if_neg (by rw [hh']; exact hx'), h4 h hh]; simp
theorem getX_none2 {k : K3} : ∀ {M : List Lsa}, getX k M = none ↔ ∀ x ∈ M, keyX x ≠ k
  | [] => by simp [getX]
  | y :: M => by
    unfold getX
    by_cases hy : keyH y.head = k
    · simp [hy, keyX]
    · simp [hy, keyX, getX_none2 (M := M)]
theorem getX_of {M : List Lsa} (hn : (M.map keyX).Nodup) {x : Lsa} (hx : x ∈ M) : getX (keyX x) M = some x := by
  induction M with
  | nil => simp at hx
  | cons y M ih =>
    simp only [List.map_cons, List.nodup_cons] at hn
    unfold getX
    by_cases hy : keyH y.head = keyX x
    · rw [if_pos hy]
      rcases List.mem_cons.1 hx with e | hx
      · rw [e]
      · exact absurd (by rw [show keyX y = keyX x from hy]; exact List.mem_map_of_mem hx) hn.1
    · rw [if_neg hy]
      rcases List.mem_cons.1 hx with e | hx
      · exact absurd (by rw [e]; rfl) hy
      · exact ih hn.2 hx
theorem setX_perm (h : Lsa) : ∀ {M : List Lsa}, (M.map keyX).Nodup → (setX h M).Perm (h :: dropX (keyX h) M)
  | [], _ => by simp [setX, dropX]
  | x :: M, hn => by
    simp only [List.map_cons, List.nodup_cons] at hn
    unfold setX
    by_cases hx : keyH x.head = keyH h.head
    · have hx' : keyX x = keyX h := hx
      rw [if_pos hx]
      have : dropX (keyX h) (x :: M) = M := by
        unfold dropX
        rw [List.filter_cons_of_neg (by simp [hx'])]
        exact List.filter_eq_self.2 fun y hy => by simpa using fun e => hn.1 (by rw [hx', ← e]; exact List.mem_map_of_mem hy)
      rw [this]
    · have hx' : ¬ keyX x = keyX h := hx
      rw [if_neg hx]
      have : dropX (keyX h) (x :: M) = x :: dropX (keyX h) M := by unfold dropX; rw [List.filter_cons_of_pos (by simpa using hx')]
      rw [this]
      exact ((setX_perm h hn.2).cons x).trans (List.Perm.swap _ _ _)
theorem insX_perm (h : Lsa) : ∀ L : List Lsa, (insX h L).Perm (h :: L)
  | [] => List.Perm.refl _
  | x :: L => by
    unfold insX
    split
    · exact List.Perm.refl _
    · exact ((insX_perm h L).cons x).trans (List.Perm.swap _ _ _)
def sortedX (L : List Lsa) : Prop := L.Pairwise fun x y => lessK (keyX x) (keyX y) = true
theorem sortedX.keys {L : List Lsa} (h : sortedX L) : (L.map keyX).Nodup := by
  unfold sortedX at h
  rw [List.Nodup, List.pairwise_map]
  exact h.imp fun {a b} hab e => by rw [e, lessK_irr] at hab; cases hab
theorem insX_sorted {h : Lsa} : ∀ {L : List Lsa}, sortedX L → (∀ x ∈ L, keyX x ≠ keyX h) → sortedX (insX h L)
  | [], _, _ => by simp [insX, sortedX]
  | x :: L, hs, hn => by
    unfold sortedX at hs
    rw [List.pairwise_cons] at hs
    unfold insX
    by_cases hl : lessK (keyX h) (keyX x) = true
    · rw [if_pos hl]
      unfold sortedX
      rw [List.pairwise_cons, List.pairwise_cons]
      refine ⟨fun y hy => ?_, hs⟩
      rcases List.mem_cons.1 hy with rfl | hy
      · exact hl
      · exact lessK_trans hl (hs.1 y hy)
    · rw [if_neg hl]
      have hl2 : lessK (keyX x) (keyX h) = true := by
        cases h3 : lessK (keyX x) (keyX h) with
        | true => rfl
        | false => exact absurd (lessK_tot h3 (by simpa using hl)) (hn x (by simp))
      unfold sortedX
      rw [List.pairwise_cons]
      refine ⟨fun y hy => ?_, insX_sorted hs.2 fun y hy => hn y (by simp [hy])⟩
      rcases List.mem_cons.1 ((insX_perm h L).subset hy) with rfl | hy
      · exact hl2
      · exact hs.1 y hy
/-- the same, but for where it lies, and the order -/
structure DEq (M L : List Lsa) : Prop where
  perm : (M.map vX).Perm (L.map vX)
  sorted : sortedX L
theorem DEq.nil : DEq [] [] := ⟨List.Perm.refl _, List.Pairwise.nil⟩
section
variable {M L : List Lsa}
theorem DEq.len (h : DEq M L) : M.length = L.length := by have := h.perm.length_eq; simpa using this
theorem DEq.nodup (h : DEq M L) : (M.map keyX).Nodup := by
  rw [← map_keys, (h.perm.map keyV).nodup_iff, map_keys]
  exact h.sorted.keys
theorem DEq.find (h : DEq M L) (k : K3) : (getX k M = none ∧ findX k L < 0 ∧ dropX k L = L) ∨ ∃ (a : Lsa) (j : Nat) (hj : j < L.length), getX k M = some a ∧ findX k L = j ∧ keyX L[j] = k ∧ vX L[j] = vX a ∧ ∀ z : Lsa, keyX z = k → setX z L = L.set j z := by
  rcases findX_get (k := k) (L := L) with ⟨h1, h2, h3⟩ | ⟨j, hj, h1, h2, h3, h4⟩
  · refine .inl ⟨?_, h1, h3⟩
    rw [getX_none2] at h2 ⊢
    intro x hx e
    have hm : vX x ∈ L.map vX := h.perm.subset (List.mem_map_of_mem hx)
    obtain ⟨y, hy, hyx⟩ := List.mem_map.1 hm
    exact h2 y hy (by rw [← keyV_vX, hyx, keyV_vX, e])
  · have hm : vX L[j] ∈ M.map vX := h.perm.symm.subset (List.mem_map_of_mem (List.getElem_mem hj))
    obtain ⟨a, ha, hav⟩ := List.mem_map.1 hm
    have hk : keyX a = k := by rw [← h3, ← keyV_vX, hav, keyV_vX]
    refine .inr ⟨a, j, hj, ?_, h1, h3, hav.symm, h4⟩
    rw [← hk]
    exact getX_of h.nodup ha
theorem drop_map (k : K3) (L : List Lsa) : (dropX k L).map vX = (L.map vX).filter fun v => decide (keyV v ≠ k) := by
  unfold dropX
  rw [List.filter_map]
  rfl
theorem DEq.put (h : DEq M L) {y z : Lsa} (hv : vX y = vX z) : DEq (setX y M) (insX z (dropX (keyX z) L)) := by
  have hk : keyX y = keyX z := by rw [← keyV_vX, hv, keyV_vX]
  have hs : sortedX (dropX (keyX z) L) := h.sorted.sublist List.filter_sublist
  refine ⟨((setX_perm y h.nodup).map vX).trans ?_, insX_sorted hs fun x hx => by have := (List.mem_filter.1 hx).2; simpa using this⟩
  refine List.Perm.trans ?_ ((insX_perm z _).map vX).symm
  rw [List.map_cons, List.map_cons, hv, hk]
  refine List.Perm.cons _ ?_
  rw [drop_map, drop_map]
  exact h.perm.filter _
theorem DEq.set_ (h : DEq M L) {y z : Lsa} {j : Nat} (hj : j < L.length) (hv : vX y = vX z) (hk : keyX L[j] = keyX z) (hs : setX z L = L.set j z) : DEq (setX y M) (L.set j z) := by
  have hky : keyX y = keyX z := by rw [← keyV_vX, hv, keyV_vX]
  refine ⟨((setX_perm y h.nodup).map vX).trans ?_, ?_⟩
  · rw [← hs]
    refine List.Perm.trans ?_ ((setX_perm z h.sorted.keys).map vX).symm
    rw [List.map_cons, List.map_cons, hv, hky]
    refine List.Perm.cons _ ?_
    rw [drop_map, drop_map]
    exact h.perm.filter _
  · have e : (L.set j z).map keyX = L.map keyX := by
      rw [List.map_set, ← hk, show keyX L[j] = (L.map keyX)[j]'(by simpa using hj) by simp, List.set_getElem_self]
    have h1 : (L.map keyX).Pairwise fun x y => lessK x y = true := by rw [List.pairwise_map]; exact h.sorted
    rw [← e, List.pairwise_map] at h1
    exact h1
end

end Go.Proofs.Ytpnbibokddhheaa

/-
  Layer 7: a description is put.
-/
namespace Go.Proofs.Ytpnbibokddhheaa
open Go.RowKit

theorem DbAt.drewN {w : World} {p b : Nat} {room : Int} {M : List Lsa} (h : DbAt w p b room M) (q : Nat) : DbAt (w.drewN q) p b room M := h.keep (below_drewN (Below.refl _ _) q)
theorem DbAt.drew {w : World} {p b : Nat} {room : Int} {M : List Lsa} (h : DbAt w p b room M) : DbAt w.drew p b room M := h.keep (Below.refl _ _).drew
theorem ptr1 {w : World} {g : Nat} {t : TypeId} {a b : Value} (h : Blk w g t #[a, b]) : w.cell? ⟨g, 1, none⟩ = some b := h.cell 1
theorem blk3c {w : World} {g : Nat} {t : TypeId} {a b c : Value} (h : Blk w g t #[a, b, c]) : w.cell? ⟨g, 0, none⟩ = some a ∧ w.cell? ⟨g, 1, none⟩ = some b ∧ w.cell? ⟨g, 2, none⟩ = some c := ⟨h.cell 0, h.cell 1, h.cell 2⟩
/-- sealed, it stands in the database; its own two lists are new from block B on -/
def PutTo (B : Nat) (w' : World) (p b : Nat) (room : Int) (h : Hd) (ls : List Lnk) (ms : List Int) (M : List Lsa) : Prop :=
  ∃ Aa ca Ab cb, (∀ a, Aa = some a → B ≤ a.block) ∧ (∀ a, Ab = some a → B ≤ a.block) ∧ DbAt w' p b room (setX ⟨sealedH h ls ms, Aa, ca, ls, Ab, cb, ms⟩ M)
theorem PutTo.mono {B B' : Nat} {w' : World} {p b : Nat} {room : Int} {h : Hd} {ls : List Lnk} {ms : List Int} {M : List Lsa} (hp : PutTo B w' p b room h ls ms M) (hB : B' ≤ B) : PutTo B' w' p b room h ls ms M := by
  obtain ⟨Aa, ca, Ab, cb, h1, h2, h3⟩ := hp
  exact ⟨Aa, ca, Ab, cb, fun a e => Nat.le_trans hB (h1 a e), fun a e => Nat.le_trans hB (h2 a e), h3⟩
set_option maxHeartbeats 8000000 in
set_option maxRecDepth 100000 in
theorem DbPut_ok (p b : Nat) (room : Int) (M : List Lsa) (y1 y2 y3 y4 y5 y6 y7 : Int) (ka : Option Addr) (kc : Nat) (ls : List Lnk) (ma : Option Addr) (mc : Nat) (ms : List Int) (w : World) (h : DbAt w p b room M) (hl : RowsAt 4 Lnk.cells w w.heap.size ka ls) (hm : RowsAt 1 icell w w.heap.size ma ms) (hlm : ls.length ≤ 1000) (hmm : ms.length ≤ 1000) (nl nm : Nat) (hnl : nl = ls.length) (hnm : nm = ms.length)
    (ht : rightB ⟨⟨y1, y2, y3, y4, y5, y6, y7⟩, ka, kc, ls, ma, mc, ms⟩ = true) {is : Bool} (his : (getX ⟨y2, y3, y4⟩ M).isSome = is) (hroom : is = true ∨ (M.length : Int) ≠ room) :
    Calls Try.prog 19 #[.pointer (some ⟨p, 0, none⟩), .agg #[.int .i64 y1, .int .i64 y2, .int .i64 y3, .int .i64 y4, .int .i64 y5, .int .i64 y6, .int .i64 y7, .slice ka nl kc, .slice ma nm mc]] w fun r w' => r = .returned (.int .i64 0) ∧ PutTo w.heap.size w' p b room ⟨y1, y2, y3, y4, y5, y6, y7⟩ ls ms M ∧ w.grownBy w' (some b) := by
  obtain ⟨w1, hW1⟩ : ∃ w1, w.alloc (.cells #[.int .i64 y1, .int .i64 y2, .int .i64 y3, .int .i64 y4, .int .i64 y5, .int .i64 y6, .int .i64 y7, .slice ka nl kc, .slice ma nm mc] 38) = w1 := ⟨_, rfl⟩
  have hk1 := Blk.new w 38 #[.int .i64 y1, .int .i64 y2, .int .i64 y3, .int .i64 y4, .int .i64 y5, .int .i64 y6, .int .i64 y7, .slice ka nl kc, .slice ma nm mc]
  have hb1 := below_new w (.cells #[.int .i64 y1, .int .i64 y2, .int .i64 y3, .int .i64 y4, .int .i64 y5, .int .i64 y6, .int .i64 y7, .slice ka nl kc, .slice ma nm mc] 38)
  rw [hW1] at hk1 hb1
  have HR := Lib.hid (lsaRight_any y1 y2 y3 y4 y5 y6 y7 ka kc ls ma mc ms w1 w1.heap.size (rows_keep hl hb1) (rows_keep hm hb1) (Nat.le_refl _) (by unfold maxLen; omega) (by unfold maxLen; omega) nl nm hnl hnm ht)
  have HS := Lib.hid (fun W (hW : Below w.heap.size w W) => seal_any y1 y2 y3 y4 y5 y6 y7 ka kc ls ma mc ms W w.heap.size (hl.below hW) (hm.below hW) hW.size hlm hmm nl nm hnl hnm ht (s1 := (sealedH ⟨y1, y2, y3, y4, y5, y6, y7⟩ ls ms).sum) (s2 := (sealedH ⟨y1, y2, y3, y4, y5, y6, y7⟩ ls ms).long) rfl)
  have Hlen : Hid (ls.length ≤ 1000 ∧ ms.length ≤ 1000 ∧ nl = ls.length ∧ nm = ms.length) := Lib.hid ⟨hlm, hmm, hnl, hnm⟩
  have H := Lib.hid h
  have Hb1 := Lib.hid hb1
  have Hk1 := Lib.hid hk1
  have His := Lib.hid his
  have Hroom := Lib.hid hroom
  obtain ⟨z0, z1, z2, z3, z4, z5, z6, z7, z8, zf⟩ := blk9 hk1
  clear hk1 hb1 hl hm hlm hmm hnl hnm ht his hroom h
  go_enter Try.func19, Try.ntmps19
  go_upto_region 6 with (first
    | (go_at_call 50; (with_reducible refine Calls.mono HR.out ?_); rintro r w2 ⟨rfl, hb2⟩; obtain ⟨x0, x1, x2, x3, x4, x5, x6, x7, x8, xf⟩ := blk9 (Hk1.out.below hb2 Hk1.out.lt); have Hb2 := Lib.hid hb2; clear hb2)
    | (go_at_call 47; (with_reducible refine Calls.mono (keyOf_any _ _ _ _ _ _ _ _) ?_); rintro r w3 ⟨rfl, hb3⟩; have Hb3 := Lib.hid hb3; clear hb3))
  obtain ⟨w5, hw5⟩ : ∃ w5, w3.alloc (.cells #[.int .i64 y2, .int .i64 y3, .int .i64 y4] 85) = w5 := ⟨_, rfl⟩
  have hb5 := below_new w3 (.cells #[.int .i64 y2, .int .i64 y3, .int .i64 y4] 85)
  have hk5 : Blk w5 w3.heap.size 85 #[.int .i64 y2, .int .i64 y3, .int .i64 y4] := by rw [← hw5]; exact Blk.new w3 _ _
  rw [hw5] at hb5 ⊢
  have hbw5 := below_trans Hb1.out Hb1.out.size (below_trans Hb2.out Hb2.out.size (below_trans Hb3.out Hb3.out.size hb5))
  have hx5 : Blk w5 w.heap.size 38 #[.int .i64 y1, .int .i64 y2, .int .i64 y3, .int .i64 y4, .int .i64 y5, .int .i64 y6, .int .i64 y7, .slice ka nl kc, .slice ma nm mc] := ((Hk1.out.below Hb2.out Hk1.out.lt).below Hb3.out (Hk1.out.below Hb2.out Hk1.out.lt).lt).below hb5 ((Hk1.out.below Hb2.out Hk1.out.lt).below Hb3.out (Hk1.out.below Hb2.out Hk1.out.lt).lt).lt
  have hd5 := H.out.keep hbw5
  have Hbw5 := Lib.hid hbw5
  have Hd5 := Lib.hid hd5
  have Hk5 := Lib.hid hk5
  have Hx5 := Lib.hid hx5
  clear hw5 hb5 hbw5 hk5 hx5 hd5 z0 z1 z2 z3 z4 z5 z6 z7 z8 zf x0 x1 x2 x3 x4 x5 x6 x7 x8 xf
  have hl := Hd5.out.map.drew.look_run keyK3 Try.underlying89 (zeroXv _) ⟨y2, y3, y4⟩ true
  have hl2 := fun o => (Hd5.out.map.alloc o).drew.look_run keyK3 Try.underlying89 (zeroXv _) ⟨y2, y3, y4⟩ true
  simp only [if_true, K3.enc] at hl hl2
  obtain ⟨e1, e2⟩ := getL_valX ⟨y2, y3, y4⟩ M
  rw [His.out] at e2
  obtain ⟨u, hu⟩ : ∃ u, (getX ⟨y2, y3, y4⟩ M).getD zeroX = u := ⟨_, rfl⟩
  rw [hu] at e1
  rw [e1, e2] at hl hl2
  obtain ⟨⟨u1, u2, u3, u4, u5, u6, u7⟩, xa, xc, xs, va, vc, vs⟩ := u
  unfold Lsa.val Lsa.cells at hl hl2
  simp only at hl hl2
  obtain ⟨xl, hxl⟩ : ∃ xl, xs.length = xl := ⟨_, rfl⟩
  obtain ⟨vl, hvl⟩ : ∃ vl, vs.length = vl := ⟨_, rfl⟩
  rw [hxl, hvl] at hl hl2
  clear e1 e2 hu hxl hvl
  obtain ⟨z0, z1, z2, z3⟩ : _ ∧ _ ∧ _ ∧ _ := ⟨Hk5.out.cell 0, Hk5.out.cell 1, Hk5.out.cell 2, Hd5.out.ptr.cell 1⟩
  obtain ⟨c0, c1, c2, c3⟩ : _ ∧ _ ∧ _ ∧ _ := ⟨fun o => (Hk5.out.alloc o).cell 0, fun o => (Hk5.out.alloc o).cell 1, fun o => (Hk5.out.alloc o).cell 2, fun o => (Hd5.out.ptr.alloc o).cell 1⟩
  simp only [List.getElem?_toArray, List.getElem?_cons_zero, List.getElem?_cons_succ] at c0 c1 c2 c3 z0 z1 z2 z3
  go_region
  obtain ⟨w6, hw6⟩ : ∃ w6, (w5.alloc (.cells #[.int .i64 u1, .int .i64 u2, .int .i64 u3, .int .i64 u4, .int .i64 u5, .int .i64 u6, .int .i64 u7, .slice xa xl xc, .slice va vl vc] 38)).drew = w6 := ⟨_, rfl⟩
  have hb6 : Below w5.heap.size w5 w6 := by rw [← hw6]; exact (below_new w5 _).drew
  rw [hw6]
  have hd6 := Hd5.out.keep hb6
  have hk6 := Hk5.out.below hb6 Hk5.out.lt
  have hx6 := Hx5.out.below hb6 Hx5.out.lt
  have Hb6 := Lib.hid (below_trans Hbw5.out Hbw5.out.size hb6)
  have Hd6 := Lib.hid hd6
  have Hk6 := Lib.hid hk6
  have Hx6 := Lib.hid hx6
  clear hw6 hb6 hd6 hk6 hx6 z0 z1 z2 z3 c0 c1 c2 c3 hl hl2
  obtain ⟨z0, z1⟩ : _ ∧ _ := ⟨Hd6.out.ptr.cell 0, Hd6.out.ptr.cell 1⟩
  simp only [List.getElem?_toArray, List.getElem?_cons_zero, List.getElem?_cons_succ] at z0 z1
  have hML : (dbL M).length = M.length := by simp [dbL]
  have hln := fun t => Hd6.out.map.drew.len_run (P := Try.prog) Try.underlying89 t
  rw [hML] at hln
  clear hML
  go_upto_region 7 with fail
  rcases (show is = true ∨ (is = false ∧ (M.length : Int) ≠ room) from by
    rcases Hroom.out with h1 | h1
    · exact .inl h1
    · cases is
      · exact .inr ⟨rfl, h1⟩
      · exact .inl rfl) with rfl | ⟨rfl, hr⟩
  all_goals
    go_region
    go_upto_region 9 with fail
    clear hln z0 z1
    have FZ := Lib.hid (fun W (hW : Below w6.heap.size w6 W) => (show _ ∧ _ ∧ _ from ⟨ptr1 (Hd6.out.keep hW).ptr, blk3c (Hk6.out.below hW Hk6.out.lt), blk9 (Hx6.out.below hW Hx6.out.lt)⟩))
    refine wp_region_F (F := fun W => Below w6.heap.size w6 W) (n := 7) (m := 8) (s := #[false, false, false, false, false, false, false, false]) (by kernel_rfl) (by kernel_rfl) (by kernel_rfl) ?_
    intro wd hwd
    have hF : Below w6.heap.size w6 wd := by rw [hwd.out]; exact (Below.refl _ _).drew.drew
    clear hwd
    refine F_take (i := 0) (d := some 41) (by kernel_rfl) (by kernel_rfl) (by decide) (s' := #[true, false, false, false, false, false, false, false]) (by kernel_rfl) rfl rfl (by kernel_rfl) (by kernel_rfl) (by kernel_rfl) (fun _ _ _ h => h) (Or.inl ⟨by kernel_rfl, fun W hW => by obtain ⟨x0, ⟨k0, k1, k2⟩, x1, x2, x3, x4, x5, x6, x7, x8, x9, -⟩ := FZ.out W hW; go_simp; try with_reducible rfl⟩) hF ?_
    go_frame
    refine F_take (i := 1) (d := some 42) (by kernel_rfl) (by kernel_rfl) (by decide) (s' := #[true, true, false, false, false, false, false, false]) (by kernel_rfl) rfl rfl (by kernel_rfl) (by kernel_rfl) (by kernel_rfl) (fun _ _ _ h => h) (Or.inl ⟨by kernel_rfl, fun W hW => by obtain ⟨x0, ⟨k0, k1, k2⟩, x1, x2, x3, x4, x5, x6, x7, x8, x9, -⟩ := FZ.out W hW; go_simp; try with_reducible rfl⟩) hF ?_
    go_frame
    refine F_take (i := 2) (d := some 43) (by kernel_rfl) (by kernel_rfl) (by decide) (s' := #[true, true, true, false, false, false, false, false]) (by kernel_rfl) rfl rfl (by kernel_rfl) (by kernel_rfl) (by kernel_rfl) (fun _ _ _ h => h) (Or.inl ⟨by kernel_rfl, fun W hW => by obtain ⟨x0, ⟨k0, k1, k2⟩, x1, x2, x3, x4, x5, x6, x7, x8, x9, -⟩ := FZ.out W hW; go_simp; try with_reducible rfl⟩) hF ?_
    go_frame
    refine F_take (i := 3) (d := some 44) (by kernel_rfl) (by kernel_rfl) (by decide) (s' := #[true, true, true, true, false, false, false, false]) (by kernel_rfl) rfl rfl (by kernel_rfl) (by kernel_rfl) (by kernel_rfl) (fun _ _ _ h => h) (Or.inl ⟨by kernel_rfl, fun W hW => by obtain ⟨x0, ⟨k0, k1, k2⟩, x1, x2, x3, x4, x5, x6, x7, x8, x9, -⟩ := FZ.out W hW; go_simp; try with_reducible rfl⟩) hF ?_
    go_frame
    refine F_take (i := 4) (d := some 45) (by kernel_rfl) (by kernel_rfl) (by decide) (s' := #[true, true, true, true, true, false, false, false]) (by kernel_rfl) rfl rfl (by kernel_rfl) (by kernel_rfl) (by kernel_rfl) (fun _ _ _ h => h) (Or.inl ⟨by kernel_rfl, fun W hW => by obtain ⟨x0, ⟨k0, k1, k2⟩, x1, x2, x3, x4, x5, x6, x7, x8, x9, -⟩ := FZ.out W hW; go_simp; try with_reducible rfl⟩) hF ?_
    go_frame
    refine F_take (i := 5) (d := some 46) (by kernel_rfl) (by kernel_rfl) (by decide) (s' := #[true, true, true, true, true, true, false, false]) (by kernel_rfl) rfl rfl (by kernel_rfl) (by kernel_rfl) (by kernel_rfl) (fun _ _ _ h => h) (Or.inl ⟨by kernel_rfl, fun W hW => by obtain ⟨x0, ⟨k0, k1, k2⟩, x1, x2, x3, x4, x5, x6, x7, x8, x9, -⟩ := FZ.out W hW; go_simp; try with_reducible rfl⟩) hF ?_
    go_frame
    refine F_one (i := 6) (s' := #[true, true, true, true, true, true, true, false]) (by kernel_rfl) (by kernel_rfl) (wpOp_enterL (i := 6) (d := some 47) (f := 51) (args := #[.agg #[.int .i64 y1, .int .i64 y2, .int .i64 y3, .int .i64 y4, .int .i64 y5, .int .i64 y6, .int .i64 y7, .slice ka nl kc, .slice ma nm mc]]) rfl rfl (by kernel_rfl) (by go_simp) ((HS.out wd (below_trans Hb6.out Hb6.out.size hF)).mono ?_))
    rintro r v6w ⟨va', vb', rfl, oa, ob, hb8⟩
    obtain ⟨Aa, ca, rfl⟩ : ∃ A c, va' = .slice A nl c := by obtain ⟨A, c, e⟩ := oa.shape; exact ⟨A, c, by rw [e, Hlen.out.2.2.1]⟩
    obtain ⟨Ab, cb, rfl⟩ : ∃ A c, vb' = .slice A nm c := by obtain ⟨A, c, e⟩ := ob.shape; exact ⟨A, c, by rw [e, Hlen.out.2.2.2]⟩
    have hszd := (below_trans Hb6.out Hb6.out.size hF).size
    have Hfa := Lib.hid (show ∀ a, Aa = some a → w.heap.size ≤ a.block from fun a e => Nat.le_trans hszd (OwnR.block oa _ (by rw [e]; rfl)).1)
    have Hfb := Lib.hid (show ∀ a, Ab = some a → w.heap.size ≤ a.block from fun a e => Nat.le_trans hszd (OwnR.block ob _ (by rw [e]; rfl)).1)
    clear hszd
    have ra := (OwnR.rows (C := 4) (cells := Lnk.cells) (fun _ => rfl) oa).2
    have rb := (OwnR.rows (C := 1) (cells := icell) (fun _ => rfl) ob).2
    have hF := below_trans hF hF.size hb8
    have hd8 := Hd6.out.keep hF
    obtain ⟨sh, hsh⟩ : ∃ sh, sealedH ⟨y1, y2, y3, y4, y5, y6, y7⟩ ls ms = sh := ⟨_, rfl⟩
    obtain ⟨w9, hrun, hm9, hg9, -⟩ := hd8.map.update_run (P := Try.prog) keyK3 Try.underlying89 ⟨y2, y3, y4⟩ (.agg #[.int .i64 y1, .int .i64 y2, .int .i64 y3, .int .i64 y4, .int .i64 y5, .int .i64 sh.sum, .int .i64 sh.long, .slice Aa nl ca, .slice Ab nm cb])
    simp only [K3.enc] at hrun
    refine ⟨_, rfl, fun _ => hF, ?_⟩
    rw [hsh]
    go_frame
    refine F_one (i := 7) (s' := #[true, true, true, true, true, true, true, true]) (by kernel_rfl) (by kernel_rfl) (wpOp_skipL (i := 7) (w' := w9) rfl rfl (by kernel_rfl) (by go_simp) ⟨fun h => absurd h (by decide), ?_⟩)
    go_frame
    refine F_done (by kernel_rfl) ?_ _
    have hval : (.agg #[.int .i64 y1, .int .i64 y2, .int .i64 y3, .int .i64 y4, .int .i64 y5, .int .i64 sh.sum, .int .i64 sh.long, .slice Aa nl ca, .slice Ab nm cb] : Value) = (⟨sealedH ⟨y1, y2, y3, y4, y5, y6, y7⟩ ls ms, Aa, ca, ls, Ab, cb, ms⟩ : Lsa).val := by
      unfold Lsa.val Lsa.cells
      simp only
      rw [← Hlen.out.2.2.1, ← Hlen.out.2.2.2, hsh]
      rw [← hsh]
      rfl
    rw [hval, show (⟨y2, y3, y4⟩ : K3) = keyH (sealedH ⟨y1, y2, y3, y4, y5, y6, y7⟩ ls ms) from rfl] at hm9
    have hm9' := hm9
    rw [setL_db (⟨sealedH ⟨y1, y2, y3, y4, y5, y6, y7⟩ ls ms, Aa, ca, ls, Ab, cb, ms⟩ : Lsa)] at hm9'
    have hd9 := Lib.hid (hd8.turned hg9 hm9' (fun x hx => (setX_mem hx).elim .inl (fun e => .inr (by subst e; exact ⟨⟨rows_map (fun _ => rfl) (by decide) ra hd8.map hg9, rows_map (fun _ => rfl) (by decide) rb hd8.map hg9⟩, Hlen.out.1, Hlen.out.2.1⟩))))
    have hgw := Lib.hid (grown_trans (grown_below (World.grownBy.refl w (some b)) (below_trans Hb6.out Hb6.out.size hF)) hg9)
    clear hm9 hm9' hg9 hrun hval ra rb oa ob hb8 hd8 hF hsh
    go_wp2
    go_ret
    exact ⟨rfl, ⟨Aa, ca, Ab, cb, Hfa.out, Hfb.out, hd9.out⟩, hgw.out⟩

end Go.Proofs.Ytpnbibokddhheaa

/-
  Layer 7: a description is not put: it is not right, or there is no room.
-/
namespace Go.Proofs.Ytpnbibokddhheaa
open Go.RowKit

theorem below_drew2 {B : Nat} {a w : World} (h : Below B a w) : Below B a w.drew := below_drewN h 1
set_option maxHeartbeats 4000000 in
set_option maxRecDepth 100000 in
theorem DbPut_bad (p : Nat) (y1 y2 y3 y4 y5 y6 y7 : Int) (ka : Option Addr) (kc : Nat) (ls : List Lnk) (ma : Option Addr) (mc : Nat) (ms : List Int) (w : World) (hl : RowsAt 4 Lnk.cells w w.heap.size ka ls) (hm : RowsAt 1 icell w w.heap.size ma ms) (hlm : ls.length ≤ maxLen) (hmm : ms.length ≤ maxLen) (nl nm : Nat) (hnl : nl = ls.length) (hnm : nm = ms.length)
    (ht : rightB ⟨⟨y1, y2, y3, y4, y5, y6, y7⟩, ka, kc, ls, ma, mc, ms⟩ = false) :
    Calls Try.prog 19 #[.pointer (some ⟨p, 0, none⟩), .agg #[.int .i64 y1, .int .i64 y2, .int .i64 y3, .int .i64 y4, .int .i64 y5, .int .i64 y6, .int .i64 y7, .slice ka nl kc, .slice ma nm mc]] w fun r w' => r = .returned (.int .i64 1) ∧ Below w.heap.size w w' := by
  obtain ⟨w1, hW1⟩ : ∃ w1, w.alloc (.cells #[.int .i64 y1, .int .i64 y2, .int .i64 y3, .int .i64 y4, .int .i64 y5, .int .i64 y6, .int .i64 y7, .slice ka nl kc, .slice ma nm mc] 38) = w1 := ⟨_, rfl⟩
  have hk1 := Blk.new w 38 #[.int .i64 y1, .int .i64 y2, .int .i64 y3, .int .i64 y4, .int .i64 y5, .int .i64 y6, .int .i64 y7, .slice ka nl kc, .slice ma nm mc]
  have hb1 := below_new w (.cells #[.int .i64 y1, .int .i64 y2, .int .i64 y3, .int .i64 y4, .int .i64 y5, .int .i64 y6, .int .i64 y7, .slice ka nl kc, .slice ma nm mc] 38)
  rw [hW1] at hk1 hb1
  have HR := Lib.hid (lsaRight_any y1 y2 y3 y4 y5 y6 y7 ka kc ls ma mc ms w1 w1.heap.size (rows_keep hl hb1) (rows_keep hm hb1) (Nat.le_refl _) hlm hmm nl nm hnl hnm ht)
  have Hb1 := Lib.hid hb1
  obtain ⟨z0, z1, z2, z3, z4, z5, z6, z7, z8, zf⟩ := blk9 hk1
  clear hk1 hb1 hl hm hlm hmm hnl hnm ht
  go_enter Try.func19, Try.ntmps19
  go_wp2_with (go_at_call 50; (with_reducible refine Calls.mono HR.out ?_); rintro r w2 ⟨rfl, hb2⟩; have Hb2 := Lib.hid (below_trans Hb1.out Hb1.out.size hb2); clear hb2)
  go_ret
  exact ⟨rfl, Hb2.out⟩
set_option maxHeartbeats 8000000 in
set_option maxRecDepth 100000 in
theorem DbPut_full (p b : Nat) (room : Int) (M : List Lsa) (y1 y2 y3 y4 y5 y6 y7 : Int) (ka : Option Addr) (kc : Nat) (ls : List Lnk) (ma : Option Addr) (mc : Nat) (ms : List Int) (w : World) (h : DbAt w p b room M) (hl : RowsAt 4 Lnk.cells w w.heap.size ka ls) (hm : RowsAt 1 icell w w.heap.size ma ms) (hlm : ls.length ≤ 1000) (hmm : ms.length ≤ 1000) (nl nm : Nat) (hnl : nl = ls.length) (hnm : nm = ms.length)
    (ht : rightB ⟨⟨y1, y2, y3, y4, y5, y6, y7⟩, ka, kc, ls, ma, mc, ms⟩ = true) (his : (getX ⟨y2, y3, y4⟩ M).isSome = false) (hroom : (M.length : Int) = room) :
    Calls Try.prog 19 #[.pointer (some ⟨p, 0, none⟩), .agg #[.int .i64 y1, .int .i64 y2, .int .i64 y3, .int .i64 y4, .int .i64 y5, .int .i64 y6, .int .i64 y7, .slice ka nl kc, .slice ma nm mc]] w fun r w' => r = .returned (.int .i64 7) ∧ Below w.heap.size w w' := by
  obtain ⟨w1, hW1⟩ : ∃ w1, w.alloc (.cells #[.int .i64 y1, .int .i64 y2, .int .i64 y3, .int .i64 y4, .int .i64 y5, .int .i64 y6, .int .i64 y7, .slice ka nl kc, .slice ma nm mc] 38) = w1 := ⟨_, rfl⟩
  have hk1 := Blk.new w 38 #[.int .i64 y1, .int .i64 y2, .int .i64 y3, .int .i64 y4, .int .i64 y5, .int .i64 y6, .int .i64 y7, .slice ka nl kc, .slice ma nm mc]
  have hb1 := below_new w (.cells #[.int .i64 y1, .int .i64 y2, .int .i64 y3, .int .i64 y4, .int .i64 y5, .int .i64 y6, .int .i64 y7, .slice ka nl kc, .slice ma nm mc] 38)
  rw [hW1] at hk1 hb1
  have HR := Lib.hid (lsaRight_any y1 y2 y3 y4 y5 y6 y7 ka kc ls ma mc ms w1 w1.heap.size (rows_keep hl hb1) (rows_keep hm hb1) (Nat.le_refl _) (by unfold maxLen; omega) (by unfold maxLen; omega) nl nm hnl hnm ht)
  have Hlen : Hid (ls.length ≤ 1000 ∧ ms.length ≤ 1000 ∧ nl = ls.length ∧ nm = ms.length) := Lib.hid ⟨hlm, hmm, hnl, hnm⟩
  have H := Lib.hid h
  have Hb1 := Lib.hid hb1
  have Hk1 := Lib.hid hk1
  have His := Lib.hid his
  have Hroom := Lib.hid hroom
  obtain ⟨z0, z1, z2, z3, z4, z5, z6, z7, z8, zf⟩ := blk9 hk1
  clear hk1 hb1 hl hm hlm hmm hnl hnm ht his hroom h
  go_enter Try.func19, Try.ntmps19
  go_upto_region 6 with (first
    | (go_at_call 50; (with_reducible refine Calls.mono HR.out ?_); rintro r w2 ⟨rfl, hb2⟩; obtain ⟨x0, x1, x2, x3, x4, x5, x6, x7, x8, xf⟩ := blk9 (Hk1.out.below hb2 Hk1.out.lt); have Hb2 := Lib.hid hb2; clear hb2)
    | (go_at_call 47; (with_reducible refine Calls.mono (keyOf_any _ _ _ _ _ _ _ _) ?_); rintro r w3 ⟨rfl, hb3⟩; have Hb3 := Lib.hid hb3; clear hb3))
  obtain ⟨w5, hw5⟩ : ∃ w5, w3.alloc (.cells #[.int .i64 y2, .int .i64 y3, .int .i64 y4] 85) = w5 := ⟨_, rfl⟩
  have hb5 := below_new w3 (.cells #[.int .i64 y2, .int .i64 y3, .int .i64 y4] 85)
  have hk5 : Blk w5 w3.heap.size 85 #[.int .i64 y2, .int .i64 y3, .int .i64 y4] := by rw [← hw5]; exact Blk.new w3 _ _
  rw [hw5] at hb5 ⊢
  have hbw5 := below_trans Hb1.out Hb1.out.size (below_trans Hb2.out Hb2.out.size (below_trans Hb3.out Hb3.out.size hb5))
  have hx5 : Blk w5 w.heap.size 38 #[.int .i64 y1, .int .i64 y2, .int .i64 y3, .int .i64 y4, .int .i64 y5, .int .i64 y6, .int .i64 y7, .slice ka nl kc, .slice ma nm mc] := ((Hk1.out.below Hb2.out Hk1.out.lt).below Hb3.out (Hk1.out.below Hb2.out Hk1.out.lt).lt).below hb5 ((Hk1.out.below Hb2.out Hk1.out.lt).below Hb3.out (Hk1.out.below Hb2.out Hk1.out.lt).lt).lt
  have hd5 := H.out.keep hbw5
  have Hbw5 := Lib.hid hbw5
  have Hd5 := Lib.hid hd5
  have Hk5 := Lib.hid hk5
  have Hx5 := Lib.hid hx5
  clear hw5 hb5 hbw5 hk5 hx5 hd5 z0 z1 z2 z3 z4 z5 z6 z7 z8 zf x0 x1 x2 x3 x4 x5 x6 x7 x8 xf
  have hl := Hd5.out.map.drew.look_run keyK3 Try.underlying89 (zeroXv _) ⟨y2, y3, y4⟩ true
  have hl2 := fun o => (Hd5.out.map.alloc o).drew.look_run keyK3 Try.underlying89 (zeroXv _) ⟨y2, y3, y4⟩ true
  simp only [if_true, K3.enc] at hl hl2
  obtain ⟨e1, e2⟩ := getL_valX ⟨y2, y3, y4⟩ M
  rw [His.out] at e2
  obtain ⟨u, hu⟩ : ∃ u, (getX ⟨y2, y3, y4⟩ M).getD zeroX = u := ⟨_, rfl⟩
  rw [hu] at e1
  rw [e1, e2] at hl hl2
  obtain ⟨⟨u1, u2, u3, u4, u5, u6, u7⟩, xa, xc, xs, va, vc, vs⟩ := u
  unfold Lsa.val Lsa.cells at hl hl2
  simp only at hl hl2
  obtain ⟨xl, hxl⟩ : ∃ xl, xs.length = xl := ⟨_, rfl⟩
  obtain ⟨vl, hvl⟩ : ∃ vl, vs.length = vl := ⟨_, rfl⟩
  rw [hxl, hvl] at hl hl2
  clear e1 e2 hu hxl hvl
  obtain ⟨z0, z1, z2, z3⟩ : _ ∧ _ ∧ _ ∧ _ := ⟨Hk5.out.cell 0, Hk5.out.cell 1, Hk5.out.cell 2, Hd5.out.ptr.cell 1⟩
  obtain ⟨c0, c1, c2, c3⟩ : _ ∧ _ ∧ _ ∧ _ := ⟨fun o => (Hk5.out.alloc o).cell 0, fun o => (Hk5.out.alloc o).cell 1, fun o => (Hk5.out.alloc o).cell 2, fun o => (Hd5.out.ptr.alloc o).cell 1⟩
  simp only [List.getElem?_toArray, List.getElem?_cons_zero, List.getElem?_cons_succ] at c0 c1 c2 c3 z0 z1 z2 z3
  go_region
  obtain ⟨w6, hw6⟩ : ∃ w6, (w5.alloc (.cells #[.int .i64 u1, .int .i64 u2, .int .i64 u3, .int .i64 u4, .int .i64 u5, .int .i64 u6, .int .i64 u7, .slice xa xl xc, .slice va vl vc] 38)).drew = w6 := ⟨_, rfl⟩
  have hb6 : Below w5.heap.size w5 w6 := by rw [← hw6]; exact (below_new w5 _).drew
  rw [hw6]
  have hd6 := Hd5.out.keep hb6
  have hk6 := Hk5.out.below hb6 Hk5.out.lt
  have hx6 := Hx5.out.below hb6 Hx5.out.lt
  have Hb6 := Lib.hid (below_trans Hbw5.out Hbw5.out.size hb6)
  have Hd6 := Lib.hid hd6
  have Hk6 := Lib.hid hk6
  have Hx6 := Lib.hid hx6
  clear hw6 hb6 hd6 hk6 hx6 z0 z1 z2 z3 c0 c1 c2 c3 hl hl2
  obtain ⟨z0, z1⟩ : _ ∧ _ := ⟨Hd6.out.ptr.cell 0, Hd6.out.ptr.cell 1⟩
  simp only [List.getElem?_toArray, List.getElem?_cons_zero, List.getElem?_cons_succ] at z0 z1
  have hML : (dbL M).length = M.length := by simp [dbL]
  have hln := fun t => Hd6.out.map.drew.len_run (P := Try.prog) Try.underlying89 t
  rw [hML] at hln
  clear hML
  go_upto_region 7 with fail
  have hr := Hroom.out
  subst hr
  go_region
  go_wp2
  go_ret
  exact ⟨rfl, below_drew2 Hb6.out⟩

end Go.Proofs.Ytpnbibokddhheaa

/-
  Layer 7: whatever is put into a database.
-/
namespace Go.Proofs.Ytpnbibokddhheaa
open Go.RowKit Go.Sort

def PutOk (M : List Lsa) (x : Lsa) : Prop := rightB x = true ∧ ((getX (keyX x) M).isSome = true ∨ (M.length : Int) ≠ 40)
def PutOkL (L : List Lsa) (x : Lsa) : Prop := rightB x = true ∧ (0 ≤ findX (keyX x) L ∨ (L.length : Int) < 40)
def sealV (x : Lsa) : VX := (sealedH x.head x.links x.members, x.links, x.members)
/-- what a put makes of what was had -/
def PutM (B : Nat) (M : List Lsa) (x : Lsa) (M' : List Lsa) : Prop :=
  (PutOk M x ∧ ∃ Aa ca Ab cb, (∀ a, Aa = some a → B ≤ a.block) ∧ (∀ a, Ab = some a → B ≤ a.block) ∧ M' = setX ⟨sealedH x.head x.links x.members, Aa, ca, x.links, Ab, cb, x.members⟩ M) ∨ (¬ PutOk M x ∧ M' = M)
def PutL (L : List Lsa) (x : Lsa) (L' : List Lsa) : Prop := (PutOkL L x ∧ ∃ z, vX z = sealV x ∧ L' = insX z (dropX (keyX x) L)) ∨ (¬ PutOkL L x ∧ L' = L)
theorem keyX_seal {x z : Lsa} (h : vX z = sealV x) : keyX z = keyX x := by
  rw [← keyV_vX, h]
  unfold keyV sealV keyX keyH
  simp only [sealedH]
theorem putOk_iff {M L : List Lsa} (h : DEq M L) (hl : M.length ≤ 40) (x : Lsa) : PutOk M x ↔ PutOkL L x := by
  have hlen := h.len
  unfold PutOk PutOkL
  rcases h.find (keyX x) with ⟨h1, h2, -⟩ | ⟨a, j, hj, h1, h2, -⟩
  · rw [h1]
    simp only [Option.isSome_none, Bool.false_eq_true, false_or]
    constructor
    · rintro ⟨h3, h4⟩; exact ⟨h3, .inr (by omega)⟩
    · rintro ⟨h3, h4 | h4⟩
      · omega
      · exact ⟨h3, by omega⟩
  · rw [h1]
    simp only [Option.isSome_some, true_or, and_true]
    constructor
    · intro h3; exact ⟨h3, .inl (by omega)⟩
    · exact fun h3 => h3.1
theorem setX_len (y : Lsa) : ∀ M : List Lsa, (setX y M).length = if (getX (keyX y) M).isSome = true then M.length else M.length + 1
  | [] => rfl
  | x :: M => by
    have ih := setX_len y M
    unfold setX getX
    by_cases h : keyH x.head = keyH y.head
    · have h' : keyH x.head = keyX y := h
      rw [if_pos h, if_pos h']
      simp
    · have h' : ¬ keyH x.head = keyX y := h
      rw [if_neg h, if_neg h', List.length_cons, ih, List.length_cons]
      split <;> rfl
theorem put_both {B : Nat} {M M' L L' : List Lsa} {x : Lsa} (h : DEq M L) (hl : M.length ≤ 40) (h1 : PutM B M x M') (h2 : PutL L x L') : DEq M' L' ∧ M'.length ≤ 40 := by
  have hi := putOk_iff h hl x
  rcases h1 with ⟨c1, Aa, ca, Ab, cb, -, -, rfl⟩ | ⟨c1, rfl⟩
  · rcases h2 with ⟨-, z, hz, rfl⟩ | ⟨c2, -⟩
    · have hk := keyX_seal hz
      rw [← hk]
      refine ⟨h.put (show vX _ = vX z by rw [hz]; rfl), ?_⟩
      rw [setX_len]
      have hky : keyX ⟨sealedH x.head x.links x.members, Aa, ca, x.links, Ab, cb, x.members⟩ = keyX x := keyX_seal rfl
      rw [hky]
      rcases c1.2 with c | c
      · rw [if_pos c]; exact hl
      · split <;> omega
    · exact absurd (hi.1 c1) c2
  · rcases h2 with ⟨c2, -⟩ | ⟨-, rfl⟩
    · exact absurd (hi.2 c2) c1
    · exact ⟨h, hl⟩
def DbPost (w w' : World) (p b : Nat) (M : List Lsa) (x : Lsa) : Prop := ∃ M', PutM w.heap.size M x M' ∧ DbAt w' p b 40 M'
def someInt (r : Ending) : Prop := ∃ e : Int, r = .returned (.int .i64 e)
theorem dbPut_any (p b : Nat) (M : List Lsa) (y1 y2 y3 y4 y5 y6 y7 : Int) (ka : Option Addr) (kc : Nat) (ls : List Lnk) (ma : Option Addr) (mc : Nat) (ms : List Int) (w : World) (h : DbAt w p b 40 M) (hl : RowsAt 4 Lnk.cells w w.heap.size ka ls) (hm : RowsAt 1 icell w w.heap.size ma ms) (hlm : ls.length ≤ 1000) (hmm : ms.length ≤ 1000) (nl nm : Nat) (hnl : nl = ls.length) (hnm : nm = ms.length) :
    Calls Try.prog 19 #[.pointer (some ⟨p, 0, none⟩), .agg #[.int .i64 y1, .int .i64 y2, .int .i64 y3, .int .i64 y4, .int .i64 y5, .int .i64 y6, .int .i64 y7, .slice ka nl kc, .slice ma nm mc]] w fun r w' => someInt r ∧ DbPost w w' p b M ⟨⟨y1, y2, y3, y4, y5, y6, y7⟩, ka, kc, ls, ma, mc, ms⟩ ∧ w.grownBy w' (some b) := by
  by_cases ht : rightB ⟨⟨y1, y2, y3, y4, y5, y6, y7⟩, ka, kc, ls, ma, mc, ms⟩ = true
  · by_cases hr : (getX ⟨y2, y3, y4⟩ M).isSome = true ∨ (M.length : Int) ≠ 40
    · refine (DbPut_ok p b 40 M y1 y2 y3 y4 y5 y6 y7 ka kc ls ma mc ms w h hl hm hlm hmm nl nm hnl hnm ht rfl hr).mono ?_
      rintro r w' ⟨rfl, ⟨Aa, ca, Ab, cb, h1, h2, h3⟩, hg⟩
      exact ⟨⟨0, rfl⟩, ⟨_, .inl ⟨⟨ht, hr⟩, Aa, ca, Ab, cb, h1, h2, rfl⟩, h3⟩, hg⟩
    · have h1 : (getX ⟨y2, y3, y4⟩ M).isSome = false := by
        cases hs : (getX ⟨y2, y3, y4⟩ M).isSome with
        | false => rfl
        | true => exact absurd (.inl hs) hr
      have h2 : (M.length : Int) = 40 := Decidable.byContradiction fun c => hr (.inr c)
      refine (DbPut_full p b 40 M y1 y2 y3 y4 y5 y6 y7 ka kc ls ma mc ms w h hl hm hlm hmm nl nm hnl hnm ht h1 h2).mono ?_
      rintro r w' ⟨rfl, hb⟩
      exact ⟨⟨7, rfl⟩, ⟨M, .inr ⟨fun c => hr c.2, rfl⟩, h.keep hb⟩, grown_below (World.grownBy.refl w (some b)) hb⟩
  · refine (DbPut_bad p y1 y2 y3 y4 y5 y6 y7 ka kc ls ma mc ms w hl hm (by unfold maxLen; omega) (by unfold maxLen; omega) nl nm hnl hnm (by simpa using ht)).mono ?_
    rintro r w' ⟨rfl, hb⟩
    exact ⟨⟨1, rfl⟩, ⟨M, .inr ⟨fun c => ht c.1, rfl⟩, h.keep hb⟩, grown_below (World.grownBy.refl w (some b)) hb⟩
theorem blk_nemap4 {κ : Type} {enc : κ → Value} {L : List (κ × Value)} {W : World} {g b : Nat} {t : TypeId} {cs : Array Value} (hb : Blk W g t cs) (hm : MapAt enc W b L) : g ≠ b := by
  rintro rfl
  obtain ⟨es, clock, h1, -⟩ := hm
  unfold Blk at hb
  rw [h1] at hb
  cases hb
theorem own_nemap {κ α : Type} {enc : κ → Value} {S : List (κ × Value)} {W : World} {b B C : Nat} {e : TypeId} {cells : α → List Value} {v : Value} {L : List α} (h : OwnR e C cells W B v L) (hm : MapAt enc W b S) : v.ownBlock ≠ some b := by
  intro e1
  obtain ⟨es, clock, h1, -⟩ := hm
  rcases h.2 with ⟨rfl, -⟩ | ⟨g, cap, cur, rfl, -, hg, -⟩
  · cases e1
  · have : g = b := by injection e1
    subst this
    rw [h1] at hg
    cases hg
theorem row_nemap {κ α : Type} {enc : κ → Value} {S : List (κ × Value)} {W : World} {B C b : Nat} {cells : α → List Value} {A : Option Addr} {R : List α} (hC : ∀ x, (cells x).length = C) (hC0 : 0 < C) (h : RowsAt C cells W B A R) (hm : MapAt enc W b S) (a : Addr) (ea : A = some a) (h0 : 0 < R.length) : some b ≠ some a.block := by
  intro e
  injection e with e
  obtain ⟨b', o, e2, -, hc⟩ := h h0
  rw [ea] at e2
  injection e2 with e2
  subst e2
  have hlt : 0 < (cells R[0]).length := by rw [hC]; exact hC0
  have h1 := hc 0 h0 0 _ hC0 (List.getElem?_eq_getElem hlt)
  obtain ⟨es, clock, hb', -⟩ := hm
  simp only at e
  subst e
  simp [World.cell?, hb'] at h1
def ages13 (M : List Lsa) : Prop := ∀ y ∈ M, 0 ≤ y.head.age ∧ y.head.age ≤ 60
theorem right_age {x : Lsa} (hr : rightB x = true) : 0 ≤ x.head.age ∧ x.head.age ≤ 60 := by
  unfold rightB at hr
  rw [Bool.and_eq_true] at hr
  have h1 := hr.1
  unfold headB at h1
  simp only [Bool.and_eq_true, inB_iff] at h1
  exact h1.1.1.1
theorem putM_ages {B : Nat} {M M' : List Lsa} {x : Lsa} (h : ages13 M) (hp : PutM B M x M') : ages13 M' := by
  rcases hp with ⟨hok, Aa, ca, Ab, cb, -, -, rfl⟩ | ⟨-, rfl⟩
  · intro y hy
    rcases setX_mem hy with hy | rfl
    · exact h y hy
    · exact right_age hok.1
  · exact h

end Go.Proofs.Ytpnbibokddhheaa

/-
  Ages as floats: which are more than six apart.
-/
namespace Go.Proofs.Ytpnbibokddhheaa
open Go.RowKit

def sixB (a b : Nat) : Bool := match floatBits .sub .f64 (floatOfInt .f64 (a : Int)) (floatOfInt .f64 (b : Int)) with
  | some r => (FloatKind.f64.format.order r 4618441417868443648 == some .gt) == decide (b + 6 < a) && (FloatKind.f64.format.order r 13841813454723219456 == some .lt) == decide (a + 6 < b)
  | none => false
theorem six_all : ((List.range 61).all fun a => (List.range 61).all fun b => sixB a b) = true := by kernel_rfl
theorem six {a b : Int} (ha : 0 ≤ a) (ha' : a ≤ 60) (hb : 0 ≤ b) (hb' : b ≤ 60) : ∃ r, floatBits .sub .f64 (floatOfInt .f64 a) (floatOfInt .f64 b) = some r ∧
    (FloatKind.f64.format.order r 4618441417868443648 == some .gt) = decide (b + 6 < a) ∧ (FloatKind.f64.format.order r 13841813454723219456 == some .lt) = decide (a + 6 < b) := by
  obtain ⟨m, rfl⟩ := Int.eq_ofNat_of_zero_le ha
  obtain ⟨n, rfl⟩ := Int.eq_ofNat_of_zero_le hb
  have h := List.all_eq_true.1 (List.all_eq_true.1 six_all m (List.mem_range.2 (by omega))) n (List.mem_range.2 (by omega))
  unfold sixB at h
  split at h
  · rename_i r hr
    simp only [Bool.and_eq_true, beq_iff_eq] at h
    refine ⟨r, hr, h.1.trans (decide_eq_decide.2 (by omega)), h.2.trans (decide_eq_decide.2 (by omega))⟩
  · cases h

end Go.Proofs.Ytpnbibokddhheaa

/-
  order: which description is newer.
-/
namespace Go.Proofs.Ytpnbibokddhheaa
open Go.RowKit Go.Sort

def goneI (age : Int) : Int := if age = 60 then 1 else 0
set_option maxHeartbeats 400000 in
theorem gone_any (a b c d e f g : Int) (w : World) : Calls Try.prog 86 #[.agg #[.int .i64 a, .int .i64 b, .int .i64 c, .int .i64 d, .int .i64 e, .int .i64 f, .int .i64 g]] w fun r w' => r = .returned (.int .i64 (goneI a)) ∧ Below w.heap.size w w' := by
  have Hb0 := Lib.hid (fun o => (Below.refl w.heap.size w).alloc (Nat.le_refl _) o)
  by_cases h : a = 60
  · subst h
    go_enter Try.func86, Try.ntmps86
    go_wp2
    go_ret
    exact ⟨by simp [goneI], Hb0.out _⟩
  · go_enter Try.func86, Try.ntmps86
    go_wp2
    go_ret
    exact ⟨by simp [goneI, h], Hb0.out _⟩
def youngI (a b : Int) : Int := if b + 6 < a ∨ a + 6 < b then cmpI b a else 0

set_option maxHeartbeats 1000000 in
theorem young_any (a1 a2 a3 a4 a5 a6 a7 b1 b2 b3 b4 b5 b6 b7 : Int) (w : World) (ha : 0 ≤ a1) (ha' : a1 ≤ 60) (hb : 0 ≤ b1) (hb' : b1 ≤ 60) : Calls Try.prog 87 #[.agg #[.int .i64 a1, .int .i64 a2, .int .i64 a3, .int .i64 a4, .int .i64 a5, .int .i64 a6, .int .i64 a7], .agg #[.int .i64 b1, .int .i64 b2, .int .i64 b3, .int .i64 b4, .int .i64 b5, .int .i64 b6, .int .i64 b7]] w fun r w' => r = .returned (.int .i64 (youngI a1 b1)) ∧ Below w.heap.size w w' := by
  obtain ⟨r, hr, h1, h2⟩ := six ha ha' hb hb'
  have hsub : ∀ w, (binOp BinOp.sub 160 (.float .f64 (floatOfInt .f64 a1)) (.float .f64 (floatOfInt .f64 b1))).run Try.prog w = .ok (.float .f64 r) w := fun w => run_float_arith w _ _ _ _ _ _ hr
  have Hb0 := Lib.hid (fun o q => ((Below.refl w.heap.size w).alloc (Nat.le_refl _) o).alloc (by simp) q)
  clear hr ha ha' hb hb'
  by_cases g1 : b1 + 6 < a1
  · have e : youngI a1 b1 = cmpI b1 a1 := by simp [youngI, g1]
    rw [e]
    rw [decide_eq_true g1] at h1
    clear e g1
    go_enter Try.func87, Try.ntmps87
    go_wp2_with (go_at_call 74; (with_reducible refine Calls.mono (cmp_any _ _ _) ?_); rintro r w2 ⟨rfl, hb2⟩; have Hb2 := Lib.hid ((Hb0.out _ _).trans (hb2.mono (Hb0.out _ _).size)); clear hb2)
    go_ret
    exact ⟨rfl, Hb2.out⟩
  · by_cases g2 : a1 + 6 < b1
    · have e : youngI a1 b1 = cmpI b1 a1 := by simp [youngI, g2]
      rw [e]
      rw [decide_eq_false g1] at h1
      rw [decide_eq_true g2] at h2
      clear e g1 g2
      go_enter Try.func87, Try.ntmps87
      go_wp2_with (go_at_call 74; (with_reducible refine Calls.mono (cmp_any _ _ _) ?_); rintro r w2 ⟨rfl, hb2⟩; have Hb2 := Lib.hid ((Hb0.out _ _).trans (hb2.mono (Hb0.out _ _).size)); clear hb2)
      go_ret
      exact ⟨rfl, Hb2.out⟩
    · have e : youngI a1 b1 = 0 := by simp [youngI, g1, g2]
      rw [e]
      rw [decide_eq_false g1] at h1
      rw [decide_eq_false g2] at h2
      clear e g1 g2
      go_enter Try.func87, Try.ntmps87
      go_wp2_with fail
      go_ret
      exact ⟨rfl, Hb0.out _ _⟩

end Go.Proofs.Ytpnbibokddhheaa

/-
  order.Newer.
-/
namespace Go.Proofs.Ytpnbibokddhheaa
open Go.RowKit Go.Sort

def newerI (a b : Hd) : Int := orL [cmpI a.seq b.seq, cmpI a.sum b.sum, cmpI (goneI a.age) (goneI b.age), youngI a.age b.age]
def Hd.val (h : Hd) : Value := .agg #[.int .i64 h.age, .int .i64 h.kind, .int .i64 h.id, .int .i64 h.adv, .int .i64 h.seq, .int .i64 h.sum, .int .i64 h.long]

theorem lit4 (w : World) (x0 x1 x2 x3 : Int) (t : TypeId) : ∀ k, (hk : k < [x0, x1, x2, x3].length) → (w.alloc (.cells #[.int .i64 x0, .int .i64 x1, .int .i64 x2, .int .i64 x3] t)).cell? ⟨w.heap.size, k, none⟩ = some (.int .i64 [x0, x1, x2, x3][k]) := by
  intro k hk
  rw [(Blk.new w t _).cell k]
  match k, hk with
  | 0, _ => rfl
  | 1, _ => rfl
  | 2, _ => rfl
  | 3, _ => rfl

set_option maxHeartbeats 4000000 in
set_option maxRecDepth 100000 in
theorem newer_any (a1 a2 a3 a4 a5 a6 a7 b1 b2 b3 b4 b5 b6 b7 : Int) (w : World) (ha : 0 ≤ a1) (ha' : a1 ≤ 60) (hb : 0 ≤ b1) (hb' : b1 ≤ 60) {x : Int} (hx : newerI ⟨a1, a2, a3, a4, a5, a6, a7⟩ ⟨b1, b2, b3, b4, b5, b6, b7⟩ = x) :
    Calls Try.prog 56 #[.agg #[.int .i64 a1, .int .i64 a2, .int .i64 a3, .int .i64 a4, .int .i64 a5, .int .i64 a6, .int .i64 a7], .agg #[.int .i64 b1, .int .i64 b2, .int .i64 b3, .int .i64 b4, .int .i64 b5, .int .i64 b6, .int .i64 b7]] w
      fun r w' => r = .returned (.int .i64 x) ∧ Below w.heap.size w w' := by
  obtain ⟨w0, hW0⟩ : ∃ w0, (w.alloc (.cells #[.int .i64 a1, .int .i64 a2, .int .i64 a3, .int .i64 a4, .int .i64 a5, .int .i64 a6, .int .i64 a7] 34)).alloc (.cells #[.int .i64 b1, .int .i64 b2, .int .i64 b3, .int .i64 b4, .int .i64 b5, .int .i64 b6, .int .i64 b7] 34) = w0 := ⟨_, rfl⟩
  have hA : Blk w0 w.heap.size 34 #[.int .i64 a1, .int .i64 a2, .int .i64 a3, .int .i64 a4, .int .i64 a5, .int .i64 a6, .int .i64 a7] := by rw [← hW0]; exact (Blk.new w _ _).alloc _
  have hB : Blk w0 (w.heap.size + 1) 34 #[.int .i64 b1, .int .i64 b2, .int .i64 b3, .int .i64 b4, .int .i64 b5, .int .i64 b6, .int .i64 b7] := by rw [← hW0]; exact Blk.size (by simp)
  have Hb0 : Hid (Below w.heap.size w w0) := Lib.hid (by rw [← hW0]; exact ((Below.refl w.heap.size w).alloc (Nat.le_refl _) _).alloc (by simp) _)
  have hOr : ∀ W : World, Calls Try.prog 73 #[.slice (some ⟨W.heap.size, 0, none⟩) 4 4] (W.alloc (.cells #[.int .i64 (cmpI a5 b5), .int .i64 (cmpI a6 b6), .int .i64 (cmpI (goneI a1) (goneI b1)), .int .i64 (youngI a1 b1)] 3)) fun r w' => r = .returned (.int .i64 x) ∧ Below (W.alloc (.cells #[.int .i64 (cmpI a5 b5), .int .i64 (cmpI a6 b6), .int .i64 (cmpI (goneI a1) (goneI b1)), .int .i64 (youngI a1 b1)] 3)).heap.size (W.alloc (.cells #[.int .i64 (cmpI a5 b5), .int .i64 (cmpI a6 b6), .int .i64 (cmpI (goneI a1) (goneI b1)), .int .i64 (youngI a1 b1)] 3)) w' :=
    fun W => or_any [cmpI a5 b5, cmpI a6 b6, cmpI (goneI a1) (goneI b1), youngI a1 b1] (by simp) W.heap.size 4 _ (lit4 _ _ _ _ _ _) (by simp) 4 (by simp) hx
  have HOr := Lib.hid hOr
  clear hOr
  obtain ⟨a_0, a_1, a_2, a_3, a_4, a_5, a_6⟩ : _ ∧ _ ∧ _ ∧ _ ∧ _ ∧ _ ∧ _ := ⟨cell_regrown (hA.cell 0), cell_regrown (hA.cell 1), cell_regrown (hA.cell 2), cell_regrown (hA.cell 3), cell_regrown (hA.cell 4), cell_regrown (hA.cell 5), cell_regrown (hA.cell 6)⟩
  obtain ⟨b_0, b_1, b_2, b_3, b_4, b_5, b_6⟩ : _ ∧ _ ∧ _ ∧ _ ∧ _ ∧ _ ∧ _ := ⟨cell_regrown (hB.cell 0), cell_regrown (hB.cell 1), cell_regrown (hB.cell 2), cell_regrown (hB.cell 3), cell_regrown (hB.cell 4), cell_regrown (hB.cell 5), cell_regrown (hB.cell 6)⟩
  have cC : ∀ p q dd os, Calls Try.prog 74 #[.int .i64 p, .int .i64 q] (grow (redrawn w0 dd) os) fun r w'' => r = .returned (.int .i64 (cmpI p q)) ∧ ∃ p : Regrown, w'' = grow (redrawn w0 p.d) p.os := fun p q dd os => Calls.regrown_of (cmp_any p q _)
  have cG : ∀ a b c d e f g dd os, Calls Try.prog 86 #[.agg #[.int .i64 a, .int .i64 b, .int .i64 c, .int .i64 d, .int .i64 e, .int .i64 f, .int .i64 g]] (grow (redrawn w0 dd) os) fun r w'' => r = .returned (.int .i64 (goneI a)) ∧ ∃ p : Regrown, w'' = grow (redrawn w0 p.d) p.os := fun a b c d e f g dd os => Calls.regrown_of (gone_any a b c d e f g _)
  have cY : ∀ dd os, Calls Try.prog 87 #[.agg #[.int .i64 a1, .int .i64 a2, .int .i64 a3, .int .i64 a4, .int .i64 a5, .int .i64 a6, .int .i64 a7], .agg #[.int .i64 b1, .int .i64 b2, .int .i64 b3, .int .i64 b4, .int .i64 b5, .int .i64 b6, .int .i64 b7]] (grow (redrawn w0 dd) os) fun r w'' => r = .returned (.int .i64 (youngI a1 b1)) ∧ ∃ p : Regrown, w'' = grow (redrawn w0 p.d) p.os := fun dd os => Calls.regrown_of (young_any _ _ _ _ _ _ _ _ _ _ _ _ _ _ _ ha ha' hb hb')
  have CC := Lib.hid cC
  have CG := Lib.hid cG
  have CY := Lib.hid cY
  clear cC cG cY hA hB hx ha ha' hb hb'
  go_enter Try.func56, Try.ntmps56
  go_wp2_with fail
  refine wp_below_tail 18 (by kernel_rfl) (by kernel_rfl) ?_
  simp only [List.take_succ_cons, List.take_zero, List.drop_succ_cons, List.drop_zero]
  repeat (go_big_quiet_step (first | exact CC.out _ _ _ _ | exact CG.out _ _ _ _ _ _ _ _ _ | exact CY.out _ _))
  refine wpQuiet_nil ?_
  rintro w3 ⟨⟨dq, osq⟩, rfl⟩
  have hb3 := below_regrown w0 dq osq
  have Hb3 := Lib.hid (Hb0.out.trans (hb3.mono Hb0.out.size))
  generalize grow (redrawn w0 dq) osq = w3 at *
  clear hb3
  go_wp2_with (go_at_call 73; (with_reducible refine Calls.mono (HOr.out _) ?_); rintro r w4 ⟨rfl, hb4⟩; have Hb4 := Lib.hid ((Hb3.out.alloc Hb3.out.size _).trans (hb4.mono (Hb3.out.alloc Hb3.out.size _).size)); clear hb4)
  go_ret
  exact ⟨rfl, Hb4.out⟩

end Go.Proofs.Ytpnbibokddhheaa

/-
  Layer 13: what is lacked, in plain words.
-/
namespace Go.Proofs.Ytpnbibokddhheaa
open Go.RowKit Go.Sort

def placeH (k : K3) : List Hd → Int
  | [] => -1
  | x :: L => if keyH x = k then 0 else if placeH k L < 0 then -1 else placeH k L + 1
theorem placeH_ge (k : K3) : ∀ L : List Hd, -1 ≤ placeH k L ∧ placeH k L < L.length
  | [] => ⟨by simp [placeH], by simp [placeH]⟩
  | x :: L => by
    have := placeH_ge k L
    unfold placeH
    simp only [List.length_cons]
    split
    · omega
    · split <;> omega
theorem placeH_at {k : K3} : ∀ {L : List Hd} {j : Nat} (hj : j < L.length), keyH L[j] = k → (∀ i, (hi : i < j) → (hl : i < L.length) → keyH L[i] ≠ k) → placeH k L = j
  | x :: L, 0, _, he, _ => by simp at he; simp [placeH, he]
  | x :: L, j + 1, hj, he, h0 => by
    have h1 := h0 0 (by omega) (by simp)
    simp only [List.getElem_cons_zero] at h1
    have h2 := placeH_at (L := L) (j := j) (by simpa using hj) (by simpa using he) (fun i hi hl => by
      have := h0 (i + 1) (by omega) (by simp; omega)
      simpa using this)
    unfold placeH
    rw [if_neg h1, if_neg (by omega), h2]
    omega
theorem placeH_none {k : K3} : ∀ {L : List Hd}, (∀ i, (hi : i < L.length) → keyH L[i] ≠ k) → placeH k L = -1
  | [], _ => rfl
  | x :: L, h0 => by
    have h1 := h0 0 (by simp)
    simp only [List.getElem_cons_zero] at h1
    have h2 := placeH_none (L := L) (fun i hi => by
      have := h0 (i + 1) (by simp; omega)
      simpa using this)
    unfold placeH
    rw [if_neg h1, if_pos (by omega)]
theorem placeH_get {k : K3} : ∀ {L : List Hd}, (placeH k L < 0 ∧ getH k L = none) ∨ (∃ (j : Nat) (hj : j < L.length), placeH k L = j ∧ getH k L = some L[j] ∧ keyH L[j] = k ∧ ∀ h, keyH h = k → setH h L = L.set j h)
  | [] => .inl ⟨by simp [placeH], rfl⟩
  | x :: L => by
    by_cases hx : keyH x = k
    · right
      refine ⟨0, by simp, ?_, ?_, hx, fun h hh => ?_⟩
      · simp [placeH, hx]
      · simp [getH, hx]
      · simp [setH, hx, hh]
    · rcases placeH_get (k := k) (L := L) with ⟨h1, h2⟩ | ⟨j, hj, h1, h2, h3, h4⟩
      · left
        refine ⟨?_, ?_⟩
        · unfold placeH; rw [if_neg hx, if_pos h1]; omega
        · simp [getH, hx, h2]
      · right
        refine ⟨j + 1, by simp; omega, ?_, ?_, by simpa using h3, fun h hh => ?_⟩
        · unfold placeH; rw [if_neg hx, if_neg (by omega), h1]; omega
        · simp [getH, hx, h2]
        · have hne : keyH x ≠ keyH h := by rw [hh]; exact hx
          simp [setH, hne, h4 h hh]


theorem getL_put {κ : Type} [DecidableEq κ] (k k' : κ) (v : Value) : ∀ S : List (κ × Value), getL k (setL k' v S) = if k = k' then some v else getL k S
  | [] => by
    unfold setL getL
    by_cases h : k' = k
    · rw [if_pos h, if_pos h.symm]
    · rw [if_neg h, if_neg (fun e => h e.symm)]
      rfl
  | e :: S => by
    unfold setL
    by_cases he : e.1 = k'
    · rw [if_pos he]
      unfold getL
      by_cases h : k' = k
      · rw [if_pos h, if_pos h.symm]
      · rw [if_neg h, if_neg (fun e => h e.symm), if_neg (fun e2 => h (he.symm.trans e2))]
    · rw [if_neg he]
      unfold getL
      by_cases h2 : e.1 = k
      · rw [if_pos h2, if_pos h2, if_neg (fun e3 => he (h2.trans e3))]
      · rw [if_neg h2, if_neg h2]
        exact getL_put k k' v S
theorem place_snoc (k : K3) (h : Hd) : ∀ L : List Hd, placeH k (L ++ [h]) = if placeH k L < 0 then (if keyH h = k then (L.length : Int) else -1) else placeH k L
  | [] => by simp [placeH]
  | x :: L => by
    have h1 := placeH_ge k L
    rw [List.cons_append]
    unfold placeH
    rw [place_snoc k h L]
    by_cases hx : keyH x = k
    · simp [hx]
    · simp only [if_neg hx]
      by_cases hp : placeH k L < 0
      · simp only [if_pos hp]
        by_cases hk : keyH h = k
        · simp [hk]; omega
        · simp [hk]
      · simp only [if_neg hp]
        rw [if_neg (by omega)]
theorem place_set (k : K3) (h : Hd) : ∀ (L : List Hd) (j : Nat) (hj : j < L.length), keyH L[j] = keyH h → placeH k (L.set j h) = placeH k L
  | x :: L, 0, _, he => by
    simp only [List.set_cons_zero, List.getElem_cons_zero] at *
    unfold placeH
    rw [he]
  | x :: L, j + 1, hj, he => by
    simp only [List.set_cons_succ, List.getElem_cons_succ] at *
    unfold placeH
    rw [place_set k h L j (by simpa using hj) he]
/-- the program's map of places -/
def AtIs (S : List (K3 × Value)) (out : List Hd) : Prop := ∀ k, getL k S = if placeH k out < 0 then none else some (.int .i64 (placeH k out))
theorem AtIs.nil : AtIs [] [] := fun k => by simp [getL, placeH]
theorem AtIs.snoc {S : List (K3 × Value)} {out : List Hd} (h : AtIs S out) (x : Hd) (hp : placeH (keyH x) out < 0) : AtIs (setL (keyH x) (.int .i64 out.length) S) (out ++ [x]) := fun k => by
  rw [getL_put, place_snoc]
  by_cases hk : k = keyH x
  · subst hk
    rw [if_pos rfl, if_pos hp, if_pos rfl, if_neg (by omega)]
  · rw [if_neg hk, h k]
    have hk' : ¬ keyH x = k := fun e => hk e.symm
    by_cases h2 : placeH k out < 0
    · simp [h2, hk']
    · simp [h2]
theorem AtIs.set {S : List (K3 × Value)} {out : List Hd} (h : AtIs S out) (x : Hd) (j : Nat) (hj : j < out.length) (he : keyH out[j] = keyH x) : AtIs S (out.set j x) := fun k => by
  rw [place_set k x out j hj he]
  exact h k
/-- it has it, or a newer one -/
def hasIt (M : List Lsa) (h : Hd) : Bool := match getX (keyH h) M with | some x => decide (newerI h x.head ≤ 0) | none => false
def putIt (out : List Hd) (h : Hd) : List Hd := match getH (keyH h) out with | some y => if 0 < newerI h y then setH h out else out | none => out ++ [h]
def lackStep (M : List Lsa) (out : List Hd) (h : Hd) : List Hd := if hasIt M h = true then out else putIt out h
def lackAll (M : List Lsa) (hs : List Hd) : List Hd := hs.foldl (lackStep M) []
theorem lack_more (M : List Lsa) {hs : List Hd} {k : Nat} (hk : k < hs.length) : lackAll M (hs.take (k + 1)) = lackStep M (lackAll M (hs.take k)) hs[k] := by
  unfold lackAll
  rw [List.take_succ_eq_append_getElem hk, List.foldl_append]
  rfl
def agesH (L : List Hd) : Prop := ∀ x ∈ L, 0 ≤ x.age ∧ x.age ≤ 60
theorem step_ages {M : List Lsa} {out : List Hd} {h : Hd} (ho : agesH out) (hh : 0 ≤ h.age ∧ h.age ≤ 60) : agesH (lackStep M out h) := by
  unfold lackStep
  split
  · exact ho
  · unfold putIt
    rcases placeH_get (k := keyH h) (L := out) with ⟨-, h2⟩ | ⟨j, hj, -, h2, h3, h4⟩
    · rw [h2]
      intro x hx
      rcases List.mem_append.1 hx with hx | hx
      · exact ho x hx
      · rw [List.mem_singleton] at hx; rw [hx]; exact hh
    · rw [h2]
      simp only
      split
      · rw [h4 h rfl]
        intro x hx
        rcases List.mem_or_eq_of_mem_set hx with hx | rfl
        · exact ho x hx
        · exact hh
      · exact ho
theorem step_len {M : List Lsa} {out : List Hd} {h : Hd} : (lackStep M out h).length ≤ out.length + 1 := by
  unfold lackStep
  split
  · omega
  · unfold putIt
    rcases placeH_get (k := keyH h) (L := out) with ⟨-, h2⟩ | ⟨j, hj, -, h2, h3, h4⟩
    · rw [h2]; simp
    · rw [h2]
      simp only
      split
      · rw [h4 h rfl]; simp
      · omega
theorem lack_fold (M : List Lsa) : ∀ (hs out : List Hd), agesH hs → agesH out → agesH (hs.foldl (lackStep M) out) ∧ (hs.foldl (lackStep M) out).length ≤ out.length + hs.length
  | [], out, _, ho => ⟨ho, by simp⟩
  | h :: hs, out, hh, ho => by
    have := lack_fold M hs (lackStep M out h) (fun x hx => hh x (by simp [hx])) (step_ages ho (hh h (by simp)))
    have h2 := step_len (M := M) (out := out) (h := h)
    rw [List.foldl_cons, List.length_cons]
    exact ⟨this.1, by omega⟩
theorem lack_ages {M : List Lsa} {hs : List Hd} (h : agesH hs) : agesH (lackAll M hs) := (lack_fold M hs [] h (fun _ hx => by cases hx)).1
theorem lack_len {M : List Lsa} {hs : List Hd} (h : agesH hs) : (lackAll M hs).length ≤ hs.length := by
  have := (lack_fold M hs [] h (fun _ hx => by cases hx)).2
  simpa [lackAll] using this
/-- what is lacked is the same for a database and for the document's -/
theorem hasIt_same {M L : List Lsa} (h : DEq M L) (x : Hd) : hasIt L x = hasIt M x := by
  unfold hasIt
  rcases h.find (keyH x) with ⟨h1, h2, -⟩ | ⟨a, j, hj, h1, h2, h3, h4, -⟩
  · have hg : getX (keyH x) L = none := by
      rcases findX_get (k := keyH x) (L := L) with ⟨-, h5, -⟩ | ⟨j, hj, h5, -⟩
      · exact h5
      · omega
    rw [hg, h1]
  · have hg : getX (keyH x) L = some L[j] := by
      rcases findX_get (k := keyH x) (L := L) with ⟨h5, -, -⟩ | ⟨i, hi, h5, h6, -⟩
      · omega
      · have : i = j := by omega
        subst this
        exact h6
    rw [hg, h1]
    simp only
    rw [show L[j].head = a.head from congrArg (fun v : VX => v.1) h4]
theorem lack_same {M L : List Lsa} (h : DEq M L) (hs : List Hd) : lackAll L hs = lackAll M hs := by
  have hf : lackStep L = lackStep M := by
    funext out x
    unfold lackStep
    rw [hasIt_same h]
  unfold lackAll
  rw [hf]

end Go.Proofs.Ytpnbibokddhheaa
