/-
  Layer 7: a database in memory; a new one, its number.
-/
import Derived.RegionTactic
import Derived.Test.YtmjjmkdjjfmhhaaLsSeal
import Derived.Test.YtmjjmkdjjfmhhaaKyPlain
import Derived.Test.YtmjjmkdjjfmhhaaKyThree
import Derived.Test.YtmjjmkdjjfmhhaaGrown
namespace Go.Proofs.Ytmjjmkdjjfmhhaa
open Go.RowKit

def dbL (M : List Lsa) : List (K3 × Value) := M.map fun x => (keyH x.head, x.val)
def getX (k : K3) : List Lsa → Option Lsa
  | [] => none
  | x :: M => if keyH x.head = k then some x else getX k M
def setX (y : Lsa) : List Lsa → List Lsa
  | [] => [y]
  | x :: M => if keyH x.head = keyH y.head then y :: M else x :: setX y M
theorem getL_db (k : K3) : ∀ M : List Lsa, getL k (dbL M) = (getX k M).map Lsa.val
  | [] => rfl
  | x :: M => by
    have ih := getL_db k M
    unfold dbL at ih ⊢
    by_cases hx : keyH x.head = k
    · simp [getL, getX, hx]
    · simp [getL, getX, hx, ih]
theorem setL_db (y : Lsa) : ∀ M : List Lsa, setL (keyH y.head) y.val (dbL M) = dbL (setX y M)
  | [] => rfl
  | x :: M => by
    have ih := setL_db y M
    unfold dbL at ih ⊢
    by_cases hx : keyH x.head = keyH y.head
    · simp [setL, setX, hx]
    · simp [setL, setX, hx, ih]
theorem getX_mem {k : K3} : ∀ {M : List Lsa} {x : Lsa}, getX k M = some x → x ∈ M ∧ keyH x.head = k
  | y :: M, x, h => by
    unfold getX at h
    by_cases hy : keyH y.head = k
    · rw [if_pos hy] at h
      injection h with h
      subst h
      exact ⟨by simp, hy⟩
    · rw [if_neg hy] at h
      have := getX_mem h
      exact ⟨by simp [this.1], this.2⟩
theorem setX_mem {y x : Lsa} : ∀ {M : List Lsa}, x ∈ setX y M → x ∈ M ∨ x = y
  | [], h => by simp [setX] at h; exact .inr h
  | z :: M, h => by
    unfold setX at h
    split at h
    · rcases List.mem_cons.1 h with e | h
      · exact .inr e
      · exact .inl (by simp [h])
    · rcases List.mem_cons.1 h with e | h
      · exact .inl (by simp [e])
      · rcases setX_mem h with h1 | h1
        · exact .inl (by simp [h1])
        · exact .inr h1
structure DbAt (w : World) (p b : Nat) (room : Int) (M : List Lsa) : Prop where
  ptr : Blk w p 112 #[.int .i64 room, .map (some b)]
  map : MapAt K3.enc w b (dbL M)
  rows : ∀ x ∈ M, RowsAt 4 Lnk.cells w w.heap.size x.ka x.links ∧ RowsAt 1 icell w w.heap.size x.ma x.members
  lens : ∀ x ∈ M, x.links.length ≤ 1000 ∧ x.members.length ≤ 1000
theorem rows_map {α κ : Type} {C : Nat} {cells : α → List Value} {w w' : World} {A : Option Addr} {R : List α} {b : Nat} {enc : κ → Value} {L : List (κ × Value)} (hC : ∀ x, (cells x).length = C) (hC0 : 0 < C) (h : RowsAt C cells w w.heap.size A R) (hm : MapAt enc w b L) (hg : w.grownBy w' (some b)) : RowsAt C cells w' w'.heap.size A R := by
  intro h0
  obtain ⟨b', o, e, hb, hc⟩ := h h0
  have hlt : 0 < (cells R[0]).length := by rw [hC]; exact hC0
  have h1 := hc 0 h0 0 _ hC0 (List.getElem?_eq_getElem hlt)
  have hne : b' ≠ b := by
    rintro rfl
    obtain ⟨es, clock, hb', -⟩ := hm
    simp [World.cell?, hb'] at h1
  refine ⟨b', o, e, Nat.lt_of_lt_of_le hb hg.size, fun k hk i u hi hu => ?_⟩
  exact (World.cell?_of_block (w := w) (a := ⟨b', o + k * C + i, none⟩) (hg.block b' hb (fun e => hne (Option.some.inj e)))).trans (hc k hk i u hi hu)
section
variable {w w' : World} {p b : Nat} {room : Int} {M M' : List Lsa}
theorem DbAt.keep (h : DbAt w p b room M) (hb : Below w.heap.size w w') : DbAt w' p b room M :=
  ⟨h.ptr.below hb h.ptr.lt, h.map.below hb h.map.lt, fun x hx => ⟨rows_keep (h.rows x hx).1 hb, rows_keep (h.rows x hx).2 hb⟩, h.lens⟩
theorem DbAt.ne (h : DbAt w p b room M) : p ≠ b := by
  intro e
  obtain ⟨es, clock, hb, -⟩ := h.map
  have hp := h.ptr
  unfold Blk at hp
  rw [e, hb] at hp
  cases hp
theorem DbAt.turned (h : DbAt w p b room M) (hg : w.grownBy w' (some b)) (hm : MapAt K3.enc w' b (dbL M'))
    (hr : ∀ x ∈ M', x ∈ M ∨ (RowsAt 4 Lnk.cells w' w'.heap.size x.ka x.links ∧ RowsAt 1 icell w' w'.heap.size x.ma x.members) ∧ x.links.length ≤ 1000 ∧ x.members.length ≤ 1000) : DbAt w' p b room M' :=
  ⟨h.ptr.grown hg (fun e => h.ne (by injection e)), hm, fun x hx => (hr x hx).elim (fun hx => ⟨rows_map (fun _ => rfl) (by decide) (h.rows x hx).1 h.map hg, rows_map (fun _ => rfl) (by decide) (h.rows x hx).2 h.map hg⟩) (·.1), fun x hx => (hr x hx).elim (h.lens x) (·.2)⟩
end
set_option maxHeartbeats 1000000 in
theorem DbNew (room : Int) (w : World) : Calls Try.prog 16 #[.int .i64 room] w fun r w' => r = .returned (.pointer (some ⟨w.heap.size + 1, 0, none⟩)) ∧ DbAt w' (w.heap.size + 1) w.heap.size (min (max room 1) 40) [] ∧ Below w.heap.size w w' := by
  have hmm := @run_makeMap Try.prog
  go_enter Try.func16, Try.ntmps16
  go_wp2
  all_goals
    go_ret
    first
      | exact ⟨rfl, ⟨Blk.size (by simp), (MapAt.new w).alloc _, by simp, by simp⟩, ((Below.refl _ _).alloc (Nat.le_refl _) _).alloc (by simp) _⟩
      | (rw [show min (max room 1) 40 = 1 by omega]; exact ⟨rfl, ⟨Blk.size (by simp), (MapAt.new w).alloc _, by simp, by simp⟩, ((Below.refl _ _).alloc (Nat.le_refl _) _).alloc (by simp) _⟩)
      | (rw [show min (max room 1) 40 = room by omega]; exact ⟨rfl, ⟨Blk.size (by simp), (MapAt.new w).alloc _, by simp, by simp⟩, ((Below.refl _ _).alloc (Nat.le_refl _) _).alloc (by simp) _⟩)
      | (rw [show min (max room 1) 40 = 40 by omega]; exact ⟨rfl, ⟨Blk.size (by simp), (MapAt.new w).alloc _, by simp, by simp⟩, ((Below.refl _ _).alloc (Nat.le_refl _) _).alloc (by simp) _⟩)
set_option maxHeartbeats 1000000 in
theorem DbLen (p b : Nat) (room : Int) (M : List Lsa) (w : World) (h : DbAt w p b room M) : Calls Try.prog 18 #[.pointer (some ⟨p, 0, none⟩)] w fun r w' => r = .returned (.int .i64 M.length) ∧ w' = w := by
  have hcell := h.ptr.cell 1
  simp only [List.getElem?_toArray, List.getElem?_cons_zero, List.getElem?_cons_succ] at hcell
  have hL : (dbL M).length = M.length := by simp [dbL]
  have hl := fun t => h.map.len_run (P := Try.prog) Try.underlying110 t
  rw [hL] at hl
  clear h hL
  go_enter Try.func18, Try.ntmps18
  go_wp2
  go_ret
  exact ⟨rfl, rfl⟩

end Go.Proofs.Ytmjjmkdjjfmhhaa

/-
  Layer 7: the description of a key.
-/
namespace Go.Proofs.Ytmjjmkdjjfmhhaa
open Go.RowKit

def zeroX : Lsa := ⟨⟨0, 0, 0, 0, 0, 0, 0⟩, none, 0, [], none, 0, []⟩
theorem zeroXv (w : World) : (zeroValue 27).run Try.prog w = .ok zeroX.val w := by kernel_rfl
theorem getL_valX (k : K3) (M : List Lsa) : (getL k (dbL M)).getD zeroX.val = ((getX k M).getD zeroX).val ∧ (getL k (dbL M)).isSome = (getX k M).isSome := by
  rw [getL_db]
  cases getX k M <;> exact ⟨rfl, rfl⟩
theorem blk9f {_w : World} {g : Nat} {t : TypeId} {a b c d e f x y z : Value} {F : Obj → World} (h : ∀ o, Blk (F o) g t #[a, b, c, d, e, f, x, y, z]) : (∀ o, (F o).cell? ⟨g, 0, none⟩ = some a) ∧ (∀ o, (F o).cell? ⟨g, 1, none⟩ = some b) ∧ (∀ o, (F o).cell? ⟨g, 2, none⟩ = some c) ∧ (∀ o, (F o).cell? ⟨g, 3, none⟩ = some d) ∧ (∀ o, (F o).cell? ⟨g, 4, none⟩ = some e) ∧ (∀ o, (F o).cell? ⟨g, 5, none⟩ = some f) ∧ (∀ o, (F o).cell? ⟨g, 6, none⟩ = some x) ∧ (∀ o, (F o).cell? ⟨g, 7, none⟩ = some y) ∧ (∀ o, (F o).cell? ⟨g, 8, none⟩ = some z) ∧ ∀ o i, (F o).frozen? ⟨g, i, none⟩ = false :=
  ⟨fun o => (h o).cell 0, fun o => (h o).cell 1, fun o => (h o).cell 2, fun o => (h o).cell 3, fun o => (h o).cell 4, fun o => (h o).cell 5, fun o => (h o).cell 6, fun o => (h o).cell 7, fun o => (h o).cell 8, fun o i => (h o).frozen i⟩
set_option maxHeartbeats 4000000 in
set_option maxRecDepth 100000 in
theorem DbGet (p b : Nat) (room : Int) (M : List Lsa) (k1 k2 k3 : Int) (w : World) (h : DbAt w p b room M) {h1 h2 h3 h4 h5 h6 h7 : Int} {ka : Option Addr} {kc : Nat} {ls : List Lnk} {ma : Option Addr} {mc : Nat} {ms : List Int} {is : Bool}
    (hy : (getX ⟨k1, k2, k3⟩ M).getD zeroX = ⟨⟨h1, h2, h3, h4, h5, h6, h7⟩, ka, kc, ls, ma, mc, ms⟩) (his : (getX ⟨k1, k2, k3⟩ M).isSome = is) (nl nm : Nat) (hnl : nl = ls.length) (hnm : nm = ms.length) :
    Calls Try.prog 21 #[.pointer (some ⟨p, 0, none⟩), .agg #[.int .i64 k1, .int .i64 k2, .int .i64 k3]] w fun r w' => ∃ Aa ca Ab cb, r = .returned (.tuple #[.agg #[.int .i64 h1, .int .i64 h2, .int .i64 h3, .int .i64 h4, .int .i64 h5, .int .i64 h6, .int .i64 h7, .slice Aa nl ca, .slice Ab nm cb], .bool is]) ∧ OwnR 108 4 Lnk.cells w' w.heap.size (.slice Aa nl ca) ls ∧ OwnR 3 1 icell w' w.heap.size (.slice Ab nm cb) ms ∧ Below w.heap.size w w' := by
  have hrw : RowsAt 4 Lnk.cells w w.heap.size ka ls ∧ RowsAt 1 icell w w.heap.size ma ms ∧ ls.length ≤ 1000 ∧ ms.length ≤ 1000 := by
    cases hx : getX ⟨k1, k2, k3⟩ M with
    | none =>
      rw [hx] at hy
      simp [zeroX] at hy
      obtain ⟨-, rfl, rfl, rfl, rfl, rfl, rfl⟩ := hy
      exact ⟨RowsAt.nil, RowsAt.nil, by simp, by simp⟩
    | some x =>
      rw [hx] at hy
      simp only [Option.getD_some] at hy
      have hm := (getX_mem hx).1
      rw [hy] at hm
      exact ⟨(h.rows _ hm).1, (h.rows _ hm).2, (h.lens _ hm).1, (h.lens _ hm).2⟩
  obtain ⟨w0, hW0⟩ : ∃ w0, (w.alloc (.cells #[.int .i64 k1, .int .i64 k2, .int .i64 k3] 39)).alloc (.cells #[.int .i64 0, .int .i64 0, .int .i64 0, .int .i64 0, .int .i64 0, .int .i64 0, .int .i64 0, .slice none 0 0, .slice none 0 0] 27) = w0 := ⟨_, rfl⟩
  have hk : Blk w0 w.heap.size 39 #[.int .i64 k1, .int .i64 k2, .int .i64 k3] := by rw [← hW0]; exact (Blk.new w _ _).alloc _
  have ho : Blk w0 (w.heap.size + 1) 27 #[.int .i64 0, .int .i64 0, .int .i64 0, .int .i64 0, .int .i64 0, .int .i64 0, .int .i64 0, .slice none 0 0, .slice none 0 0] := by rw [← hW0]; exact Blk.size (by simp)
  have hb0 : Below w.heap.size w w0 := by rw [← hW0]; exact ((Below.refl w.heap.size w).alloc (Nat.le_refl _) _).alloc (by simp) _
  have hw := h.keep hb0
  have Hb0 := Lib.hid hb0
  obtain ⟨z0, z1, z2⟩ : _ ∧ _ ∧ _ := ⟨hk.cell 0, hk.cell 1, hk.cell 2⟩
  have z3 := hw.ptr.cell 1
  simp only [List.getElem?_toArray, List.getElem?_cons_zero, List.getElem?_cons_succ] at z0 z1 z2 z3
  have hl := hw.map.drew.look_run keyK3 Try.underlying110 (zeroXv _) ⟨k1, k2, k3⟩ true
  simp only [if_true, K3.enc] at hl
  obtain ⟨e1, e2⟩ := getL_valX ⟨k1, k2, k3⟩ M
  rw [hy] at e1
  rw [his] at e2
  rw [e1, e2] at hl
  have hl2 := fun o => (hw.map.alloc o).drew.look_run keyK3 Try.underlying110 (zeroXv _) ⟨k1, k2, k3⟩ true
  simp only [if_true, K3.enc] at hl2
  rw [e1, e2] at hl2
  have c0 := fun o => (hk.alloc o).cell 0
  have c1 := fun o => (hk.alloc o).cell 1
  have c2 := fun o => (hk.alloc o).cell 2
  have c3 := fun o => (hw.ptr.alloc o).cell 1
  simp only [List.getElem?_toArray, List.getElem?_cons_zero, List.getElem?_cons_succ] at c0 c1 c2 c3
  unfold Lsa.val Lsa.cells at hl hl2
  simp only at hl hl2
  rw [← hnl, ← hnm] at hl hl2
  have Hrw := Lib.hid hrw
  have Hnl := Lib.hid hnl
  have Hnm := Lib.hid hnm
  have Ho := Lib.hid ho
  clear hk hw h e1 e2 ho hy his hrw hnl hnm hb0
  go_enter Try.func21, Try.ntmps21
  go_upto_region 3 with fail
  go_region
  go_upto_region 4 with fail
  obtain ⟨w4, hw4⟩ : ∃ w4, (w0.alloc (.cells #[.int .i64 h1, .int .i64 h2, .int .i64 h3, .int .i64 h4, .int .i64 h5, .int .i64 h6, .int .i64 h7, .slice ka nl kc, .slice ma nm mc] 27)).drew = w4 := ⟨_, rfl⟩
  have hk4 : Blk w4 w0.heap.size 27 #[.int .i64 h1, .int .i64 h2, .int .i64 h3, .int .i64 h4, .int .i64 h5, .int .i64 h6, .int .i64 h7, .slice ka nl kc, .slice ma nm mc] := by rw [← hw4]; exact Blk.new w0 _ _
  have hb4 : Below w0.heap.size w0 w4 := by rw [← hw4]; exact (below_new w0 _).drew
  have hb4w := below_trans Hb0.out Hb0.out.size hb4
  have HOW := Lib.hid (own_any h1 h2 h3 h4 h5 h6 h7 ka kc ls ma mc ms w4 w.heap.size (Hrw.out.1.below hb4w) (Hrw.out.2.1.below hb4w) hb4w.size (by have := Hrw.out.2.2.1; omega) (by have := Hrw.out.2.2.2; omega) nl nm Hnl.out Hnm.out)
  have hs0 : w0.heap.size = w.heap.size + 2 := by rw [← hW0]; simp
  have Hb4w := Lib.hid hb4w
  have Ho4 := Lib.hid (Ho.out.below hb4 (by omega))
  obtain ⟨p0, p1, p2, p3, p4, p5, p6, p7, p8, pf⟩ := blk9 hk4
  rw [hw4]
  have hq4 : w.heap.size + 1 < w4.heap.size := Ho4.out.lt
  clear hW0 hw4 hk4 hb4 hb4w z0 z1 z2 z3 hl hl2 c0 c1 c2 c3
  rw [hs0] at p0 p1 p2 p3 p4 p5 p6 p7 p8 pf
  go_wp2_with (go_at_call 65; (with_reducible refine Calls.mono HOW.out ?_); rintro r w5 ⟨Aa, ca, Ab, cb, rfl, oa, ob, hb5⟩; have OA := Lib.hid oa; have OB := Lib.hid ob; have Hb5 := Lib.hid hb5; obtain ⟨q0, q1, q2, q3, q4, q5, q6, q7, q8, qf⟩ := blk9 (Ho4.out.below hb5 Ho4.out.lt); clear oa ob hb5)
  have hna : (Value.slice Aa nl ca).ownBlock ≠ some (w.heap.size + 1) := fun e => by have := (OwnR.block OA.out _ e).1; omega
  have hnb : (Value.slice Ab nm cb).ownBlock ≠ some (w.heap.size + 1) := fun e => by have := (OwnR.block OB.out _ e).1; omega
  refine bodyPost_named (v := .tuple #[.agg #[.int .i64 h1, .int .i64 h2, .int .i64 h3, .int .i64 h4, .int .i64 h5, .int .i64 h6, .int .i64 h7, .slice Aa nl ca, .slice Ab nm cb], .bool is]) (fun W => Blk W (w.heap.size + 1) 27 #[.int .i64 h1, .int .i64 h2, .int .i64 h3, .int .i64 h4, .int .i64 h5, .int .i64 h6, .int .i64 h7, .slice Aa nl ca, .slice Ab nm cb]) (Blk.set9 (Ho4.out.below Hb5.out Ho4.out.lt) _ _ _ _ _ _ _ _ _) (fun W hB => by
    obtain ⟨e0, e1, e2, e3, e4, e5, e6, e7, e8, -⟩ := blk9 hB
    simp [results, Try.results21, go_sem, e0, e1, e2, e3, e4, e5, e6, e7, e8]) rfl ?_
  exact ⟨Aa, ca, Ab, cb, rfl, OwnR.lower (own_far9 OA.out hna _ _ _ _ _ _ _ _ _) Hb4w.out.size, OwnR.lower (own_far9 OB.out hnb _ _ _ _ _ _ _ _ _) Hb4w.out.size, below_set9 (below_trans Hb4w.out Hb4w.out.size Hb5.out) (by omega) _ _ _ _ _ _ _ _ _⟩

end Go.Proofs.Ytmjjmkdjjfmhhaa

/-
  Layer 7 in plain words: the document's list in order, beside what a map has.
-/
namespace Go.Proofs.Ytmjjmkdjjfmhhaa

abbrev VX := Hd × List Lnk × List Int
def vX (x : Lsa) : VX := (x.head, x.links, x.members)
def keyX (x : Lsa) : K3 := keyH x.head
def insX (y : Lsa) : List Lsa → List Lsa
  | [] => [y]
  | x :: L => if lessK (keyX y) (keyX x) = true then y :: x :: L else x :: insX y L
def dropX (k : K3) (L : List Lsa) : List Lsa := L.filter fun x => decide (keyX x ≠ k)
def findX (k : K3) : List Lsa → Int
  | [] => -1
  | x :: L => if keyX x = k then 0 else if findX k L < 0 then -1 else findX k L + 1
def keyV (v : VX) : K3 := keyH v.1
theorem keyV_vX (x : Lsa) : keyV (vX x) = keyX x := rfl
theorem findX_ge (k : K3) : ∀ L : List Lsa, -1 ≤ findX k L ∧ findX k L < L.length
  | [] => ⟨by simp [findX], by simp [findX]⟩
  | x :: L => by
    have := findX_ge k L
    unfold findX
    simp only [List.length_cons]
    split
    · omega
    · split <;> omega
theorem findX_at {k : K3} : ∀ {L : List Lsa} {j : Nat} (hj : j < L.length), keyX L[j] = k → (∀ i, (hi : i < j) → (hl : i < L.length) → keyX L[i] ≠ k) → findX k L = j
  | x :: L, 0, _, he, _ => by simp at he; simp [findX, he]
  | x :: L, j + 1, hj, he, h0 => by
    have h1 := h0 0 (by omega) (by simp)
    simp only [List.getElem_cons_zero] at h1
    have h2 := findX_at (L := L) (j := j) (by simpa using hj) (by simpa using he) (fun i hi hl => by
      have := h0 (i + 1) (by omega) (by simp; omega)
      simpa using this)
    unfold findX
    rw [if_neg h1, if_neg (by omega), h2]
    omega
theorem findX_none {k : K3} : ∀ {L : List Lsa}, (∀ i, (hi : i < L.length) → keyX L[i] ≠ k) → findX k L = -1
  | [], _ => rfl
  | x :: L, h0 => by
    have h1 := h0 0 (by simp)
    simp only [List.getElem_cons_zero] at h1
    have h2 := findX_none (L := L) (fun i hi => by
      have := h0 (i + 1) (by simp; omega)
      simpa using this)
    unfold findX
    rw [if_neg h1, if_pos (by omega)]
theorem findX_get {k : K3} : ∀ {L : List Lsa}, (findX k L < 0 ∧ getX k L = none ∧ dropX k L = L) ∨ (∃ (j : Nat) (hj : j < L.length), findX k L = j ∧ getX k L = some L[j] ∧ keyX L[j] = k ∧ ∀ h : Lsa, keyX h = k → setX h L = L.set j h)
  | [] => .inl ⟨by simp [findX], rfl, rfl⟩
  | x :: L => by
    by_cases hx : keyX x = k
    · right
      have hx' : keyH x.head = k := hx
      refine ⟨0, by simp, ?_, ?_, hx, fun h hh => ?_⟩
      · simp [findX, hx]
      · simp [getX, hx']
      · have hh' : keyH h.head = k := hh
        simp [setX, hx', hh']
    · have hx' : ¬ keyH x.head = k := hx
      rcases findX_get (k := k) (L := L) with ⟨h1, h2, h3⟩ | ⟨j, hj, h1, h2, h3, h4⟩
      · left
        refine ⟨?_, ?_, ?_⟩
        · unfold findX; rw [if_neg hx, if_pos h1]; omega
        · unfold getX; rw [if_neg hx', h2]
        · unfold dropX at h3 ⊢
          rw [List.filter_cons_of_pos (by simpa using hx), h3]
      · right
        refine ⟨j + 1, by simp; omega, ?_, ?_, by simpa using h3, fun h hh => ?_⟩
        · unfold findX; rw [if_neg hx, if_neg (by omega), h1]; omega
        · unfold getX; rw [if_neg hx', h2]; simp
        · have hh' : keyH h.head = k := hh
          unfold setX; rw [if_neg (by rw [hh']; exact hx'), h4 h hh]; simp
theorem getX_none2 {k : K3} : ∀ {M : List Lsa}, getX k M = none ↔ ∀ x ∈ M, keyX x ≠ k
  | [] => by simp [getX]
  | y :: M => by
    unfold getX
    by_cases hy : keyH y.head = k
    · simp [hy, keyX]
    · simp [hy, keyX, getX_none2 (M := M)]
theorem getX_of {M : List Lsa} (hn : (M.map keyX).Nodup) {x : Lsa} (hx : x ∈ M) : getX (keyX x) M = some x := by
  induction M with
  | nil => simp at hx
  | cons y M ih =>
    simp only [List.map_cons, List.nodup_cons] at hn
    unfold getX
    by_cases hy : keyH y.head = keyX x
    · rw [if_pos hy]
      rcases List.mem_cons.1 hx with e | hx
      · rw [e]
      · exact absurd (by rw [show keyX y = keyX x from hy]; exact List.mem_map_of_mem hx) hn.1
    · rw [if_neg hy]
      rcases List.mem_cons.1 hx with e | hx
      · exact absurd (by rw [e]; rfl) hy
      · exact ih hn.2 hx
theorem setX_perm (h : Lsa) : ∀ {M : List Lsa}, (M.map keyX).Nodup → (setX h M).Perm (h :: dropX (keyX h) M)
  | [], _ => by simp [setX, dropX]
  | x :: M, hn => by
    simp only [List.map_cons, List.nodup_cons] at hn
    unfold setX
    by_cases hx : keyH x.head = keyH h.head
    · have hx' : keyX x = keyX h := hx
      rw [if_pos hx]
      have : dropX (keyX h) (x :: M) = M := by
        unfold dropX
        rw [List.filter_cons_of_neg (by simp [hx'])]
        exact List.filter_eq_self.2 fun y hy => by simpa using fun e => hn.1 (by rw [hx', ← e]; exact List.mem_map_of_mem hy)
      rw [this]
    · have hx' : ¬ keyX x = keyX h := hx
      rw [if_neg hx]
      have : dropX (keyX h) (x :: M) = x :: dropX (keyX h) M := by unfold dropX; rw [List.filter_cons_of_pos (by simpa using hx')]
      rw [this]
      exact ((setX_perm h hn.2).cons x).trans (List.Perm.swap _ _ _)
theorem insX_perm (h : Lsa) : ∀ L : List Lsa, (insX h L).Perm (h :: L)
  | [] => List.Perm.refl _
  | x :: L => by
    unfold insX
    split
    · exact List.Perm.refl _
    · exact ((insX_perm h L).cons x).trans (List.Perm.swap _ _ _)
def sortedX (L : List Lsa) : Prop := L.Pairwise fun x y => lessK (keyX x) (keyX y) = true
theorem sortedX.keys {L : List Lsa} (h : sortedX L) : (L.map keyX).Nodup := by
  unfold sortedX at h
  rw [List.Nodup, List.pairwise_map]
  exact h.imp fun {a b} hab e => by rw [e, lessK_irr] at hab; cases hab
theorem insX_sorted {h : Lsa} : ∀ {L : List Lsa}, sortedX L → (∀ x ∈ L, keyX x ≠ keyX h) → sortedX (insX h L)
  | [], _, _ => by simp [insX, sortedX]
  | x :: L, hs, hn => by
    unfold sortedX at hs
    rw [List.pairwise_cons] at hs
    unfold insX
    by_cases hl : lessK (keyX h) (keyX x) = true
    · rw [if_pos hl]
      unfold sortedX
      rw [List.pairwise_cons, List.pairwise_cons]
      refine ⟨fun y hy => ?_, hs⟩
      rcases List.mem_cons.1 hy with rfl | hy
      · exact hl
      · exact lessK_trans hl (hs.1 y hy)
    · rw [if_neg hl]
      have hl2 : lessK (keyX x) (keyX h) = true := by
        cases h3 : lessK (keyX x) (keyX h) with
        | true => rfl
        | false => exact absurd (lessK_tot h3 (by simpa using hl)) (hn x (by simp))
      unfold sortedX
      rw [List.pairwise_cons]
      refine ⟨fun y hy => ?_, insX_sorted hs.2 fun y hy => hn y (by simp [hy])⟩
      rcases List.mem_cons.1 ((insX_perm h L).subset hy) with rfl | hy
      · exact hl2
      · exact hs.1 y hy
/-- the same, but for where it lies, and the order -/
structure DEq (M L : List Lsa) : Prop where
  perm : (M.map vX).Perm (L.map vX)
  sorted : sortedX L
theorem map_keys (L : List Lsa) : (L.map vX).map keyV = L.map keyX := by rw [List.map_map]; rfl
theorem DEq.nil : DEq [] [] := ⟨List.Perm.refl _, List.Pairwise.nil⟩
section
variable {M L : List Lsa}
theorem DEq.len (h : DEq M L) : M.length = L.length := by have := h.perm.length_eq; simpa using this
theorem DEq.nodup (h : DEq M L) : (M.map keyX).Nodup := by
  rw [← map_keys, (h.perm.map keyV).nodup_iff, map_keys]
  exact h.sorted.keys
theorem DEq.find (h : DEq M L) (k : K3) : (getX k M = none ∧ findX k L < 0 ∧ dropX k L = L) ∨ ∃ (a : Lsa) (j : Nat) (hj : j < L.length), getX k M = some a ∧ findX k L = j ∧ keyX L[j] = k ∧ vX L[j] = vX a ∧ ∀ z : Lsa, keyX z = k → setX z L = L.set j z := by
  rcases findX_get (k := k) (L := L) with ⟨h1, h2, h3⟩ | ⟨j, hj, h1, h2, h3, h4⟩
  · refine .inl ⟨?_, h1, h3⟩
    rw [getX_none2] at h2 ⊢
    intro x hx e
    have hm : vX x ∈ L.map vX := h.perm.subset (List.mem_map_of_mem hx)
    obtain ⟨y, hy, hyx⟩ := List.mem_map.1 hm
    exact h2 y hy (by rw [← keyV_vX, hyx, keyV_vX, e])
  · have hm : vX L[j] ∈ M.map vX := h.perm.symm.subset (List.mem_map_of_mem (List.getElem_mem hj))
    obtain ⟨a, ha, hav⟩ := List.mem_map.1 hm
    have hk : keyX a = k := by rw [← h3, ← keyV_vX, hav, keyV_vX]
    refine .inr ⟨a, j, hj, ?_, h1, h3, hav.symm, h4⟩
    rw [← hk]
    exact getX_of h.nodup ha
theorem drop_map (k : K3) (L : List Lsa) : (dropX k L).map vX = (L.map vX).filter fun v => decide (keyV v ≠ k) := by
  unfold dropX
  rw [List.filter_map]
  rfl
theorem DEq.put (h : DEq M L) {y z : Lsa} (hv : vX y = vX z) : DEq (setX y M) (insX z (dropX (keyX z) L)) := by
  have hk : keyX y = keyX z := by rw [← keyV_vX, hv, keyV_vX]
  have hs : sortedX (dropX (keyX z) L) := h.sorted.sublist List.filter_sublist
  refine ⟨((setX_perm y h.nodup).map vX).trans ?_, insX_sorted hs fun x hx => by have := (List.mem_filter.1 hx).2; simpa using this⟩
  refine List.Perm.trans ?_ ((insX_perm z _).map vX).symm
  rw [List.map_cons, List.map_cons, hv, hk]
  refine List.Perm.cons _ ?_
  rw [drop_map, drop_map]
  exact h.perm.filter _
theorem DEq.set_ (h : DEq M L) {y z : Lsa} {j : Nat} (hj : j < L.length) (hv : vX y = vX z) (hk : keyX L[j] = keyX z) (hs : setX z L = L.set j z) : DEq (setX y M) (L.set j z) := by
  have hky : keyX y = keyX z := by rw [← keyV_vX, hv, keyV_vX]
  refine ⟨((setX_perm y h.nodup).map vX).trans ?_, ?_⟩
  · rw [← hs]
    refine List.Perm.trans ?_ ((setX_perm z h.sorted.keys).map vX).symm
    rw [List.map_cons, List.map_cons, hv, hky]
    refine List.Perm.cons _ ?_
    rw [drop_map, drop_map]
    exact h.perm.filter _
  · have e : (L.set j z).map keyX = L.map keyX := by
      rw [List.map_set, ← hk, show keyX L[j] = (L.map keyX)[j]'(by simpa using hj) by simp, List.set_getElem_self]
    have h1 : (L.map keyX).Pairwise fun x y => lessK x y = true := by rw [List.pairwise_map]; exact h.sorted
    rw [← e, List.pairwise_map] at h1
    exact h1
end

end Go.Proofs.Ytmjjmkdjjfmhhaa
