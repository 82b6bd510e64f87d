/-
  Keys in order, in plain words.
-/
import Derived.Laws.StructEq
import Derived.RegionTactic
import Derived.Test.YtpfjgecdlilkcaaGreatBaa
import Derived.Test.YtpfjgecdlilkcaaGreatBab
import Derived.Test.YtpfjgecdlilkcaaGreatBac
import Derived.Test.YtpfjgecdlilkcaaGreatBad
import Derived.Test.YtpfjgecdlilkcaaGreatBae
namespace Go.Proofs.YtpfjgecdlilkcaaGreat

def cmpK (a b : K3) : Int := cmp3 a.kind a.id a.adv b.kind b.id b.adv
def lessK (a b : K3) : Bool := less3 a.kind a.id a.adv b.kind b.id b.adv
theorem cmpK_less (a b : K3) : decide (cmpK a b < 0) = lessK a b := cmp3_less _ _ _ _ _ _
def sortK (L : List K3) : List K3 := L.mergeSort fun x y => !lessK y x
theorem lessK_iff (a b : K3) : lessK a b = true ↔ a.kind < b.kind ∨ (a.kind = b.kind ∧ (a.id < b.id ∨ (a.id = b.id ∧ a.adv < b.adv))) := by
  simp [lessK, less3]
theorem lessK_irr (a : K3) : lessK a a = false := by
  rw [Bool.eq_false_iff]; intro h; rw [lessK_iff] at h; omega
theorem lessK_tot {a b : K3} (h1 : lessK a b = false) (h2 : lessK b a = false) : a = b := by
  rw [Bool.eq_false_iff, ne_eq, lessK_iff] at h1 h2
  obtain ⟨a1, a2, a3⟩ := a
  obtain ⟨b1, b2, b3⟩ := b
  simp only at h1 h2
  simp only [K3.mk.injEq]
  omega
theorem lessK_trans {a b c : K3} (h1 : lessK a b = true) (h2 : lessK b c = true) : lessK a c = true := by
  rw [lessK_iff] at *; omega
theorem lessK_ntrans {a b c : K3} (h1 : lessK a b = false) (h2 : lessK b c = false) : lessK a c = false := by
  rw [Bool.eq_false_iff, ne_eq, lessK_iff] at *; omega
theorem sortK_perm (L : List K3) : (sortK L).Perm L := List.mergeSort_perm _ _
theorem sortK_len (L : List K3) : (sortK L).length = L.length := (sortK_perm L).length_eq
theorem sortK_sorted (L : List K3) : (sortK L).Pairwise fun x y => lessK y x = false := by
  have := List.pairwise_mergeSort (le := fun x y => !lessK y x) (fun a b c h1 h2 => by
    simp only [Bool.not_eq_true'] at *
    exact lessK_ntrans h2 h1) (fun a b => by
    cases h : lessK b a
    · simp
    · cases h' : lessK a b
      · simp
      · exact absurd (lessK_trans h h') (by rw [lessK_irr]; simp)) L
  exact this.imp fun {a b} h => by simpa using h
/-- two lists of the same keys, both in order, are one -/
theorem sorted_one : ∀ {L M : List K3}, L.Perm M → (L.Pairwise fun x y => lessK y x = false) → (M.Pairwise fun x y => lessK y x = false) → L = M
  | [], M, hp, _, _ => by simpa using hp.symm.eq_nil
  | x :: L, [], hp, _, _ => by simpa using hp.eq_nil
  | x :: L, y :: M, hp, h1, h2 => by
    rw [List.pairwise_cons] at h1 h2
    have hxy : x = y := by
      have hx : x ∈ y :: M := hp.subset (by simp)
      have hy : y ∈ x :: L := hp.symm.subset (by simp)
      rcases List.mem_cons.1 hx with e | hx
      · exact e
      · rcases List.mem_cons.1 hy with e | hy
        · exact e.symm
        · exact lessK_tot (h2.1 x hx) (h1.1 y hy)
    subst hxy
    rw [sorted_one (List.Perm.cons_inv hp) h1.2 h2.2]
theorem sortK_of_perm {L M : List K3} (h : L.Perm M) : sortK L = sortK M := sorted_one (((sortK_perm L).trans h).trans (sortK_perm M).symm) (sortK_sorted L) (sortK_sorted M)
theorem sortK_of_sorted {L : List K3} (h : L.Pairwise fun x y => lessK y x = false) : sortK L = L := sorted_one (sortK_perm L) (sortK_sorted L) h

end Go.Proofs.YtpfjgecdlilkcaaGreat

/-
  Layer 15: what is wanted, in plain words: heads by their keys.
-/
namespace Go.Proofs.YtpfjgecdlilkcaaGreat

def keyH (h : Hd) : K3 := ⟨h.kind, h.id, h.adv⟩
def aggH (h : Hd) : Value := .agg h.cells.toArray
def waL (M : List Hd) : List (K3 × Value) := M.map fun h => (keyH h, aggH h)
def getH (k : K3) : List Hd → Option Hd
  | [] => none
  | x :: M => if keyH x = k then some x else getH k M
def setH (h : Hd) : List Hd → List Hd
  | [] => [h]
  | x :: M => if keyH x = keyH h then h :: M else x :: setH h M
def dropH (k : K3) (M : List Hd) : List Hd := M.filter fun x => decide (keyH x ≠ k)
theorem getL_wa (k : K3) : ∀ M : List Hd, getL k (waL M) = (getH k M).map aggH
  | [] => rfl
  | x :: M => by
    have ih := getL_wa k M
    unfold waL at ih ⊢
    by_cases hx : keyH x = k
    · simp [getL, getH, hx]
    · simp [getL, getH, hx, ih]
theorem setL_wa (h : Hd) : ∀ M : List Hd, setL (keyH h) (aggH h) (waL M) = waL (setH h M)
  | [] => rfl
  | x :: M => by
    have ih := setL_wa h M
    unfold waL at ih ⊢
    by_cases hx : keyH x = keyH h
    · simp [setL, setH, hx]
    · simp [setL, setH, hx, ih]
theorem dropL_wa (k : K3) (M : List Hd) : dropL k (waL M) = waL (dropH k M) := by
  unfold dropL waL dropH
  rw [List.filter_map]
  rfl
theorem fst_wa (M : List Hd) : (waL M).map (·.1) = M.map keyH := by simp [waL, Function.comp_def]

/-- the document's list is in order -/
def sortedH (L : List Hd) : Prop := L.Pairwise fun x y => lessK (keyH x) (keyH y) = true
theorem sortedH.keys {L : List Hd} (h : sortedH L) : (L.map keyH).Nodup := by
  unfold sortedH at h
  rw [List.Nodup, List.pairwise_map]
  exact h.imp fun {a b} hab e => by rw [e, lessK_irr] at hab; cases hab
theorem getH_mem {k : K3} : ∀ {M : List Hd} {x : Hd}, getH k M = some x → x ∈ M ∧ keyH x = k
  | y :: M, x, h => by
    unfold getH at h
    by_cases hy : keyH y = k
    · rw [if_pos hy] at h
      injection h with h
      subst h
      exact ⟨by simp, hy⟩
    · rw [if_neg hy] at h
      have := getH_mem h
      exact ⟨by simp [this.1], this.2⟩
theorem getH_none {k : K3} : ∀ {M : List Hd}, getH k M = none ↔ ∀ x ∈ M, keyH x ≠ k
  | [] => by simp [getH]
  | y :: M => by
    unfold getH
    by_cases hy : keyH y = k
    · simp [hy]
    · simp [hy, getH_none (M := M)]
theorem getH_of {M : List Hd} (hn : (M.map keyH).Nodup) {x : Hd} (hx : x ∈ M) : getH (keyH x) M = some x := by
  induction M with
  | nil => simp at hx
  | cons y M ih =>
    simp only [List.map_cons, List.nodup_cons] at hn
    unfold getH
    by_cases hy : keyH y = keyH x
    · rw [if_pos hy]
      rcases List.mem_cons.1 hx with e | hx
      · rw [e]
      · exact absurd (by rw [hy]; exact List.mem_map_of_mem hx) hn.1
    · rw [if_neg hy]
      rcases List.mem_cons.1 hx with e | hx
      · exact absurd (by rw [e]) hy
      · exact ih hn.2 hx
theorem getH_perm {M L : List Hd} (hp : M.Perm L) (hn : (M.map keyH).Nodup) (k : K3) : getH k M = getH k L := by
  have hn' : (L.map keyH).Nodup := (hp.map keyH).nodup_iff.1 hn
  cases h : getH k L with
  | none => rw [getH_none] at h ⊢; exact fun x hx => h x (hp.subset hx)
  | some x =>
    obtain ⟨h1, h2⟩ := getH_mem h
    subst h2
    exact getH_of hn (hp.symm.subset h1)
theorem setH_perm (h : Hd) : ∀ {M : List Hd}, (M.map keyH).Nodup → (setH h M).Perm (h :: dropH (keyH h) M)
  | [], _ => by simp [setH, dropH]
  | x :: M, hn => by
    simp only [List.map_cons, List.nodup_cons] at hn
    unfold setH
    by_cases hx : keyH x = keyH h
    · rw [if_pos hx]
      have : dropH (keyH h) (x :: M) = M := by
        unfold dropH
        rw [List.filter_cons_of_neg (by simp [hx])]
        exact List.filter_eq_self.2 fun y hy => by simpa using fun e => hn.1 (by rw [hx, ← e]; exact List.mem_map_of_mem hy)
      rw [this]
    · rw [if_neg hx]
      have : dropH (keyH h) (x :: M) = x :: dropH (keyH h) M := by unfold dropH; rw [List.filter_cons_of_pos (by simp [hx])]
      rw [this]
      exact ((setH_perm h hn.2).cons x).trans (List.Perm.swap _ _ _)
theorem setH_keys {h : Hd} : ∀ {L : List Hd}, (∃ x ∈ L, keyH x = keyH h) → (setH h L).map keyH = L.map keyH
  | [], hx => by obtain ⟨x, hx, _⟩ := hx; simp at hx
  | y :: L, hx => by
    unfold setH
    by_cases hy : keyH y = keyH h
    · rw [if_pos hy]; simp [hy]
    · rw [if_neg hy]
      obtain ⟨x, hx1, hx2⟩ := hx
      rcases List.mem_cons.1 hx1 with e | hx1
      · exact absurd (by rw [← e]; exact hx2) hy
      · simp [setH_keys (L := L) ⟨x, hx1, hx2⟩]
theorem sorted_keys {L L' : List Hd} (h : sortedH L) (e : L'.map keyH = L.map keyH) : sortedH L' := by
  unfold sortedH at *
  have h1 : (L.map keyH).Pairwise fun x y => lessK x y = true := by rw [List.pairwise_map]; exact h
  rw [← e, List.pairwise_map] at h1
  exact h1
def insH (h : Hd) : List Hd → List Hd
  | [] => [h]
  | x :: L => if lessK (keyH h) (keyH x) = true then h :: x :: L else x :: insH h L
theorem insH_perm (h : Hd) : ∀ L : List Hd, (insH h L).Perm (h :: L)
  | [] => List.Perm.refl _
  | x :: L => by
    unfold insH
    split
    · exact List.Perm.refl _
    · exact ((insH_perm h L).cons x).trans (List.Perm.swap _ _ _)
theorem insH_sorted {h : Hd} : ∀ {L : List Hd}, sortedH L → (∀ x ∈ L, keyH x ≠ keyH h) → sortedH (insH h L)
  | [], _, _ => by simp [insH, sortedH]
  | x :: L, hs, hne => by
    unfold sortedH at hs
    rw [List.pairwise_cons] at hs
    unfold insH
    by_cases hl : lessK (keyH h) (keyH x) = true
    · rw [if_pos hl]
      unfold sortedH
      rw [List.pairwise_cons, List.pairwise_cons]
      refine ⟨fun y hy => ?_, hs⟩
      rcases List.mem_cons.1 hy with e | hy
      · rw [e]; exact hl
      · exact lessK_trans hl (hs.1 y hy)
    · rw [if_neg hl]
      unfold sortedH
      rw [List.pairwise_cons]
      refine ⟨fun y hy => ?_, insH_sorted hs.2 fun z hz => hne z (by simp [hz])⟩
      have hy' := (insH_perm h L).subset hy
      rcases List.mem_cons.1 hy' with e | hy'
      · rw [e]
        cases hx : lessK (keyH x) (keyH h) with
        | true => rfl
        | false => exact absurd (lessK_tot hx (by simpa using hl)) (hne x (by simp))
      · exact hs.1 y hy'
theorem sortedH_one : ∀ {L M : List Hd}, L.Perm M → sortedH L → sortedH M → L = M
  | [], M, hp, _, _ => by simpa using hp.symm.eq_nil
  | x :: L, [], hp, _, _ => by simpa using hp.eq_nil
  | x :: L, y :: M, hp, h1, h2 => by
    unfold sortedH at h1 h2
    rw [List.pairwise_cons] at h1 h2
    have hxy : x = y := by
      rcases List.mem_cons.1 (hp.subset (List.mem_cons_self (a := x) (l := L))) with e | hx
      · exact e
      · rcases List.mem_cons.1 (hp.symm.subset (List.mem_cons_self (a := y) (l := M))) with e | hy
        · exact e.symm
        · have h3 := lessK_trans (h2.1 x hx) (h1.1 y hy)
          rw [lessK_irr] at h3
          cases h3
    subst hxy
    rw [sortedH_one (List.Perm.cons_inv hp) h1.2 h2.2]

/-- the map's heads and the document's list -/
structure WEq (M L : List Hd) : Prop where
  perm : M.Perm L
  sorted : sortedH L
section
variable {M L : List Hd}
theorem WEq.nil : WEq [] [] := ⟨List.Perm.refl _, by simp [sortedH]⟩
theorem WEq.keys (h : WEq M L) : (M.map keyH).Nodup := (h.perm.map keyH).nodup_iff.2 h.sorted.keys
theorem WEq.get (h : WEq M L) (k : K3) : getH k M = getH k L := getH_perm h.perm h.keys k
theorem WEq.len (h : WEq M L) : M.length = L.length := h.perm.length_eq
theorem WEq.drop (h : WEq M L) (k : K3) : WEq (dropH k M) (dropH k L) := ⟨h.perm.filter _, h.sorted.sublist List.filter_sublist⟩
theorem WEq.set (h : WEq M L) {x : Hd} {y : Hd} (hx : getH (keyH y) L = some x) : WEq (setH y M) (setH y L) := by
  obtain ⟨h1, h2⟩ := getH_mem hx
  exact ⟨((setH_perm y h.keys).trans ((h.perm.filter _).cons y)).trans (setH_perm y h.sorted.keys).symm, sorted_keys h.sorted (setH_keys ⟨x, h1, h2⟩)⟩
theorem WEq.ins (h : WEq M L) {y : Hd} (hy : getH (keyH y) L = none) : WEq (setH y M) (insH y L) := by
  rw [getH_none] at hy
  refine ⟨(setH_perm y h.keys).trans (List.Perm.trans ?_ (insH_perm y L).symm), insH_sorted h.sorted hy⟩
  have : dropH (keyH y) L = L := List.filter_eq_self.2 fun z hz => by simpa using hy z hz
  have h3 := h.perm.filter (fun x => decide (keyH x ≠ keyH y))
  unfold dropH at this ⊢
  rw [this] at h3
  exact h3.cons y
end

/-- one head is added: on either side -/
def addM (nw : Hd → Hd → Int) (M : List Hd) (h : Hd) : List Hd := match getH (keyH h) M with
  | some x => if 0 < nw h x then setH h M else M
  | none => setH h M
def addD (nw : Hd → Hd → Int) (L : List Hd) (h : Hd) : List Hd := match getH (keyH h) L with
  | some x => if 0 < nw h x then setH h L else L
  | none => insH h L
theorem WEq.add {M L : List Hd} (h : WEq M L) (nw : Hd → Hd → Int) (y : Hd) : WEq (addM nw M y) (addD nw L y) := by
  unfold addM addD
  rw [h.get]
  cases hx : getH (keyH y) L with
  | none => exact h.ins hx
  | some x =>
    simp only
    by_cases h1 : 0 < nw y x
    · rw [if_pos h1, if_pos h1]; exact h.set hx
    · rw [if_neg h1, if_neg h1]; exact h

end Go.Proofs.YtpfjgecdlilkcaaGreat

/-
  Descriptions by their words; rows of them that the program made itself; the document's word for alike; keys.
-/
namespace Go.Proofs.YtpfjgecdlilkcaaGreat
open Go.RowKit Go.Sort

abbrev VX := Hd × List Lnk × List Int
def vX (x : Lsa) : VX := (x.head, x.links, x.members)
def keyX (x : Lsa) : K3 := keyH x.head
def keyV (v : VX) : K3 := keyH v.1
theorem keyV_vX (x : Lsa) : keyV (vX x) = keyX x := rfl
theorem map_keys (L : List Lsa) : (L.map vX).map keyV = L.map keyX := by rw [List.map_map]; rfl
set_option maxHeartbeats 400000 in
theorem keyOf_any (a b c d e f g : Int) (w : World) : Calls Tryz.prog 57 #[.agg #[.int .i64 a, .int .i64 b, .int .i64 c, .int .i64 d, .int .i64 e, .int .i64 f, .int .i64 g]] w
    fun r w' => r = .returned (.agg #[.int .i64 b, .int .i64 c, .int .i64 d]) ∧ Below w.heap.size w w' := by
  go_enter Tryz.func57, Tryz.ntmps57
  go_wp2
  refine bodyPost_ret (v := .agg #[.int .i64 b, .int .i64 c, .int .i64 d]) (by simp [results, Tryz.results57, go_sem]) rfl ⟨rfl, ?_⟩
  exact ((Below.refl _ _).alloc (Nat.le_refl _) _).alloc (by simp) _
set_option maxHeartbeats 400000 in
theorem key_any (a b c d e f g : Int) (w : World) : Calls Tryz.prog 28 #[.agg #[.int .i64 a, .int .i64 b, .int .i64 c, .int .i64 d, .int .i64 e, .int .i64 f, .int .i64 g]] w
    fun r w' => r = .returned (.agg #[.int .i64 b, .int .i64 c, .int .i64 d]) ∧ Below w.heap.size w w' := by
  go_enter Tryz.func28, Tryz.ntmps28
  go_wp2
  refine bodyPost_ret (v := .agg #[.int .i64 b, .int .i64 c, .int .i64 d]) (by simp [results, Tryz.results28, go_sem]) rfl ⟨rfl, ?_⟩
  exact ((Below.refl _ _).alloc (Nat.le_refl _) _).alloc (by simp) _
theorem eqKey (a b c a' b' c' : Int) (w : World) : (Op.equalIn 10000 80 (.agg #[.int .i64 a, .int .i64 b, .int .i64 c]) (.agg #[.int .i64 a', .int .i64 b', .int .i64 c'])).run Tryz.prog w = .ok (a == a' && b == b' && c == c') w := by
  have hS : Tryz.prog.underlying 80 = some (.struct (Tryz.prog.fieldsOf 80)) := by kernel_rfl
  have hp : Tryz.prog.stoodInHeld 80 = false := by kernel_rfl
  rw [show (10000 : Nat) = 9999 + 1 from rfl, run_equalIn_struct w 9999 80 _ _ hS hp]
  simp only [Program.fieldsOf, Tryz.underlying80]
  go_simp
  by_cases h1 : a = a' <;> by_cases h2 : b = b' <;> by_cases h3 : c = c' <;> simp [h1, h2, h3]

/-- its two lists lie off the row that holds it -/
def farX (v : Value) (x : Lsa) : Prop := (∀ a, x.ka = some a → 0 < x.links.length → v.ownBlock ≠ some a.block) ∧ (∀ a, x.ma = some a → 0 < x.members.length → v.ownBlock ≠ some a.block)
/-- its two lists lie in blocks from B on -/
def fromX (B : Nat) (x : Lsa) : Prop := (∀ a, x.ka = some a → 0 < x.links.length → B ≤ a.block) ∧ (∀ a, x.ma = some a → 0 < x.members.length → B ≤ a.block)
/-- its two lists can be read -/
def rowsX (W : World) (x : Lsa) : Prop := RowsAt 4 Lnk.cells W W.heap.size x.ka x.links ∧ RowsAt 1 icell W W.heap.size x.ma x.members
/-- a row of descriptions that the program made itself: blocks from B on -/
structure XsAt (W : World) (B : Nat) (v : Value) (L : List Lsa) : Prop where
  own : OwnR 41 9 Lsa.cells W B v L
  rows : ∀ x ∈ L, rowsX W x
  far : ∀ x ∈ L, farX v x
  from_ : ∀ x ∈ L, fromX B x
  lens : ∀ x ∈ L, x.links.length ≤ 1000 ∧ x.members.length ≤ 1000
section
variable {W W' : World} {B B' : Nat} {v v' : Value} {L : List Lsa} {x : Lsa}
theorem rowsX.keep (h : rowsX W x) (hb : Below W.heap.size W W') : rowsX W' x := ⟨rows_keep h.1 hb, rows_keep h.2 hb⟩
theorem XsAt.nil (W : World) (B : Nat) : XsAt W B (.slice none 0 0) [] := ⟨OwnR.nil _ _, fun _ h => absurd h (by simp), fun _ h => absurd h (by simp), fun _ h => absurd h (by simp), fun _ h => absurd h (by simp)⟩
theorem XsAt.keep (h : XsAt W B v L) (hb : Below W.heap.size W W') : XsAt W' B v L := ⟨h.own.below hb, fun x hx => (h.rows x hx).keep hb, h.far, h.from_, h.lens⟩
theorem row_at (h : OwnR 41 9 Lsa.cells W B v L) (k : Nat) (hk : k < L.length) : ∃ g c, v = .slice (some ⟨g, 0, none⟩) L.length c ∧ W.cell? ⟨g, k * 9, none⟩ = some (.int .i64 L[k].head.age) ∧ W.cell? ⟨g, k * 9 + 1, none⟩ = some (.int .i64 L[k].head.kind) ∧ W.cell? ⟨g, k * 9 + 2, none⟩ = some (.int .i64 L[k].head.id) ∧ W.cell? ⟨g, k * 9 + 3, none⟩ = some (.int .i64 L[k].head.adv) ∧ W.cell? ⟨g, k * 9 + 4, none⟩ = some (.int .i64 L[k].head.seq) ∧ W.cell? ⟨g, k * 9 + 5, none⟩ = some (.int .i64 L[k].head.sum) ∧ W.cell? ⟨g, k * 9 + 6, none⟩ = some (.int .i64 L[k].head.long) ∧
      W.cell? ⟨g, k * 9 + 7, none⟩ = some (.slice L[k].ka L[k].links.length L[k].kcap) ∧ W.cell? ⟨g, k * 9 + 8, none⟩ = some (.slice L[k].ma L[k].members.length L[k].mcap) := by
  rcases h.shape2 with ⟨-, hn⟩ | ⟨g, c, rfl, hc⟩
  · subst hn; simp at hk
  · obtain ⟨b, o, e, _, hcell⟩ := (OwnR.rows (C := 9) (cells := Lsa.cells) (fun _ => rfl) h).2 (by omega)
    injection e with e
    injection e with e1 e2
    subst e1 e2
    refine ⟨g, c, rfl, ?_, ?_, ?_, ?_, ?_, ?_, ?_, ?_, ?_⟩
    · simpa using hcell k hk 0 _ (by omega) rfl
    · simpa using hcell k hk 1 _ (by omega) rfl
    · simpa using hcell k hk 2 _ (by omega) rfl
    · simpa using hcell k hk 3 _ (by omega) rfl
    · simpa using hcell k hk 4 _ (by omega) rfl
    · simpa using hcell k hk 5 _ (by omega) rfl
    · simpa using hcell k hk 6 _ (by omega) rfl
    · simpa using hcell k hk 7 _ (by omega) rfl
    · simpa using hcell k hk 8 _ (by omega) rfl
theorem row_lt2 {α : Type} {C : Nat} {cells : α → List Value} {a : Addr} {R : List α} {A : Option Addr} (h : RowsAt C cells W W.heap.size A R) (e : A = some a) (h0 : 0 < R.length) : a.block < W.heap.size := by
  subst e
  obtain ⟨b', o, e, hb, -⟩ := h h0
  injection e with e
  subst e
  exact hb
theorem rows_row2 {α : Type} {C : Nat} {cells : α → List Value} {A : Option Addr} {R : List α} {row : Option Nat} (h : RowsAt C cells W W.heap.size A R) (hg : W.grownBy W' row) (hne : ∀ a, A = some a → 0 < R.length → row ≠ some a.block) : RowsAt C cells W' W'.heap.size A R := by
  intro h0
  obtain ⟨b', o, e, hb, hc⟩ := h h0
  refine ⟨b', o, e, Nat.lt_of_lt_of_le hb hg.size, fun k hk i u hi hu => ?_⟩
  exact (World.cell?_of_block (w := W) (a := ⟨b', o + k * C + i, none⟩) (hg.block b' hb (fun e2 => hne _ e h0 e2.symm))).trans (hc k hk i u hi hu)
theorem rowsX.grown {row : Option Nat} (h : rowsX W x) (hg : W.grownBy W' row) (hne : ∀ a, (x.ka = some a ∧ 0 < x.links.length) ∨ (x.ma = some a ∧ 0 < x.members.length) → row ≠ some a.block) : rowsX W' x :=
  ⟨rows_row2 h.1 hg (fun a e h0 => hne a (.inl ⟨e, h0⟩)), rows_row2 h.2 hg (fun a e h0 => hne a (.inr ⟨e, h0⟩))⟩
theorem grown_set (W : World) (q i : Nat) (u : Value) : W.grownBy (W.setCell ⟨q, i, none⟩ u) (some q) := ⟨rfl, rfl, rfl, by simp [World.setCell], fun k _ hne => Below.heap_setCell _ _ _ _ (fun e => hne (by rw [e]))⟩
/-- one more -/
theorem XsAt.app (h : XsAt W B v L) (ho : OwnR 41 9 Lsa.cells W' B v' (L ++ [x])) (hg : W.grownBy W' v.ownBlock) (hor : v'.ownBlock = v.ownBlock ∨ v'.ownBlock = some W.heap.size) (hr : rowsX W x) (hf : farX v x) (hB : fromX B x) (hl : x.links.length ≤ 1000 ∧ x.members.length ≤ 1000) : XsAt W' B v' (L ++ [x]) := by
  have hrows : ∀ y ∈ L ++ [x], rowsX W y ∧ farX v y ∧ fromX B y ∧ (y.links.length ≤ 1000 ∧ y.members.length ≤ 1000) := by
    intro y hy
    rcases List.mem_append.1 hy with hy | hy
    · exact ⟨h.rows y hy, h.far y hy, h.from_ y hy, h.lens y hy⟩
    · rw [List.mem_singleton] at hy
      subst hy
      exact ⟨hr, hf, hB, hl⟩
  refine ⟨ho, fun y hy => (hrows y hy).1.grown hg (fun a ha => ?_), fun y hy => ?_, fun y hy => (hrows y hy).2.2.1, fun y hy => (hrows y hy).2.2.2⟩
  · rcases ha with ⟨e, h0⟩ | ⟨e, h0⟩
    · exact (hrows y hy).2.1.1 a e h0
    · exact (hrows y hy).2.1.2 a e h0
  · rcases hor with e | e
    · unfold farX
      rw [e]
      exact (hrows y hy).2.1
    · unfold farX
      rw [e]
      refine ⟨fun a ea h0 e2 => ?_, fun a ea h0 e2 => ?_⟩
      · have := row_lt2 (hrows y hy).1.1 ea h0
        injection e2 with e2
        omega
      · have := row_lt2 (hrows y hy).1.2 ea h0
        injection e2 with e2
        omega
end
theorem own_new {v v' : Value} {B n : Nat} (h : ∀ m, v.ownBlock = some m → B ≤ m) (hor : v'.ownBlock = v.ownBlock ∨ v'.ownBlock = some n) (hn : B ≤ n) : ∀ m, v'.ownBlock = some m → B ≤ m := by
  intro m e
  rcases hor with e2 | e2
  · exact h m (by rw [← e2]; exact e)
  · rw [e2] at e; injection e with e; omega
theorem infoX : (Tryz.prog.info? 41).map (fun i => (i.zero, i.size, i.bytes)) = some (some (.agg #[.int .i64 0, .int .i64 0, .int .i64 0, .int .i64 0, .int .i64 0, .int .i64 0, .int .i64 0, .slice none 0 0, .slice none 0 0]), 9, 104) := by kernel_rfl
theorem onesX (x : Lsa) : ∀ u ∈ Lsa.cells x, u.oneCell' = true := by
  intro u hu
  simp [Lsa.cells] at hu
  rcases hu with rfl | rfl | rfl | rfl | rfl | rfl | rfl | rfl | rfl <;> rfl


theorem row_lsa9b {w : World} {B : Nat} {A : Option Addr} {l : List Lsa} (h : RowsAt 9 Lsa.cells w B A l) (k : Nat) (hk : k < l.length) :
    ∃ b o, A = some ⟨b, o, none⟩ ∧ b < B ∧ w.cell? ⟨b, o + k * 9, none⟩ = some (.int .i64 l[k].head.age) ∧ w.cell? ⟨b, o + k * 9 + 1, none⟩ = some (.int .i64 l[k].head.kind) ∧ w.cell? ⟨b, o + k * 9 + 2, none⟩ = some (.int .i64 l[k].head.id) ∧ w.cell? ⟨b, o + k * 9 + 3, none⟩ = some (.int .i64 l[k].head.adv) ∧ w.cell? ⟨b, o + k * 9 + 4, none⟩ = some (.int .i64 l[k].head.seq) ∧ w.cell? ⟨b, o + k * 9 + 5, none⟩ = some (.int .i64 l[k].head.sum) ∧ w.cell? ⟨b, o + k * 9 + 6, none⟩ = some (.int .i64 l[k].head.long) ∧
      w.cell? ⟨b, o + k * 9 + 7, none⟩ = some (.slice l[k].ka l[k].links.length l[k].kcap) ∧ w.cell? ⟨b, o + k * 9 + 8, none⟩ = some (.slice l[k].ma l[k].members.length l[k].mcap) := by
  obtain ⟨b, o, e, hb, hc⟩ := h (by omega)
  exact ⟨b, o, e, hb, by simpa using hc k hk 0 _ (by omega) rfl, hc k hk 1 _ (by omega) rfl, hc k hk 2 _ (by omega) rfl, hc k hk 3 _ (by omega) rfl, hc k hk 4 _ (by omega) rfl, hc k hk 5 _ (by omega) rfl, hc k hk 6 _ (by omega) rfl, hc k hk 7 _ (by omega) rfl, hc k hk 8 _ (by omega) rfl⟩
theorem vX_len {l l' : List Lsa} (h : l.map vX = l'.map vX) : l.length = l'.length := by have := congrArg List.length h; simpa using this
theorem vX_at {l l' : List Lsa} (h : l.map vX = l'.map vX) (k : Nat) (hk : k < l.length) (hk' : k < l'.length) : vX l[k] = vX l'[k] := by
  have h1 : (l.map vX)[k]? = (l'.map vX)[k]? := by rw [h]
  simpa [hk, hk'] using h1
theorem seal_el {W W' : World} {B q nl nm : Nat} {v : Value} {O : List Lsa} {ls : List Lnk} {ms : List Int} {A : Option Addr} {c : Nat} {A' : Option Addr} {c' : Nat} {h : Hd} (ho : OwnR 41 9 Lsa.cells W B v O) (hq : q < W.heap.size) (_hnl : nl = ls.length) (_hnm : nm = ms.length) (hl : ls.length ≤ 1000) (hm : ms.length ≤ 1000)
    (oa : OwnR 53 4 Lnk.cells W' W.heap.size (.slice A nl c) ls) (ob : OwnR 3 1 icell W' W.heap.size (.slice A' nm c') ms) :
    rowsX W' ⟨h, A, c, ls, A', c', ms⟩ ∧ farX v ⟨h, A, c, ls, A', c', ms⟩ ∧ fromX (q + 1) ⟨h, A, c, ls, A', c', ms⟩ ∧ (ls.length ≤ 1000 ∧ ms.length ≤ 1000) := by
  refine ⟨⟨(OwnR.rows (C := 4) (cells := Lnk.cells) (fun _ => rfl) oa).2, (OwnR.rows (C := 1) (cells := icell) (fun _ => rfl) ob).2⟩, ⟨fun a e _ e2 => ?_, fun a e _ e2 => ?_⟩, ⟨fun a e _ => ?_, fun a e _ => ?_⟩, hl, hm⟩
  · simp only at e; subst e
    have := (oa.block _ rfl).1; have := (ho.block _ e2).2; omega
  · simp only at e; subst e
    have := (ob.block _ rfl).1; have := (ho.block _ e2).2; omega
  · simp only at e; subst e
    have := (oa.block _ rfl).1; omega
  · simp only at e; subst e
    have := (ob.block _ rfl).1; omega
theorem XsAt.lower {W : World} {B B' : Nat} {v : Value} {L : List Lsa} (h : XsAt W B v L) (hB : B' ≤ B) : XsAt W B' v L :=
  ⟨h.own.lower hB, h.rows, h.far, fun x hx => ⟨fun a e h0 => Nat.le_trans hB ((h.from_ x hx).1 a e h0), fun a e h0 => Nat.le_trans hB ((h.from_ x hx).2 a e h0)⟩, h.lens⟩
theorem XsAt.iter {W W' : World} {B i : Nat} {v : Value} {D : List Lsa} (h : XsAt W B v D) (hg : W.grownBy W' (some i)) (hi : i < B) : XsAt W' B v D :=
  ⟨h.own.kept hg (.inr (fun e => by have := (h.own.block i e).1; omega)), fun x hx => (h.rows x hx).grown hg (fun a ha => ha.elim (fun e e2 => by have := (h.from_ x hx).1 a e.1 e.2; injection e2 with e2; omega) (fun e e2 => by have := (h.from_ x hx).2 a e.1 e.2; injection e2 with e2; omega)), h.far, h.from_, h.lens⟩
end Go.Proofs.YtpfjgecdlilkcaaGreat

/-
  Layer 20 in plain words: which descriptions count; the least cost of a way; all edges, all leaves, in order.
-/
namespace Go.Proofs.YtpfjgecdlilkcaaGreat

/-- a description by its words -/
def xV (v : VX) : Lsa := ⟨v.1, none, 0, v.2.1, none, 0, v.2.2⟩
def cntV (v : VX) : Bool := rightB (xV v) && (decide (v.1.age ≠ 60) && !(decide (v.1.kind = 2) && decide (v.1.id % 16 ≠ v.1.adv)))
theorem rightB_v (x : Lsa) : rightB (xV (vX x)) = rightB x := rfl
def hasV (C : List VX) (k : K3) : Bool := C.any fun y => decide (keyV y = k)
def addV (C : List VX) (v : VX) : List VX := if cntV v = true ∧ hasV C (keyV v) = false then C ++ [v] else C
def countsV (l : List VX) : List VX := l.foldl addV []
theorem countsV_snoc (l : List VX) (v : VX) : countsV (l ++ [v]) = addV (countsV l) v := by simp [countsV, List.foldl_append]
theorem countsV_take {l : List VX} {k : Nat} (hk : k < l.length) : countsV (l.take (k + 1)) = addV (countsV (l.take k)) l[k] := by
  rw [List.take_succ_eq_append_getElem hk, countsV_snoc]
theorem hasV_iff {C : List VX} {k : K3} : hasV C k = true ↔ ∃ y ∈ C, keyV y = k := by simp [hasV]
theorem hasV_not {C : List VX} {k : K3} : hasV C k = false ↔ ∀ y ∈ C, keyV y ≠ k := by
  rw [← Bool.not_eq_true, hasV_iff]; simp
/-- those that count, each key once -/
structure CntOk (C : List VX) : Prop where
  keys : (C.map keyV).Nodup
  each : ∀ v ∈ C, cntV v = true
theorem CntOk.nil : CntOk [] := ⟨List.Pairwise.nil, by simp⟩
theorem CntOk.add {C : List VX} (h : CntOk C) (v : VX) : CntOk (addV C v) := by
  unfold addV
  split
  · rename_i hc
    refine ⟨?_, fun y hy => ?_⟩
    · rw [List.map_append, List.map_singleton, List.nodup_append]
      refine ⟨h.keys, by simp, fun a ha b hb => ?_⟩
      obtain ⟨y, hy, rfl⟩ := List.mem_map.1 ha
      rw [List.mem_singleton] at hb
      rw [hb]
      exact hasV_not.1 hc.2 y hy
    · rcases List.mem_append.1 hy with hy | hy
      · exact h.each y hy
      · rw [List.mem_singleton] at hy
        rw [hy]
        exact hc.1
  · exact h
theorem foldl_ok : ∀ (l : List VX) {C : List VX}, CntOk C → CntOk (l.foldl addV C)
  | [], _, h => h
  | v :: l, _, h => foldl_ok l (h.add v)
theorem countsV_ok (l : List VX) : CntOk (countsV l) := foldl_ok l CntOk.nil
theorem addV_len (C : List VX) (v : VX) : (addV C v).length ≤ C.length + 1 := by
  unfold addV
  split <;> simp
theorem foldl_len : ∀ (l : List VX) (C : List VX), (l.foldl addV C).length ≤ C.length + l.length
  | [], _ => Nat.le_refl _
  | v :: l, C => by
    have h1 := foldl_len l (addV C v)
    have h2 := addV_len C v
    simp only [List.foldl_cons, List.length_cons]
    omega
theorem countsV_len (l : List VX) : (countsV l).length ≤ l.length := by simpa [countsV] using foldl_len l []

theorem memC_range : ∀ {l : List Int} {last : Int}, memC last l = true → ∀ m ∈ l, last < m ∧ m ≤ 15
  | [], _, _, _, h => absurd h (by simp)
  | x :: l, last, h, m, hm => by
    rw [memC, Bool.and_eq_true, inB_iff] at h
    rcases List.mem_cons.1 hm with rfl | hm
    · omega
    · have := memC_range h.2 m hm
      omega
/-- what one that counts is -/
theorem cnt_cases {v : VX} (h : cntV v = true) : (1 ≤ v.1.adv ∧ v.1.adv ≤ 15) ∧ v.1.age ≠ 60 ∧
    ((v.1.kind = 1 ∧ v.1.id = v.1.adv ∧ v.2.2 = [] ∧ linksB v.2.1 = true) ∨ (v.1.kind = 2 ∧ (0 ≤ v.1.id ∧ v.1.id ≤ 63) ∧ v.1.id % 16 = v.1.adv ∧ v.2.1 = [] ∧ membersB v.2.2 = true)) := by
  unfold cntV rightB headB xV at h
  simp only [Bool.and_eq_true, inB_iff, decide_eq_true_eq] at h
  obtain ⟨⟨⟨⟨⟨-, hk⟩, ha⟩, -⟩, hr⟩, h60, hn⟩ := h
  refine ⟨ha, h60, ?_⟩
  by_cases h1 : v.1.kind = 1
  · rw [if_pos h1] at hr
    simp only [Bool.and_eq_true, decide_eq_true_eq] at hr
    exact .inl ⟨h1, hr.1.1, List.eq_nil_of_length_eq_zero hr.1.2, hr.2⟩
  · rw [if_neg h1] at hr
    simp only [Bool.and_eq_true, decide_eq_true_eq, inB_iff] at hr
    have h2 : v.1.kind = 2 := by omega
    refine .inr ⟨h2, hr.1.1, ?_, List.eq_nil_of_length_eq_zero hr.1.2, hr.2⟩
    simpa [h2] using hn
theorem link_of {l : List Lnk} (h : linksB l = true) {y : Lnk} (hy : y ∈ l) : (y.kind = 2 ∨ y.kind = 3) ∧ (0 ≤ y.id ∧ y.id ≤ 63) ∧ (1 ≤ y.cost ∧ y.cost ≤ 100) := by
  unfold linksB at h
  rw [Bool.and_eq_true, List.all_eq_true] at h
  have := h.1 y hy
  unfold linkB at this
  simp only [Bool.and_eq_true, inB_iff] at this
  omega
theorem members_of {l : List Int} (h : membersB l = true) {m : Int} (hm : m ∈ l) : 1 ≤ m ∧ m ≤ 15 := by
  unfold membersB at h
  rw [Bool.and_eq_true] at h
  have := memC_range h.1 m hm
  omega
theorem cnt_links {v : VX} (h : cntV v = true) {y : Lnk} (hy : y ∈ v.2.1) : v.1.kind = 1 ∧ (y.kind = 2 ∨ y.kind = 3) ∧ (0 ≤ y.id ∧ y.id ≤ 63) ∧ (1 ≤ y.cost ∧ y.cost ≤ 100) := by
  rcases (cnt_cases h).2.2 with ⟨h1, -, -, h4⟩ | ⟨-, -, -, h4, -⟩
  · exact ⟨h1, link_of h4 hy⟩
  · rw [h4] at hy
    cases hy

/-- is it the network's? -/
def isNet (n : Int) (v : VX) : Bool := decide (v.1.kind = 2) && decide (v.1.id = n)
def memV (C : List VX) (n : Int) : List Int := ((C.find? (isNet n)).map fun v => v.2.2).getD []
theorem net_one {C : List VX} (h : CntOk C) {x y : VX} {n : Int} (hx : x ∈ C) (hy : y ∈ C) (hx2 : isNet n x = true) (hy2 : isNet n y = true) : x = y := by
  have hk : keyV x = keyV y := by
    unfold isNet at hx2 hy2
    simp only [Bool.and_eq_true, decide_eq_true_eq] at hx2 hy2
    have e1 : x.1.id % 16 = x.1.adv := by
      rcases (cnt_cases (h.each x hx)).2.2 with ⟨g, -⟩ | ⟨-, -, g, -⟩
      · omega
      · exact g
    have e2 : y.1.id % 16 = y.1.adv := by
      rcases (cnt_cases (h.each y hy)).2.2 with ⟨g, -⟩ | ⟨-, -, g, -⟩
      · omega
      · exact g
    unfold keyV keyH
    rw [hx2.1, hy2.1, hx2.2, hy2.2, ← e1, ← e2, hx2.2, hy2.2]
  have hn := h.keys
  clear h hx2 hy2
  induction C with
  | nil => cases hx
  | cons z C ih =>
    rw [List.map_cons, List.nodup_cons] at hn
    rcases List.mem_cons.1 hx with e1 | g1 <;> rcases List.mem_cons.1 hy with e2 | g2
    · rw [e1, e2]
    · exact absurd (List.mem_map.2 ⟨y, g2, by rw [← hk, e1]⟩) hn.1
    · exact absurd (List.mem_map.2 ⟨x, g1, by rw [hk, e2]⟩) hn.1
    · exact ih g1 g2 hn.2
theorem mem_memV {C : List VX} (h : CntOk C) {n r : Int} : r ∈ memV C n ↔ ∃ z ∈ C, isNet n z = true ∧ r ∈ z.2.2 := by
  unfold memV
  constructor
  · intro hr
    cases hf : C.find? (isNet n) with
    | none => rw [hf] at hr; cases hr
    | some z =>
      rw [hf] at hr
      exact ⟨z, List.mem_of_find?_eq_some hf, List.find?_some hf, hr⟩
  · rintro ⟨z, hz, hn, hr⟩
    cases hf : C.find? (isNet n) with
    | none =>
      have := List.find?_eq_none.1 hf z hz
      exact absurd hn this
    | some z' =>
      have := net_one h hz (List.mem_of_find?_eq_some hf) hn (List.find?_some hf)
      subst this
      exact hr

/-- the least of them -/
def minO : Option Int → Int → Option Int
  | none, c => some c
  | some b, c => if c < b then some c else some b
def bestL (l : List Int) : Option Int := l.foldl minO none
theorem bestL_snoc (l : List Int) (c : Int) : bestL (l ++ [c]) = minO (bestL l) c := by simp [bestL, List.foldl_append]
theorem best_fold : ∀ (l : List Int) (b : Int), ∃ m, l.foldl minO (some b) = some m ∧ (m = b ∨ m ∈ l) ∧ m ≤ b ∧ ∀ c ∈ l, m ≤ c
  | [], b => ⟨b, rfl, .inl rfl, Int.le_refl _, by simp⟩
  | c :: l, b => by
    rw [List.foldl_cons]
    unfold minO
    simp only
    split
    · rename_i hc
      obtain ⟨m, h1, h2, h3, h4⟩ := best_fold l c
      refine ⟨m, h1, ?_, by omega, fun d hd => ?_⟩
      · rcases h2 with rfl | h2
        · exact .inr (by simp)
        · exact .inr (by simp [h2])
      · rcases List.mem_cons.1 hd with rfl | hd
        · exact h3
        · exact h4 d hd
    · rename_i hc
      obtain ⟨m, h1, h2, h3, h4⟩ := best_fold l b
      refine ⟨m, h1, ?_, h3, fun d hd => ?_⟩
      · rcases h2 with rfl | h2
        · exact .inl rfl
        · exact .inr (by simp [h2])
      · rcases List.mem_cons.1 hd with rfl | hd
        · omega
        · exact h4 d hd
theorem bestL_some {l : List Int} {m : Int} : bestL l = some m ↔ m ∈ l ∧ ∀ c ∈ l, m ≤ c := by
  cases l with
  | nil => simp [bestL]
  | cons a l =>
    obtain ⟨m', h1, h2, h3, h4⟩ := best_fold l a
    have e : bestL (a :: l) = some m' := h1
    have hm' : m' ∈ a :: l ∧ ∀ c ∈ a :: l, m' ≤ c := by
      refine ⟨by rcases h2 with rfl | h2 <;> simp [*], fun c hc => ?_⟩
      rcases List.mem_cons.1 hc with rfl | hc
      · exact h3
      · exact h4 c hc
    rw [e]
    constructor
    · intro h
      injection h with h
      rw [← h]
      exact hm'
    · rintro ⟨g1, g2⟩
      have a1 := g2 m' hm'.1
      have a2 := hm'.2 m g1
      rw [show m' = m by omega]
theorem bestL_none {l : List Int} : bestL l = none ↔ l = [] := by
  cases l with
  | nil => simp [bestL]
  | cons a l =>
    obtain ⟨m', h1, -⟩ := best_fold l a
    have e : bestL (a :: l) = some m' := h1
    simp [e]
theorem bestL_ext {l l' : List Int} (h : ∀ c, c ∈ l ↔ c ∈ l') : bestL l = bestL l' := by
  cases hb : bestL l with
  | none =>
    rw [bestL_none] at hb
    subst hb
    symm
    rw [bestL_none]
    cases l' with
    | nil => rfl
    | cons a l' => exact absurd ((h a).2 (by simp)) (by simp)
  | some m =>
    symm
    rw [bestL_some] at hb ⊢
    exact ⟨(h m).1 hb.1, fun c hc => hb.2 c ((h c).2 hc)⟩
/-- of costs of pairs those of one -/
def pick (r n : Int) (l : List (Int × Int × Int)) : List Int := l.filterMap fun c => if c.1 = r ∧ c.2.1 = n then some c.2.2 else none
theorem mem_pick {r n c : Int} {l : List (Int × Int × Int)} : c ∈ pick r n l ↔ (r, n, c) ∈ l := by
  unfold pick
  rw [List.mem_filterMap]
  constructor
  · rintro ⟨⟨a, b, d⟩, hm, he⟩
    simp only at he
    split at he
    · rename_i h
      obtain ⟨rfl, rfl⟩ := h
      injection he with he
      subst he
      exact hm
    · cases he
  · intro hm
    exact ⟨_, hm, by simp⟩
theorem pick_snoc (r n a b c : Int) (l : List (Int × Int × Int)) : pick r n (l ++ [(a, b, c)]) = if a = r ∧ b = n then pick r n l ++ [c] else pick r n l := by
  unfold pick
  rw [List.filterMap_append]
  by_cases h : a = r ∧ b = n <;> simp [h]

/-- a router's links that lead to a network that knows of it -/
def candL (C : List VX) (x : VX) (ys : List Lnk) : List (Int × Int × Int) := ys.filterMap fun y => if y.kind = 2 ∧ x.1.adv ∈ memV C y.id then some (x.1.adv, y.id, y.cost) else none
def candC (C T : List VX) : List (Int × Int × Int) := T.flatMap fun x => candL C x x.2.1
def costC (C : List VX) (r n : Int) : Option Int := bestL (pick r n (candC C C))
def CandP (C : List VX) (r n c : Int) : Prop := ∃ x ∈ C, ∃ z ∈ C, ∃ y ∈ x.2.1, x.1.adv = r ∧ y.kind = 2 ∧ y.id = n ∧ y.cost = c ∧ isNet n z = true ∧ r ∈ z.2.2
theorem mem_cand {C : List VX} (h : CntOk C) {r n c : Int} : c ∈ pick r n (candC C C) ↔ CandP C r n c := by
  rw [mem_pick]
  unfold candC candL
  rw [List.mem_flatMap]
  constructor
  · rintro ⟨x, hx, hm⟩
    rw [List.mem_filterMap] at hm
    obtain ⟨y, hy, he⟩ := hm
    split at he
    · rename_i hc
      injection he with he
      injection he with e1 he
      injection he with e2 e3
      obtain ⟨z, hz, hn, hr⟩ := (mem_memV h).1 hc.2
      rw [e2] at hn
      rw [e1] at hr
      exact ⟨x, hx, z, hz, y, hy, e1, hc.1, e2, e3, hn, hr⟩
    · cases he
  · rintro ⟨x, hx, z, hz, y, hy, e1, e2, e3, e4, hn, hr⟩
    refine ⟨x, hx, ?_⟩
    rw [List.mem_filterMap]
    refine ⟨y, hy, ?_⟩
    have : x.1.adv ∈ memV C y.id := (mem_memV h).2 ⟨z, hz, by rw [e3]; exact hn, by rw [e1]; exact hr⟩
    rw [if_pos ⟨e2, this⟩, e1, e3, e4]
theorem cost_is {C : List VX} (h : CntOk C) {r n c : Int} (hc : costC C r n = some c) : CandP C r n c := (mem_cand h).1 (bestL_some.1 hc).1
theorem cost_ext {C C' : List VX} (h : CntOk C) (h' : CntOk C') {r n : Int} (he : ∀ c, CandP C r n c ↔ CandP C' r n c) : costC C r n = costC C' r n :=
  bestL_ext fun c => by rw [mem_cand h, mem_cand h', he]
theorem cand_bounds {C : List VX} (h : CntOk C) {r n c : Int} (hc : CandP C r n c) : (1 ≤ r ∧ r ≤ 15) ∧ (0 ≤ n ∧ n ≤ 63) ∧ (1 ≤ c ∧ c ≤ 100) := by
  obtain ⟨x, hx, z, hz, y, hy, e1, e2, e3, e4, -⟩ := hc
  have h1 := cnt_cases (h.each x hx)
  have h2 := cnt_links (h.each x hx) hy
  omega
/-- a router's links to a network of its own -/
def leafX (x : VX) (ys : List Lnk) : List (Int × Int × Int) := ys.filterMap fun y => if y.kind = 3 then some (x.1.adv, y.id / 16, y.cost) else none
def leafC (T : List VX) : List (Int × Int × Int) := T.flatMap fun x => leafX x x.2.1
def leafCost (C : List VX) (r n : Int) : Option Int := bestL (pick r n (leafC C))
def LeafP (C : List VX) (r n c : Int) : Prop := ∃ x ∈ C, ∃ y ∈ x.2.1, x.1.adv = r ∧ y.kind = 3 ∧ y.id / 16 = n ∧ y.cost = c
theorem mem_leaf {C : List VX} {r n c : Int} : c ∈ pick r n (leafC C) ↔ LeafP C r n c := by
  rw [mem_pick]
  unfold leafC leafX
  rw [List.mem_flatMap]
  constructor
  · rintro ⟨x, hx, hm⟩
    rw [List.mem_filterMap] at hm
    obtain ⟨y, hy, he⟩ := hm
    split at he
    · rename_i hc
      injection he with he
      injection he with e1 he
      injection he with e2 e3
      exact ⟨x, hx, y, hy, e1, hc, e2, e3⟩
    · cases he
  · rintro ⟨x, hx, y, hy, e1, e2, e3, e4⟩
    refine ⟨x, hx, ?_⟩
    rw [List.mem_filterMap]
    refine ⟨y, hy, ?_⟩
    rw [if_pos e2, e1, e3, e4]
theorem leaf_is {C : List VX} {r n c : Int} (hc : leafCost C r n = some c) : LeafP C r n c := mem_leaf.1 (bestL_some.1 hc).1
theorem leaf_ext {C C' : List VX} {r n : Int} (he : ∀ c, LeafP C r n c ↔ LeafP C' r n c) : leafCost C r n = leafCost C' r n :=
  bestL_ext fun c => by rw [mem_leaf, mem_leaf, he]
theorem leaf_bounds {C : List VX} (h : CntOk C) {r n c : Int} (hc : LeafP C r n c) : (1 ≤ r ∧ r ≤ 15) ∧ (0 ≤ n ∧ n ≤ 3) ∧ (1 ≤ c ∧ c ≤ 100) := by
  obtain ⟨x, hx, y, hy, e1, e2, e3, e4⟩ := hc
  have h1 := cnt_cases (h.each x hx)
  have h2 := cnt_links (h.each x hx) hy
  omega

/-- numbers from a on -/
def rng (a : Int) (n : Nat) : List Int := (List.range n).map fun i : Nat => a + (i : Int)
theorem mem_rng {a : Int} {n : Nat} {z : Int} : z ∈ rng a n ↔ a ≤ z ∧ z < a + n := by
  unfold rng
  rw [List.mem_map]
  constructor
  · rintro ⟨i, hi, rfl⟩
    have := List.mem_range.1 hi
    omega
  · rintro ⟨h1, h2⟩
    exact ⟨(z - a).toNat, List.mem_range.2 (by omega), by omega⟩
theorem rng_sorted (a : Int) (n : Nat) : (rng a n).Pairwise fun x y => x < y := by
  unfold rng
  rw [List.pairwise_map]
  exact List.pairwise_lt_range.imp fun h => by omega
def edgeA (f : Int → Int → Option Int) (r n : Int) : Option Ed := (f r n).map fun c => ⟨1, r, 2, n, c⟩
def edgeB (f : Int → Int → Option Int) (n r : Int) : Option Ed := (f r n).map fun _ => ⟨2, n, 1, r, 0⟩
def edgesC (f : Int → Int → Option Int) : List Ed := (rng 1 15).flatMap (fun r => (rng 0 64).filterMap (edgeA f r)) ++ (rng 0 64).flatMap (fun n => (rng 1 15).filterMap (edgeB f n))
def leafA (f : Int → Int → Option Int) (r n : Int) : Option Lf := (f r n).map fun c => ⟨r, n, c⟩
def leavesC (f : Int → Int → Option Int) : List Lf := (rng 1 15).flatMap fun r => (rng 0 4).filterMap (leafA f r)
theorem mem_edges {f : Int → Int → Option Int} {e : Ed} : e ∈ edgesC f ↔ ∃ r n c, (1 ≤ r ∧ r ≤ 15) ∧ (0 ≤ n ∧ n ≤ 63) ∧ f r n = some c ∧ (e = ⟨1, r, 2, n, c⟩ ∨ e = ⟨2, n, 1, r, 0⟩) := by
  unfold edgesC edgeA edgeB
  rw [List.mem_append, List.mem_flatMap, List.mem_flatMap]
  constructor
  · rintro (⟨r, hr, hm⟩ | ⟨n, hn, hm⟩)
    · rw [List.mem_filterMap] at hm
      obtain ⟨n, hn, he⟩ := hm
      rw [Option.map_eq_some_iff] at he
      obtain ⟨c, hc, rfl⟩ := he
      have h1 := mem_rng.1 hr
      have h2 := mem_rng.1 hn
      exact ⟨r, n, c, by omega, by omega, hc, .inl rfl⟩
    · rw [List.mem_filterMap] at hm
      obtain ⟨r, hr, he⟩ := hm
      rw [Option.map_eq_some_iff] at he
      obtain ⟨c, hc, rfl⟩ := he
      have h1 := mem_rng.1 hr
      have h2 := mem_rng.1 hn
      exact ⟨r, n, c, by omega, by omega, hc, .inr rfl⟩
  · rintro ⟨r, n, c, hr, hn, hc, rfl | rfl⟩
    · refine .inl ⟨r, mem_rng.2 (by omega), List.mem_filterMap.2 ⟨n, mem_rng.2 (by omega), by rw [hc]; rfl⟩⟩
    · refine .inr ⟨n, mem_rng.2 (by omega), List.mem_filterMap.2 ⟨r, mem_rng.2 (by omega), by rw [hc]; rfl⟩⟩
theorem mem_leaves {f : Int → Int → Option Int} {e : Lf} : e ∈ leavesC f ↔ ∃ r n c, (1 ≤ r ∧ r ≤ 15) ∧ (0 ≤ n ∧ n ≤ 3) ∧ f r n = some c ∧ e = ⟨r, n, c⟩ := by
  unfold leavesC leafA
  rw [List.mem_flatMap]
  constructor
  · rintro ⟨r, hr, hm⟩
    rw [List.mem_filterMap] at hm
    obtain ⟨n, hn, he⟩ := hm
    rw [Option.map_eq_some_iff] at he
    obtain ⟨c, hc, rfl⟩ := he
    have h1 := mem_rng.1 hr
    have h2 := mem_rng.1 hn
    exact ⟨r, n, c, by omega, by omega, hc, rfl⟩
  · rintro ⟨r, n, c, hr, hn, hc, rfl⟩
    exact ⟨r, mem_rng.2 (by omega), List.mem_filterMap.2 ⟨n, mem_rng.2 (by omega), by rw [hc]; rfl⟩⟩
theorem edgesC_sorted (f : Int → Int → Option Int) : (edgesC f).Pairwise ltE := by
  unfold edgesC
  rw [List.pairwise_append]
  refine ⟨?_, ?_, ?_⟩
  · rw [List.pairwise_flatMap]
    refine ⟨fun r _ => ?_, ?_⟩
    · rw [List.pairwise_filterMap]
      refine (rng_sorted 0 64).imp fun {n n'} hlt a ha b hb => ?_
      have hlt : n < n' := hlt
      simp only [edgeA, Option.map_eq_some_iff] at ha hb
      obtain ⟨c, -, rfl⟩ := ha
      obtain ⟨c', -, rfl⟩ := hb
      exact .inr ⟨rfl, .inr ⟨rfl, .inr ⟨rfl, hlt⟩⟩⟩
    · refine (rng_sorted 1 15).imp fun {r r'} hlt a ha b hb => ?_
      have hlt : r < r' := hlt
      rw [List.mem_filterMap] at ha hb
      obtain ⟨n, -, ha⟩ := ha
      obtain ⟨n', -, hb⟩ := hb
      simp only [edgeA, Option.map_eq_some_iff] at ha hb
      obtain ⟨c, -, rfl⟩ := ha
      obtain ⟨c', -, rfl⟩ := hb
      exact .inr ⟨rfl, .inl hlt⟩
  · rw [List.pairwise_flatMap]
    refine ⟨fun r _ => ?_, ?_⟩
    · rw [List.pairwise_filterMap]
      refine (rng_sorted 1 15).imp fun {n n'} hlt a ha b hb => ?_
      have hlt : n < n' := hlt
      simp only [edgeB, Option.map_eq_some_iff] at ha hb
      obtain ⟨c, -, rfl⟩ := ha
      obtain ⟨c', -, rfl⟩ := hb
      exact .inr ⟨rfl, .inr ⟨rfl, .inr ⟨rfl, hlt⟩⟩⟩
    · refine (rng_sorted 0 64).imp fun {r r'} hlt a ha b hb => ?_
      have hlt : r < r' := hlt
      rw [List.mem_filterMap] at ha hb
      obtain ⟨n, -, ha⟩ := ha
      obtain ⟨n', -, hb⟩ := hb
      simp only [edgeB, Option.map_eq_some_iff] at ha hb
      obtain ⟨c, -, rfl⟩ := ha
      obtain ⟨c', -, rfl⟩ := hb
      exact .inr ⟨rfl, .inl hlt⟩
  · intro a ha b hb
    rw [List.mem_flatMap] at ha hb
    obtain ⟨r, -, ha⟩ := ha
    obtain ⟨r', -, hb⟩ := hb
    rw [List.mem_filterMap] at ha hb
    obtain ⟨n, -, ha⟩ := ha
    obtain ⟨n', -, hb⟩ := hb
    simp only [edgeA, edgeB, Option.map_eq_some_iff] at ha hb
    obtain ⟨c, -, rfl⟩ := ha
    obtain ⟨c', -, rfl⟩ := hb
    exact .inl (show (1 : Int) < 2 by decide)
theorem leavesC_sorted (f : Int → Int → Option Int) : (leavesC f).Pairwise ltF := by
  unfold leavesC
  rw [List.pairwise_flatMap]
  refine ⟨fun r _ => ?_, ?_⟩
  · rw [List.pairwise_filterMap]
    refine (rng_sorted 0 4).imp fun {n n'} hlt a ha b hb => ?_
    have hlt : n < n' := hlt
    simp only [leafA, Option.map_eq_some_iff] at ha hb
    obtain ⟨c, -, rfl⟩ := ha
    obtain ⟨c', -, rfl⟩ := hb
    exact .inr ⟨rfl, hlt⟩
  · refine (rng_sorted 1 15).imp fun {r r'} hlt a ha b hb => ?_
    have hlt : r < r' := hlt
    rw [List.mem_filterMap] at ha hb
    obtain ⟨n, -, ha⟩ := ha
    obtain ⟨n', -, hb⟩ := hb
    simp only [leafA, Option.map_eq_some_iff] at ha hb
    obtain ⟨c, -, rfl⟩ := ha
    obtain ⟨c', -, rfl⟩ := hb
    exact .inl hlt
def edgesV (l : List VX) : List Ed := edgesC (costC (countsV l))
def leavesV (l : List VX) : List Lf := leavesC (leafCost (countsV l))

end Go.Proofs.YtpfjgecdlilkcaaGreat

/-
  Layer 21: the document's words of one vertex, one edge; where a vertex' row is.
-/
namespace Go.Proofs.YtpfjgecdlilkcaaGreat
open Go.RowKit

/-- a row of costs -/
def rcells (p : RowV) : List Value := [.int .i64 p.1.kind, .int .i64 p.1.id, .int .i64 p.2.c, .int .i64 p.2.h]
theorem onesRw (x : RowV) : ∀ u ∈ rcells x, u.oneCell' = true := by
  intro u hu
  simp [rcells] at hu
  rcases hu with rfl | rfl | rfl | rfl <;> rfl
theorem infoRw : (Tryz.prog.info? 127).map (fun i => (i.zero, i.size, i.bytes)) = some (some (.agg #[.int .i64 0, .int .i64 0, .int .i64 0, .int .i64 0]), 4, 32) := by kernel_rfl
theorem row_rw {w : World} {B : Nat} {A : Option Addr} {l : List RowV} (h : RowsAt 4 rcells w B A l) (k : Nat) (hk : k < l.length) :
    ∃ b o, A = some ⟨b, o, none⟩ ∧ b < B ∧ w.cell? ⟨b, o + k * 4, none⟩ = some (.int .i64 l[k].1.kind) ∧ w.cell? ⟨b, o + k * 4 + 1, none⟩ = some (.int .i64 l[k].1.id) ∧ w.cell? ⟨b, o + k * 4 + 2, none⟩ = some (.int .i64 l[k].2.c) ∧ w.cell? ⟨b, o + k * 4 + 3, none⟩ = some (.int .i64 l[k].2.h) := by
  obtain ⟨b, o, e, hb, hc⟩ := h (by omega)
  exact ⟨b, o, e, hb, by simpa using hc k hk 0 _ (by omega) rfl, hc k hk 1 _ (by omega) rfl, hc k hk 2 _ (by omega) rfl, hc k hk 3 _ (by omega) rfl⟩
set_option maxHeartbeats 2000000 in
set_option maxRecDepth 100000 in
theorem refMay_any (k i : Int) (w : World) {t : Bool} (ht : mayV ⟨k, i⟩ = t) : Calls Tryz.prog 49 #[.agg #[.int .i64 k, .int .i64 i]] w fun r w' => r = .returned (.bool t) ∧ Below w.heap.size w w' := by
  subst ht
  have Hb := Lib.hid ((Below.refl w.heap.size w).alloc (Nat.le_refl _) (.cells #[.int .i64 k, .int .i64 i] 61))
  have hk := Blk.new w 61 #[.int .i64 k, .int .i64 i]
  obtain ⟨w0, hW0⟩ : ∃ w0, w.alloc (.cells #[.int .i64 k, .int .i64 i] 61) = w0 := ⟨_, rfl⟩
  rw [hW0] at hk Hb
  obtain ⟨a0, a1, -, -⟩ := hk.cells2
  clear hk
  by_cases h1 : k = 1
  · subst h1
    by_cases h2 : 1 ≤ i
    · by_cases h3 : i ≤ 15
      · have Hr := Lib.hid (show mayV ⟨1, i⟩ = true by simp [mayV, h2, h3])
        go_enter Tryz.func49, Tryz.ntmps49
        go_wp2
        go_ret
        exact ⟨by rw [Hr.out]; rfl, Hb.out⟩
      · have Hr := Lib.hid (show mayV ⟨1, i⟩ = false by simp [mayV, h3])
        go_enter Tryz.func49, Tryz.ntmps49
        go_wp2
        go_ret
        exact ⟨by rw [Hr.out]; rfl, Hb.out⟩
    · have Hr := Lib.hid (show mayV ⟨1, i⟩ = false by simp [mayV, h2])
      go_enter Tryz.func49, Tryz.ntmps49
      go_wp2
      go_ret
      exact ⟨by rw [Hr.out]; rfl, Hb.out⟩
  · by_cases h2 : k = 2
    · subst h2
      by_cases h3 : 0 ≤ i
      · by_cases h4 : i ≤ 63
        · have Hr := Lib.hid (show mayV ⟨2, i⟩ = true by simp [mayV, h3, h4])
          go_enter Tryz.func49, Tryz.ntmps49
          go_wp2
          go_ret
          exact ⟨by rw [Hr.out]; rfl, Hb.out⟩
        · have Hr := Lib.hid (show mayV ⟨2, i⟩ = false by simp [mayV, h4])
          go_enter Tryz.func49, Tryz.ntmps49
          go_wp2
          go_ret
          exact ⟨by rw [Hr.out]; rfl, Hb.out⟩
      · have Hr := Lib.hid (show mayV ⟨2, i⟩ = false by simp [mayV, h3])
        go_enter Tryz.func49, Tryz.ntmps49
        go_wp2
        go_ret
        exact ⟨by rw [Hr.out]; rfl, Hb.out⟩
    · have Hr := Lib.hid (show mayV ⟨k, i⟩ = false by simp [mayV, h1, h2])
      go_enter Tryz.func49, Tryz.ntmps49
      go_wp2
      go_ret
      exact ⟨by rw [Hr.out]; rfl, Hb.out⟩
set_option maxHeartbeats 4000000 in
set_option maxRecDepth 100000 in
theorem refCnt_any (e1 e2 e3 e4 e5 : Int) (w : World) {t : Bool} (ht : cntE ⟨e1, e2, e3, e4, e5⟩ = t) : Calls Tryz.prog 51 #[.agg #[.int .i64 e1, .int .i64 e2, .int .i64 e3, .int .i64 e4, .int .i64 e5]] w fun r w' => r = .returned (.bool t) ∧ Below w.heap.size w w' := by
  subst ht
  have Hb := Lib.hid ((Below.refl w.heap.size w).alloc (Nat.le_refl _) (.cells #[.int .i64 e1, .int .i64 e2, .int .i64 e3, .int .i64 e4, .int .i64 e5] 96))
  have hk := Blk.new w 96 #[.int .i64 e1, .int .i64 e2, .int .i64 e3, .int .i64 e4, .int .i64 e5]
  obtain ⟨w0, hW0⟩ : ∃ w0, w.alloc (.cells #[.int .i64 e1, .int .i64 e2, .int .i64 e3, .int .i64 e4, .int .i64 e5] 96) = w0 := ⟨_, rfl⟩
  rw [hW0] at hk Hb
  have HK := Lib.hid hk
  obtain ⟨a0, a1, a2, a3, a4, -⟩ := hk.cells5
  clear hk
  obtain ⟨m1, hm1⟩ : ∃ m, mayV ⟨e1, e2⟩ = m := ⟨_, rfl⟩
  obtain ⟨m2, hm2⟩ : ∃ m, mayV ⟨e3, e4⟩ = m := ⟨_, rfl⟩
  have HM1 := Lib.hid (fun W => refMay_any e1 e2 W hm1)
  have HM2 := Lib.hid (fun W => refMay_any e3 e4 W hm2)
  have Hc := Lib.hid (show cntE ⟨e1, e2, e3, e4, e5⟩ = (m1 && m2 && ((decide (e1 = 1) && decide (e3 = 2) && decide (1 ≤ e5 ∧ e5 ≤ 100)) || (decide (e1 = 2) && decide (e3 = 1) && decide (e5 = 0)))) by rw [← hm1, ← hm2]; rfl)
  clear hm1 hm2
  go_enter Tryz.func51, Tryz.ntmps51
  go_wp2_with fail
  with_reducible refine Calls.mono (HM1.out _) ?_
  rintro r w1 ⟨rfl, hb1⟩
  have HB1 := Lib.hid (below_trans Hb.out Hb.out.size hb1)
  have HK1 := Lib.hid (HK.out.below hb1 HK.out.lt)
  clear a0 a1 a2 a3 a4 hb1
  obtain ⟨a0, a1, a2, a3, a4, -⟩ := HK1.out.cells5
  cases m1 with
  | false =>
    go_wp2
    go_ret
    exact ⟨by rw [Hc.out]; rfl, HB1.out⟩
  | true =>
    go_wp2_with fail
    with_reducible refine Calls.mono (HM2.out _) ?_
    rintro r w2 ⟨rfl, hb2⟩
    have HB2 := Lib.hid (below_trans HB1.out HB1.out.size hb2)
    have HK2 := Lib.hid (HK1.out.below hb2 HK1.out.lt)
    clear a0 a1 a2 a3 a4 hb2
    obtain ⟨a0, a1, a2, a3, a4, -⟩ := HK2.out.cells5
    cases m2 with
    | false =>
      go_wp2
      go_ret
      exact ⟨by rw [Hc.out]; rfl, HB2.out⟩
    | true =>
      by_cases h1 : e1 = 1
      · subst h1
        by_cases h2 : e3 = 2
        · subst h2
          by_cases h3 : 1 ≤ e5
          · by_cases h4 : e5 ≤ 100
            · have Hr := Lib.hid (Hc.out.trans (c := true) (by simp [h3, h4]))
              go_wp2
              go_ret
              exact ⟨by rw [Hr.out]; rfl, HB2.out⟩
            · have Hr := Lib.hid (Hc.out.trans (c := false) (by simp [h4]))
              have hd4 : decide (e5 ≤ 100) = false := by simp [h4]
              go_wp2
              go_ret
              exact ⟨by rw [Hr.out]; rfl, HB2.out⟩
          · have Hr := Lib.hid (Hc.out.trans (c := false) (by simp [h3]))
            go_wp2
            go_ret
            exact ⟨by rw [Hr.out]; rfl, HB2.out⟩
        · have Hr := Lib.hid (Hc.out.trans (c := false) (by simp [h2]))
          go_wp2
          go_ret
          exact ⟨by rw [Hr.out]; rfl, HB2.out⟩
      · by_cases h2 : e1 = 2
        · subst h2
          by_cases h3 : e3 = 1
          · subst h3
            by_cases h4 : e5 = 0
            · subst h4
              have Hr := Lib.hid (Hc.out.trans (c := true) (by simp))
              go_wp2
              go_ret
              exact ⟨by rw [Hr.out]; rfl, HB2.out⟩
            · have Hr := Lib.hid (Hc.out.trans (c := false) (by simp [h4]))
              have hd4 : (e5 == 0) = false := by simp [h4]
              go_wp2
              go_ret
              exact ⟨by rw [Hr.out]; rfl, HB2.out⟩
          · have Hr := Lib.hid (Hc.out.trans (c := false) (by simp [h3]))
            go_wp2
            go_ret
            exact ⟨by rw [Hr.out]; rfl, HB2.out⟩
        · have Hr := Lib.hid (Hc.out.trans (c := false) (by simp [h1, h2]))
          go_wp2
          go_ret
          exact ⟨by rw [Hr.out]; rfl, HB2.out⟩
/-- where a vertex' row is; -1: there is none -/
def fixV (L : List RowV) (v : Vx) : Int := if ixV v L < L.length then (ixV v L : Int) else -1
theorem ix_take {L : List RowV} {v : Vx} {k : Nat} (hk : k ≤ L.length) (h : ∀ p ∈ L.take k, p.1 ≠ v) : k ≤ ixV v L := by
  unfold ixV
  rcases Nat.lt_or_ge (L.findIdx fun p => decide (p.1 = v)) k with hlt | hge
  · exfalso
    have h1 : L.findIdx (fun p => decide (p.1 = v)) < L.length := by omega
    have h2 := List.findIdx_getElem (p := fun p : RowV => decide (p.1 = v)) (xs := L) (w := h1)
    rw [decide_eq_true_eq] at h2
    refine h _ ?_ h2
    rw [List.mem_take_iff_getElem]
    exact ⟨_, by omega, rfl⟩
  · exact hge
theorem ix_at {L : List RowV} {v : Vx} {k : Nat} (hk : k < L.length) (h : ∀ p ∈ L.take k, p.1 ≠ v) (he : L[k].1 = v) : fixV L v = k := by
  have h1 := ix_take (by omega) h
  have h2 : ixV v L = k := by
    unfold ixV at h1 ⊢
    rcases Nat.lt_or_ge k (L.findIdx fun p => decide (p.1 = v)) with hlt | hge
    · have := List.not_of_lt_findIdx hlt
      simp [he] at this
    · omega
  unfold fixV
  rw [h2, if_pos hk]
theorem ix_not {L : List RowV} {v : Vx} (h : ∀ p ∈ L, p.1 ≠ v) : fixV L v = -1 := by
  have h1 := ix_take (Nat.le_refl _) (by rw [List.take_length]; exact h)
  unfold fixV
  rw [if_neg (by omega)]
theorem notin_more {L : List RowV} {v : Vx} {k : Nat} (hk : k < L.length) (h : ∀ p ∈ L.take k, p.1 ≠ v) (he : L[k].1 ≠ v) : ∀ p ∈ L.take (k + 1), p.1 ≠ v := by
  intro p hp
  rw [List.take_succ_eq_append_getElem hk, List.mem_append, List.mem_singleton] at hp
  rcases hp with hp | rfl
  · exact h p hp
  · exact he
set_option maxHeartbeats 2000000 in
set_option maxRecDepth 100000 in
theorem refFind_any (A : Option Addr) (c : Nat) (L : List RowV) (k1 k2 : Int) (w : World) (hL : RowsAt 4 rcells w w.heap.size A L) (hlen : L.length ≤ 2 ^ 20) (n : Nat) (hn : n = L.length) {z : Int} (hz : fixV L ⟨k1, k2⟩ = z) :
    Calls Tryz.prog 52 #[.slice A n c, .agg #[.int .i64 k1, .int .i64 k2]] w fun r w' => r = .returned (.int .i64 z) ∧ Below w.heap.size w w' := by
  subst hn
  have HL := Lib.hid (hL.below ((Below.refl w.heap.size w).alloc (Nat.le_refl _) (.cells #[.int .i64 k1, .int .i64 k2] 61)))
  have Hk := Lib.hid (Blk.new w 61 #[.int .i64 k1, .int .i64 k2])
  have Hb0 := Lib.hid ((Below.refl w.heap.size w).alloc (Nat.le_refl _) (.cells #[.int .i64 k1, .int .i64 k2] 61))
  have Hz := Lib.hid hz
  have hk0 := Hk.out.lt
  clear hL hz
  obtain ⟨w0, hW0⟩ : ∃ w0, w.alloc (.cells #[.int .i64 k1, .int .i64 k2] 61) = w0 := ⟨_, rfl⟩
  rw [hW0] at HL Hk Hb0 hk0
  go_enter Tryz.func52, Tryz.ntmps52
  go_wp2
  go_loopw [5] (fun i wr => ∃ k : Nat, i = .int .i64 k ∧ k ≤ L.length ∧ (∀ p ∈ L.take k, p.1 ≠ ⟨k1, k2⟩) ∧ Below w0.heap.size w0 wr) (fun i _ => L.length - (intOf i).toNat)
  case atStart => exact ⟨0, rfl, Nat.zero_le _, by simp, Below.refl _ _⟩
  case round =>
    obtain ⟨k, rfl, hk, h0, hb⟩ := hrel
    have hLr := (HL.out.more Hb0.out.size).below hb
    have hkr := Hk.out.below hb hk0
    obtain ⟨y0, y1, -, -⟩ := hkr.cells2
    have H0 := Lib.hid h0
    have Hb := Lib.hid hb
    by_cases hlt : k < L.length
    · obtain ⟨g, o, rfl, -, z0, z1, z2, z3⟩ := row_rw hLr k hlt
      have hkl : (k : Int) < (L.length : Int) := by omega
      have Hat := Lib.hid (fun he => ix_at hlt h0 (v := ⟨k1, k2⟩) he)
      have Hmore := Lib.hid (fun he => notin_more hlt h0 (v := ⟨k1, k2⟩) he)
      clear hLr hkr h0 hb
      generalize L[k] = e at *
      obtain ⟨⟨e1, e2⟩, ⟨e3, e4⟩⟩ := e
      simp only at z0 z1 z2 z3
      have heq := fun w => eqVxN e1 e2 k1 k2 w
      by_cases he : (⟨e1, e2⟩ : Vx) = ⟨k1, k2⟩
      · have Hz2 := Lib.hid ((Hz.out.symm.trans (Hat.out he)))
        rw [decide_eq_true he] at heq
        clear he
        go_wp2
        go_quiet (fail)
        go_wp2
        go_ret
        exact ⟨by rw [Hz2.out]; rfl, below_drewN (Hb0.out.trans (Hb.out.mono Hb0.out.size)) _⟩
      · have Hmore2 := Lib.hid (Hmore.out he)
        rw [decide_eq_false he] at heq
        clear he
        go_wp2
        go_quiet (fail)
        go_wp2
        go_roundw
        case measure => simp [intOf]; omega
        case rel => exact ⟨k + 1, by go_num, hlt, Hmore2.out, below_drewN Hb.out _⟩
    · have hkk : k = L.length := by omega
      subst hkk
      have Hz2 := Lib.hid (Hz.out.symm.trans (ix_not (by rw [List.take_length] at h0; exact h0)))
      clear hLr hkr h0 hb
      go_wp2
      go_ret
      exact ⟨by rw [Hz2.out]; rfl, Hb0.out.trans (Hb.out.mono Hb0.out.size)⟩

end Go.Proofs.YtpfjgecdlilkcaaGreat

/-
  Layer 21: rows of costs: how large they get; what one edge does, case by case; stored in a row that the call made itself.
-/
namespace Go.Proofs.YtpfjgecdlilkcaaGreat
open Go.RowKit

def BndR (x : Nat) (L : List RowV) : Prop := ∀ p ∈ L, p.2.c ≤ 100 * x ∧ p.2.h ≤ x
theorem fix_some {L : List RowV} {v : Vx} {a : Val2} (h : getR L v = some a) : ∃ k : Nat, ∃ hk : k < L.length, fixV L v = k ∧ ixV v L = k ∧ L[k] = (v, a) := by
  obtain ⟨hi, e⟩ := ix_lt h
  exact ⟨_, hi, by unfold fixV; rw [if_pos hi], rfl, e⟩
theorem fix_none {L : List RowV} {v : Vx} (h : getR L v = none) : fixV L v = -1 := ix_not (get_none.1 h)
theorem relax_off {L : List RowV} {e : Ed} (h : cntE e = false) : relax L e = L := by unfold relax; rw [h]; rfl
theorem relax_out {L : List RowV} {e : Ed} (h : getR L e.src = none) : relax L e = L := by unfold relax; rw [h]; simp
theorem relax_new {L : List RowV} {e : Ed} {a : Val2} (hc : cntE e = true) (h : getR L e.src = some a) (hd : getR L e.dst = none) : relax L e = L ++ [(e.dst, stepV a e)] := by unfold relax; rw [if_pos hc, h]; simp only; rw [hd]
theorem relax_old {L : List RowV} {e : Ed} {a b : Val2} (hc : cntE e = true) (h : getR L e.src = some a) (hd : getR L e.dst = some b) : relax L e = if lessV (stepV a e) b = true then L.set (ixV e.dst L) (e.dst, stepV a e) else L := by unfold relax; rw [if_pos hc, h]; simp only; rw [hd]
theorem cost_le {e : Ed} (h : cntE e = true) : e.cost.toNat ≤ 100 ∧ (0 ≤ e.cost ∧ e.cost ≤ 100) ∧ hopN e ≤ 1 := by
  obtain ⟨-, -, h⟩ := cntE_iff.1 h
  unfold hopN
  refine ⟨by omega, by omega, ?_⟩
  split <;> omega
theorem BndR.relax {x : Nat} {L : List RowV} (h : BndR x L) (e : Ed) : BndR (x + 1) (relax L e) := by
  have hw : ∀ p ∈ L, p.2.c ≤ 100 * (x + 1) ∧ p.2.h ≤ x + 1 := fun p hp => by have := h p hp; omega
  cases hc : cntE e with
  | false => rw [relax_off hc]; exact hw
  | true =>
    cases h1 : getR L e.src with
    | none => rw [relax_out h1]; exact hw
    | some a =>
      obtain ⟨k, hk, -, -, ha⟩ := fix_some h1
      have hm : (e.src, a) ∈ L := by rw [← ha]; exact List.getElem_mem hk
      have hb := h _ hm
      have hl := cost_le hc
      have hs : (stepV a e).c ≤ 100 * (x + 1) ∧ (stepV a e).h ≤ x + 1 := by
        unfold stepV
        simp only at hb ⊢
        omega
      cases h2 : getR L e.dst with
      | none =>
        rw [relax_new hc h1 h2]
        intro p hp
        rcases List.mem_append.1 hp with hp | hp
        · exact hw p hp
        · rw [List.mem_singleton] at hp
          rw [hp]
          exact hs
      | some b =>
        rw [relax_old hc h1 h2]
        split
        · intro p hp
          rcases List.mem_or_eq_of_mem_set hp with hp | hp
          · exact hw p hp
          · rw [hp]
            exact hs
        · exact hw
theorem BndR.round : ∀ (T : List Ed) {x : Nat} {L : List RowV}, BndR x L → BndR (x + T.length) (roundR T L)
  | [], _, _, h => h
  | e :: T, x, _, h => by
    have := BndR.round T (h.relax e)
    rw [List.length_cons, show x + (T.length + 1) = x + 1 + T.length by omega]
    exact this
theorem BndR.iter (E : List Ed) : ∀ (k : Nat) {x : Nat} {L : List RowV}, BndR x L → BndR (x + k * E.length) (iterR E k L)
  | 0, _, _, h => by rw [Nat.zero_mul]; exact h
  | k + 1, x, _, h => by
    have := BndR.iter E k (h.round E)
    rw [Nat.add_mul, Nat.one_mul, show x + (k * E.length + E.length) = x + E.length + k * E.length by omega]
    exact this
/-- what the rows are when the rounds so far are done, and so many edges of the next one -/
def rowsV (E : List Ed) (r : Vx) (k i : Nat) : List RowV := roundR (E.take i) (iterR E k [(r, ⟨0, 0⟩)])
theorem rowsV_zero (E : List Ed) (r : Vx) (k : Nat) : rowsV E r k 0 = iterR E k [(r, ⟨0, 0⟩)] := rfl
theorem rowsV_last (E : List Ed) (r : Vx) (k : Nat) : rowsV E r k E.length = iterR E (k + 1) [(r, ⟨0, 0⟩)] := by
  unfold rowsV
  rw [List.take_length, iterR_succ]
theorem rowsV_next (E : List Ed) (r : Vx) (k : Nat) {i : Nat} (hi : i < E.length) : rowsV E r k (i + 1) = relax (rowsV E r k i) E[i] := relax_snoc E hi _
theorem rowsV_ok {E : List Ed} {r : Vx} (hr : mayV r = true) (k i : Nat) : (rowsV E r k i).length ≤ 79 :=
  (((RowsOk.start E hr).iter k).round (E.take i)).len (E := E) (r := r)
theorem rowsV_small {E : List Ed} {r : Vx} {k i : Nat} (hk : k ≤ 200) (hi : i ≤ E.length) (hE : E.length ≤ 4000) : ∀ p ∈ rowsV E r k i, p.2.c ≤ 100000000 ∧ p.2.h ≤ 1000000 := by
  have h0 : BndR 0 [(r, (⟨0, 0⟩ : Val2))] := fun p hp => by
    rw [List.mem_singleton] at hp
    rw [hp]
    simp
  have h1 := (h0.iter E k).round (E.take i)
  intro p hp
  have := h1 p hp
  have h2 : k * E.length ≤ 200 * 4000 := Nat.mul_le_mul hk hE
  have h3 : (E.take i).length ≤ 4000 := by rw [List.length_take]; omega
  omega
theorem rowsV_stop {E : List Ed} {r : Vx} {k : Nat} (hk : k ≤ 200) (h : rowsV E r k E.length = iterR E k [(r, ⟨0, 0⟩)]) : iterR E 200 [(r, ⟨0, 0⟩)] = rowsV E r k E.length := by
  rw [h]
  refine iterR_stop hk ?_
  rw [rowsV_last, iterR_succ] at h
  exact h

theorem set_flatRw (l : List RowV) (k : Nat) (c : RowV) (hk : k < l.length) :
    (l.set k c).flatMap rcells = ((((l.flatMap rcells).set (k * 4) (.int .i64 c.1.kind)).set (k * 4 + 1) (.int .i64 c.1.id)).set (k * 4 + 2) (.int .i64 c.2.c)).set (k * 4 + 3) (.int .i64 c.2.h) := by
  induction l generalizing k with
  | nil => simp at hk
  | cons d l ih =>
    cases k with
    | zero => simp [rcells]
    | succ k =>
      have h := ih k (by simpa using hk)
      simp only [List.set_cons_succ, List.flatMap_cons, h]
      have h4 : (rcells d).length = 4 := rfl
      rw [List.set_append_right _ _ (by omega), List.set_append_right _ _ (by omega), List.set_append_right _ _ (by omega), List.set_append_right _ _ (by omega)]
      simp only [h4, show (k + 1) * 4 - 4 = k * 4 by omega, show (k + 1) * 4 + 1 - 4 = k * 4 + 1 by omega, show (k + 1) * 4 + 2 - 4 = k * 4 + 2 by omega, show (k + 1) * 4 + 3 - 4 = k * 4 + 3 by omega]
abbrev OwnRw (w : World) (B : Nat) (v : Value) (l : List RowV) : Prop := OwnR 127 4 rcells w B v l
section
variable {w : World} {B g cap n : Nat} {l : List RowV}
theorem OwnRw.set4 (h : OwnRw w B (.slice (some ⟨g, 0, none⟩) n cap) l) (hn : n = l.length) (k : Nat) (hk : k < l.length) (c : RowV) :
    OwnRw ((((w.setCell ⟨g, k * 4, none⟩ (.int .i64 c.1.kind)).setCell ⟨g, k * 4 + 1, none⟩ (.int .i64 c.1.id)).setCell ⟨g, k * 4 + 2, none⟩ (.int .i64 c.2.c)).setCell ⟨g, k * 4 + 3, none⟩ (.int .i64 c.2.h)) B (.slice (some ⟨g, 0, none⟩) n cap) (l.set k c) := by
  subst hn
  unfold OwnRw OwnR
  rw [set_flatRw l k c hk, List.length_set]
  exact ((((World.ownsRow.stored h (k * 4) (.int .i64 c.1.kind)).1.stored (k * 4 + 1) (.int .i64 c.1.id)).1.stored (k * 4 + 2) (.int .i64 c.2.c)).1.stored (k * 4 + 3) (.int .i64 c.2.h)).1
end
theorem Blk.set4s {w : World} {g : Nat} {t : TypeId} {a b c d : Value} (h : Blk w g t #[a, b, c, d]) (a' b' c' d' : Value) : Blk ((((w.setCell ⟨g, 0, none⟩ a').setCell ⟨g, 1, none⟩ b').setCell ⟨g, 2, none⟩ c').setCell ⟨g, 3, none⟩ d') g t #[a', b', c', d'] := h.set4
theorem below_set4 {B : Nat} {w w' : World} {g j : Nat} (h : Below B w w') (hg : B ≤ g) (a b c d : Value) : Below B w ((((w'.setCell ⟨g, j, none⟩ a).setCell ⟨g, j + 1, none⟩ b).setCell ⟨g, j + 2, none⟩ c).setCell ⟨g, j + 3, none⟩ d) :=
  (((h.setCell (p := ⟨g, j, none⟩) hg _).setCell (p := ⟨g, j + 1, none⟩) hg _).setCell (p := ⟨g, j + 2, none⟩) hg _).setCell (p := ⟨g, j + 3, none⟩) hg _
theorem below_set4z {B : Nat} {w w' : World} {g : Nat} (h : Below B w w') (hg : B ≤ g) (a b c d : Value) : Below B w ((((w'.setCell ⟨g, 0, none⟩ a).setCell ⟨g, 1, none⟩ b).setCell ⟨g, 2, none⟩ c).setCell ⟨g, 3, none⟩ d) :=
  (((h.setCell (p := ⟨g, 0, none⟩) hg _).setCell (p := ⟨g, 1, none⟩) hg _).setCell (p := ⟨g, 2, none⟩) hg _).setCell (p := ⟨g, 3, none⟩) hg _

end Go.Proofs.YtpfjgecdlilkcaaGreat
