/-
  Layer 16: a key that sinks to its place among keys in order; rows of keys that are stored.
-/
import Derived.Test.YtfhikkmgclkcdaaRfHas
namespace Go.Proofs.Ytfhikkmgclkcdaa
open Go.RowKit

def bub (S : List K3) (x : K3) (j : Nat) : List K3 := S.take j ++ x :: S.drop j
theorem bub_start (S : List K3) (x : K3) : bub S x S.length = S ++ [x] := by simp [bub]
theorem bub_len {S : List K3} {x : K3} {j : Nat} (h : j ≤ S.length) : (bub S x j).length = S.length + 1 := by
  simp [bub]; omega
theorem bub_at? {S : List K3} {x : K3} {j : Nat} (h : j ≤ S.length) : (bub S x j)[j]? = some x := by
  unfold bub
  rw [List.getElem?_append_right (by rw [List.length_take]; omega), List.length_take, Nat.min_eq_left h, Nat.sub_self]
  rfl
theorem bub_pred? {S : List K3} {x : K3} {j : Nat} (h : j ≤ S.length) (h0 : 0 < j) : (bub S x j)[j - 1]? = S[j - 1]? := by
  unfold bub
  rw [List.getElem?_append_left (by rw [List.length_take]; omega), List.getElem?_take_of_lt (by omega)]
theorem bub_at {S : List K3} {x : K3} {j : Nat} (h : j ≤ S.length) (hl : j < (bub S x j).length) : (bub S x j)[j] = x := by
  have := bub_at? (x := x) h
  rw [List.getElem?_eq_getElem hl] at this
  exact Option.some.inj this
theorem bub_pred {S : List K3} {x : K3} {j : Nat} (h : j ≤ S.length) (h0 : 0 < j) (hl : j - 1 < (bub S x j).length) : (bub S x j)[j - 1] = S[j - 1] := by
  have := bub_pred? (x := x) h h0
  rw [List.getElem?_eq_getElem hl, List.getElem?_eq_getElem (by omega)] at this
  exact Option.some.inj this
theorem bub_step {S : List K3} {x : K3} {j : Nat} (h : j ≤ S.length) (h0 : 0 < j) : ((bub S x j).set j S[j - 1]).set (j - 1) x = bub S x (j - 1) := by
  obtain ⟨k, rfl⟩ : ∃ k, j = k + 1 := ⟨j - 1, by omega⟩
  have hk : k < S.length := by omega
  have hl : (S.take k).length = k := by rw [List.length_take]; omega
  simp only [Nat.add_sub_cancel]
  unfold bub
  rw [List.take_succ_eq_append_getElem hk, show List.drop k S = S[k] :: List.drop (k + 1) S from List.drop_eq_getElem_cons hk]
  generalize S[k] = y
  generalize List.drop (k + 1) S = D
  generalize List.take k S = T at *
  subst hl
  rw [List.append_assoc, List.set_append_right _ _ (by omega), show T.length + 1 - T.length = 1 by omega, List.set_append_right _ _ (by omega), Nat.sub_self]
  rfl
theorem bub_perm (S : List K3) (x : K3) (j : Nat) : (bub S x j).Perm (S ++ [x]) := by
  unfold bub
  refine List.perm_middle.trans ?_
  rw [List.take_append_drop]
  exact (List.perm_append_singleton x S).symm
theorem bub_stop {S : List K3} {x : K3} {j : Nat} (hs : S.Pairwise fun x y => lessK y x = false) (hj : j ≤ S.length) (hgt : ∀ y ∈ S.drop j, lessK x y = true) (hle : ∀ h : 0 < j, lessK x S[j - 1] = false) : (bub S x j).Pairwise fun x y => lessK y x = false := by
  have hle' : ∀ y ∈ S.take j, lessK x y = false := by
    intro y hy
    obtain ⟨i, hi, rfl⟩ := List.getElem_of_mem hy
    rw [List.length_take] at hi
    rw [List.getElem_take]
    have h0 : 0 < j := by omega
    have h1 := hle h0
    by_cases hij : i = j - 1
    · subst hij; exact h1
    · exact lessK_ntrans h1 (List.pairwise_iff_getElem.1 hs i (j - 1) (by omega) (by omega) (by omega))
  have hgt' : ∀ y ∈ S.drop j, lessK y x = false := by
    intro y hy
    cases h : lessK y x
    · rfl
    · exact absurd (lessK_trans (hgt y hy) h) (by rw [lessK_irr]; simp)
  unfold bub
  rw [List.pairwise_append, List.pairwise_cons]
  refine ⟨hs.sublist (List.take_sublist _ _), ⟨fun y hy => hgt' y hy, hs.sublist (List.drop_sublist _ _)⟩, ?_⟩
  intro y hy z hz
  rcases List.mem_cons.1 hz with rfl | hz
  · exact hle' y hy
  · have := List.pairwise_append.1 (by rw [List.take_append_drop]; exact hs : (S.take j ++ S.drop j).Pairwise fun x y => lessK y x = false)
    exact this.2.2 y hy z hz
theorem bub_end {K : List K3} {x : K3} {j : Nat} (hj : j ≤ (sortK K).length) (hgt : ∀ y ∈ (sortK K).drop j, lessK x y = true) (hle : ∀ h : 0 < j, lessK x (sortK K)[j - 1] = false) : bub (sortK K) x j = sortK (K ++ [x]) :=
  sorted_one (((bub_perm _ _ _).trans ((sortK_perm K).append_right [x])).trans (sortK_perm _).symm) (bub_stop (sortK_sorted K) hj hgt hle) (sortK_sorted _)
theorem drop_more {S : List K3} {x : K3} {j : Nat} (hj : j ≤ S.length) (h0 : 0 < j) (hgt : ∀ y ∈ S.drop j, lessK x y = true) (h : lessK x S[j - 1] = true) : ∀ y ∈ S.drop (j - 1), lessK x y = true := by
  intro y hy
  rw [List.drop_eq_getElem_cons (by omega), show j - 1 + 1 = j by omega] at hy
  rcases List.mem_cons.1 hy with rfl | hy
  · exact h
  · exact hgt y hy

theorem set_flatK (l : List K3) (k : Nat) (c : K3) (hk : k < l.length) :
    (l.set k c).flatMap K3.cells = (((l.flatMap K3.cells).set (k * 3) (.int .i64 c.kind)).set (k * 3 + 1) (.int .i64 c.id)).set (k * 3 + 2) (.int .i64 c.adv) := by
  induction l generalizing k with
  | nil => simp at hk
  | cons d l ih =>
    cases k with
    | zero => simp [K3.cells]
    | succ k =>
      have h := ih k (by simpa using hk)
      simp only [List.set_cons_succ, List.flatMap_cons, h]
      have h4 : d.cells.length = 3 := rfl
      rw [List.set_append_right _ _ (by omega), List.set_append_right _ _ (by omega), List.set_append_right _ _ (by omega)]
      simp only [h4, show (k + 1) * 3 - 3 = k * 3 by omega, show (k + 1) * 3 + 1 - 3 = k * 3 + 1 by omega, show (k + 1) * 3 + 2 - 3 = k * 3 + 2 by omega]
abbrev OwnK (w : World) (B : Nat) (v : Value) (l : List K3) : Prop := OwnR 61 3 K3.cells w B v l
section
variable {w : World} {B g cap n : Nat} {l : List K3}
theorem OwnK.set3 (h : OwnK w B (.slice (some ⟨g, 0, none⟩) n cap) l) (hn : n = l.length) (k : Nat) (hk : k < l.length) (c : K3) :
    OwnK (((w.setCell ⟨g, k * 3, none⟩ (.int .i64 c.kind)).setCell ⟨g, k * 3 + 1, none⟩ (.int .i64 c.id)).setCell ⟨g, k * 3 + 2, none⟩ (.int .i64 c.adv)) B (.slice (some ⟨g, 0, none⟩) n cap) (l.set k c) := by
  subst hn
  unfold OwnK OwnR
  rw [set_flatK l k c hk, List.length_set]
  exact (((World.ownsRow.stored h (k * 3) (.int .i64 c.kind)).1.stored (k * 3 + 1) (.int .i64 c.id)).1.stored (k * 3 + 2) (.int .i64 c.adv)).1
theorem OwnK.c3 (h : OwnK w B (.slice (some ⟨g, 0, none⟩) n cap) l) (k : Nat) (hk : k < l.length) (c : K3) (hc : l[k] = c) :
    w.cell? ⟨g, k * 3, none⟩ = some (.int .i64 c.kind) ∧ w.cell? ⟨g, k * 3 + 1, none⟩ = some (.int .i64 c.id) ∧ w.cell? ⟨g, k * 3 + 2, none⟩ = some (.int .i64 c.adv) ∧
    w.frozen? ⟨g, k * 3, none⟩ = false ∧ w.frozen? ⟨g, k * 3 + 1, none⟩ = false ∧ w.frozen? ⟨g, k * 3 + 2, none⟩ = false ∧ g < w.heap.size ∧ B ≤ g := by
  subst hc
  have hrow := (OwnR.rows (C := 3) (cells := K3.cells) (fun _ => rfl) h).2
  obtain ⟨z0, z1, z2⟩ := row_k3_at hrow k hk
  simp only [Nat.zero_add] at z0 z1 z2
  have hfr : ∀ i, w.frozen? ⟨g, i, none⟩ = false := by
    intro i
    rcases h.2 with ⟨hv, -⟩ | ⟨g', cap', cur, hv, -, hb, -⟩
    · cases hv
    · simp only [Value.slice.injEq, Option.some.injEq, Addr.mk.injEq, and_true] at hv
      obtain ⟨rfl, -, -⟩ := hv
      simp [World.frozen?, hb]
  have hb := OwnR.block h g rfl
  exact ⟨z0, z1, z2, hfr _, hfr _, hfr _, hb.2, hb.1⟩
theorem OwnK.len (h : OwnK w B (.slice (some ⟨g, 0, none⟩) n cap) l) : n = l.length := (OwnR.rows (C := 3) (cells := K3.cells) (fun _ => rfl) h).1
end

end Go.Proofs.Ytfhikkmgclkcdaa
