/-
  One description's members are stored anew in a row that the call made itself; members without one of them.
-/
import Derived.Test.YtpfjgecdlilkcaaGrLost
namespace Go.Proofs.Ytpfjgecdlilkcaa
open Go.RowKit Go.Sort

/-- the same description with other members -/
def Lsa.with_ (x : Lsa) (a : Option Addr) (m : Nat) (M : List Int) : Lsa := ⟨x.head, x.ka, x.kcap, x.links, a, m, M⟩
theorem set_flat8 (a : Option Addr) (m : Nat) (M : List Int) : ∀ (l : List Lsa) (k : Nat) (hk : k < l.length),
    (l.set k (l[k].with_ a m M)).flatMap Lsa.cells = (l.flatMap Lsa.cells).set (k * 9 + 8) (.slice a M.length m)
  | [], k, hk => absurd hk (by simp)
  | d :: l, 0, _ => by simp [Lsa.cells, Lsa.with_]
  | d :: l, k + 1, hk => by
    have h := set_flat8 a m M l k (by simpa using hk)
    have h9 : d.cells.length = 9 := rfl
    simp only [List.set_cons_succ, List.flatMap_cons, List.getElem_cons_succ, h]
    rw [List.set_append_right _ _ (by omega)]
    simp only [h9, show (k + 1) * 9 + 8 - 9 = k * 9 + 8 by omega]
section
variable {w : World} {B g cap n : Nat} {l : List Lsa}
theorem OwnX.set8 (h : OwnR 30 9 Lsa.cells w B (.slice (some ⟨g, 0, none⟩) n cap) l) (hn : n = l.length) (k : Nat) (hk : k < l.length) (a : Option Addr) (m : Nat) (M : List Int) :
    OwnR 30 9 Lsa.cells (w.setCell ⟨g, k * 9 + 8, none⟩ (.slice a M.length m)) B (.slice (some ⟨g, 0, none⟩) n cap) (l.set k (l[k].with_ a m M)) := by
  subst hn
  unfold OwnR
  rw [set_flat8 a m M l k hk, List.length_set]
  exact (World.ownsRow.stored h (k * 9 + 8) (.slice a M.length m)).1
theorem OwnX.frozen8 (h : OwnR 30 9 Lsa.cells w B (.slice (some ⟨g, 0, none⟩) n cap) l) (i : Nat) : w.frozen? ⟨g, i, none⟩ = false := by
  rcases h.2 with ⟨hv, -⟩ | ⟨g', cap', cur, hv, -, hg, -⟩
  · cases hv
  · injection hv with hA hn hc
    injection hA with hA
    injection hA with hA
    subst hA
    simp [World.frozen?, hg]
end
theorem set_words (l : List Lsa) (k : Nat) (hk : k < l.length) (a : Option Addr) (m : Nat) (M : List Int) (i : Nat) (hM : M = l[k].members.eraseIdx i) :
    (l.set k (l[k].with_ a m M)).map vX = (l.map vX).take k ++ lessV (vX l[k]) i :: (l.map vX).drop (k + 1) := by
  subst hM
  rw [List.set_eq_take_append_cons_drop, if_pos hk, List.map_append, List.map_cons, List.map_take, List.map_drop]
  rfl
theorem split_words (l : List Lsa) (k : Nat) (hk : k < l.length) : l.map vX = (l.map vX).take k ++ vX l[k] :: (l.map vX).drop (k + 1) := by
  conv => lhs; rw [← List.take_append_drop k (l.map vX)]
  rw [List.drop_eq_getElem_cons (by simpa using hk), List.getElem_map]
theorem off_snoc (lost id : Int) {E : List Ed} {k : Nat} (hk : k < E.length) : (E.take (k + 1)).filter (offE lost id) = if offE lost id E[k] = true then (E.take k).filter (offE lost id) ++ [E[k]] else (E.take k).filter (offE lost id) := by
  rw [List.take_succ_eq_append_getElem hk, List.filter_append]
  by_cases h : offE lost id E[k] = true <;> simp [h]
theorem rows_lo1 {W : World} {B n c gm om : Nat} {M : List Int} (hM : RowsAt 1 icell W B (some ⟨gm, om, none⟩) M) (k : Nat) (hn : n = M.length) (hnc : n ≤ c) : RowsAt 1 icell W B (if c = k then some ⟨gm, om, none⟩ else some ⟨gm, om + k, none⟩) (M.drop k) := by
  intro h0
  have h1 := h0
  rw [List.length_drop] at h1
  rw [if_neg (by omega)]
  have := rows_drop hM k
  rw [Nat.mul_one] at this
  exact this h0
theorem less_words (M : List Int) (i : Nat) : ([] ++ M.take i) ++ M.drop (i + 1) = M.eraseIdx i := by
  rw [List.nil_append, List.eraseIdx_eq_take_drop_succ]

theorem Blk.set2 {w : World} {g : Nat} {t : TypeId} {a b : Value} (h : Blk w g t #[a, b]) (a' b' : Value) : Blk ((w.setCell ⟨g, 0, none⟩ a').setCell ⟨g, 1, none⟩ b') g t #[a', b'] := ((h.set_ 0 a').set_ 1 b').to (by simp)
theorem Blk.far2 {w : World} {g p : Nat} {t : TypeId} {cs : Array Value} (h : Blk w g t cs) (hne : g ≠ p) (a' b' : Value) : Blk ((w.setCell ⟨p, 0, none⟩ a').setCell ⟨p, 1, none⟩ b') g t cs := (h.far hne _).far hne _
theorem below_set2 {B : Nat} {w w' : World} {g : Nat} (h : Below B w w') (hg : B ≤ g) (a b : Value) : Below B w ((w'.setCell ⟨g, 0, none⟩ a).setCell ⟨g, 1, none⟩ b) := (h.setCell (p := ⟨g, 0, none⟩) hg _).setCell (p := ⟨g, 1, none⟩) hg _

end Go.Proofs.Ytpfjgecdlilkcaa
