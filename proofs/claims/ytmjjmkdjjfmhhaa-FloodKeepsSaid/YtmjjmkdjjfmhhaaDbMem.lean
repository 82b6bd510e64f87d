/-
  Layer 7: a database in memory; a new one, its number.
-/
import Derived.Test.YtmjjmkdjjfmhhaaDbOwn
import Derived.Test.YtmjjmkdjjfmhhaaKyPlain
import Derived.Test.YtmjjmkdjjfmhhaaKyThree
import Derived.Test.YtmjjmkdjjfmhhaaGrown
namespace Go.Proofs.Ytmjjmkdjjfmhhaa
open Go.RowKit

def dbL (M : List Lsa) : List (K3 × Value) := M.map fun x => (keyH x.head, x.val)
def getX (k : K3) : List Lsa → Option Lsa
  | [] => none
  | x :: M => if keyH x.head = k then some x else getX k M
def setX (y : Lsa) : List Lsa → List Lsa
  | [] => [y]
  | x :: M => if keyH x.head = keyH y.head then y :: M else x :: setX y M
theorem getL_db (k : K3) : ∀ M : List Lsa, getL k (dbL M) = (getX k M).map Lsa.val
  | [] => rfl
  | x :: M => by
    have ih := getL_db k M
    unfold dbL at ih ⊢
    by_cases hx : keyH x.head = k
    · simp [getL, getX, hx]
    · simp [getL, getX, hx, ih]
theorem setL_db (y : Lsa) : ∀ M : List Lsa, setL (keyH y.head) y.val (dbL M) = dbL (setX y M)
  | [] => rfl
  | x :: M => by
    have ih := setL_db y M
    unfold dbL at ih ⊢
    by_cases hx : keyH x.head = keyH y.head
    · simp [setL, setX, hx]
    · simp [setL, setX, hx, ih]
theorem getX_mem {k : K3} : ∀ {M : List Lsa} {x : Lsa}, getX k M = some x → x ∈ M ∧ keyH x.head = k
  | y :: M, x, h => by
    unfold getX at h
    by_cases hy : keyH y.head = k
    · rw [if_pos hy] at h
      injection h with h
      subst h
      exact ⟨by simp, hy⟩
    · rw [if_neg hy] at h
      have := getX_mem h
      exact ⟨by simp [this.1], this.2⟩
theorem setX_mem {y x : Lsa} : ∀ {M : List Lsa}, x ∈ setX y M → x ∈ M ∨ x = y
  | [], h => by simp [setX] at h; exact .inr h
  | z :: M, h => by
    unfold setX at h
    split at h
    · rcases List.mem_cons.1 h with e | h
      · exact .inr e
      · exact .inl (by simp [h])
    · rcases List.mem_cons.1 h with e | h
      · exact .inl (by simp [e])
      · rcases setX_mem h with h1 | h1
        · exact .inl (by simp [h1])
        · exact .inr h1
structure DbAt (w : World) (p b : Nat) (room : Int) (M : List Lsa) : Prop where
  ptr : Blk w p 112 #[.int .i64 room, .map (some b)]
  map : MapAt K3.enc w b (dbL M)
  rows : ∀ x ∈ M, RowsAt 4 Lnk.cells w w.heap.size x.ka x.links ∧ RowsAt 1 icell w w.heap.size x.ma x.members
  lens : ∀ x ∈ M, x.links.length ≤ 1000 ∧ x.members.length ≤ 1000
theorem rows_map {α κ : Type} {C : Nat} {cells : α → List Value} {w w' : World} {A : Option Addr} {R : List α} {b : Nat} {enc : κ → Value} {L : List (κ × Value)} (hC : ∀ x, (cells x).length = C) (hC0 : 0 < C) (h : RowsAt C cells w w.heap.size A R) (hm : MapAt enc w b L) (hg : w.grownBy w' (some b)) : RowsAt C cells w' w'.heap.size A R := by
  intro h0
  obtain ⟨b', o, e, hb, hc⟩ := h h0
  have hlt : 0 < (cells R[0]).length := by rw [hC]; exact hC0
  have h1 := hc 0 h0 0 _ hC0 (List.getElem?_eq_getElem hlt)
  have hne : b' ≠ b := by
    rintro rfl
    obtain ⟨es, clock, hb', -⟩ := hm
    simp [World.cell?, hb'] at h1
  refine ⟨b', o, e, Nat.lt_of_lt_of_le hb hg.size, fun k hk i u hi hu => ?_⟩
  exact (World.cell?_of_block (w := w) (a := ⟨b', o + k * C + i, none⟩) (hg.block b' hb (fun e => hne (Option.some.inj e)))).trans (hc k hk i u hi hu)
section
variable {w w' : World} {p b : Nat} {room : Int} {M M' : List Lsa}
theorem DbAt.keep (h : DbAt w p b room M) (hb : Below w.heap.size w w') : DbAt w' p b room M :=
  ⟨h.ptr.below hb h.ptr.lt, h.map.below hb h.map.lt, fun x hx => ⟨rows_keep (h.rows x hx).1 hb, rows_keep (h.rows x hx).2 hb⟩, h.lens⟩
theorem DbAt.ne (h : DbAt w p b room M) : p ≠ b := by
  intro e
  obtain ⟨es, clock, hb, -⟩ := h.map
  have hp := h.ptr
  unfold Blk at hp
  rw [e, hb] at hp
  cases hp
theorem DbAt.turned (h : DbAt w p b room M) (hg : w.grownBy w' (some b)) (hm : MapAt K3.enc w' b (dbL M'))
    (hr : ∀ x ∈ M', x ∈ M ∨ (RowsAt 4 Lnk.cells w' w'.heap.size x.ka x.links ∧ RowsAt 1 icell w' w'.heap.size x.ma x.members) ∧ x.links.length ≤ 1000 ∧ x.members.length ≤ 1000) : DbAt w' p b room M' :=
  ⟨h.ptr.grown hg (fun e => h.ne (by injection e)), hm, fun x hx => (hr x hx).elim (fun hx => ⟨rows_map (fun _ => rfl) (by decide) (h.rows x hx).1 h.map hg, rows_map (fun _ => rfl) (by decide) (h.rows x hx).2 h.map hg⟩) (·.1), fun x hx => (hr x hx).elim (h.lens x) (·.2)⟩
end
set_option maxHeartbeats 1000000 in
theorem DbNew (room : Int) (w : World) : Calls Try.prog 16 #[.int .i64 room] w fun r w' => r = .returned (.pointer (some ⟨w.heap.size + 1, 0, none⟩)) ∧ DbAt w' (w.heap.size + 1) w.heap.size (min (max room 1) 40) [] ∧ Below w.heap.size w w' := by
  have hmm := @run_makeMap Try.prog
  go_enter Try.func16, Try.ntmps16
  go_wp2
  all_goals
    go_ret
    first
      | exact ⟨rfl, ⟨Blk.size (by simp), (MapAt.new w).alloc _, by simp, by simp⟩, ((Below.refl _ _).alloc (Nat.le_refl _) _).alloc (by simp) _⟩
      | (rw [show min (max room 1) 40 = 1 by omega]; exact ⟨rfl, ⟨Blk.size (by simp), (MapAt.new w).alloc _, by simp, by simp⟩, ((Below.refl _ _).alloc (Nat.le_refl _) _).alloc (by simp) _⟩)
      | (rw [show min (max room 1) 40 = room by omega]; exact ⟨rfl, ⟨Blk.size (by simp), (MapAt.new w).alloc _, by simp, by simp⟩, ((Below.refl _ _).alloc (Nat.le_refl _) _).alloc (by simp) _⟩)
      | (rw [show min (max room 1) 40 = 40 by omega]; exact ⟨rfl, ⟨Blk.size (by simp), (MapAt.new w).alloc _, by simp, by simp⟩, ((Below.refl _ _).alloc (Nat.le_refl _) _).alloc (by simp) _⟩)
set_option maxHeartbeats 1000000 in
theorem DbLen (p b : Nat) (room : Int) (M : List Lsa) (w : World) (h : DbAt w p b room M) : Calls Try.prog 18 #[.pointer (some ⟨p, 0, none⟩)] w fun r w' => r = .returned (.int .i64 M.length) ∧ w' = w := by
  have hcell := h.ptr.cell 1
  simp only [List.getElem?_toArray, List.getElem?_cons_zero, List.getElem?_cons_succ] at hcell
  have hL : (dbL M).length = M.length := by simp [dbL]
  have hl := fun t => h.map.len_run (P := Try.prog) Try.underlying110 t
  rw [hL] at hl
  clear h hL
  go_enter Try.func18, Try.ntmps18
  go_wp2
  go_ret
  exact ⟨rfl, rfl⟩

end Go.Proofs.Ytmjjmkdjjfmhhaa
