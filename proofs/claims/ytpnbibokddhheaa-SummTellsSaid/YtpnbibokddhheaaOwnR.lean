/-
  Rows of structs that a call made itself, whatever the struct.
-/
import Derived.Test.YtpnbibokddhheaaAppInt
import Derived.Test.YtpnbibokddhheaaRowsOf
namespace Go.Proofs.Ytpnbibokddhheaa
open Go.RowKit

theorem flatR {α : Type} (cells : α → List Value) (C : Nat) (hC : ∀ x, (cells x).length = C) (l : List α) (k i : Nat) (hk : k < l.length) (hi : i < C) : (l.flatMap cells)[k * C + i]? = (cells l[k])[i]? := by
  induction l generalizing k with
  | nil => simp at hk
  | cons c l ih =>
    cases k with
    | zero => simp only [List.flatMap_cons, Nat.zero_mul, Nat.zero_add, List.getElem_cons_zero]; rw [List.getElem?_append_left (by rw [hC]; exact hi)]
    | succ k =>
      have := ih k (by simpa using hk)
      simp only [List.flatMap_cons, List.getElem_cons_succ]
      rw [List.getElem?_append_right (by rw [hC, Nat.add_mul]; omega), hC, show (k + 1) * C + i - C = k * C + i by rw [Nat.add_mul]; omega]
      exact this

/-- A row of structs (element type e, C cells each) that the call made itself: blocks from B on. -/
def OwnR {α : Type} (e : TypeId) (C : Nat) (cells : α → List Value) (w : World) (B : Nat) (v : Value) (L : List α) : Prop := w.ownsRow B e C v L.length (L.flatMap cells)
section
variable {α : Type} {e : TypeId} {C : Nat} {cells : α → List Value} {w w' : World} {B : Nat} {v : Value} {L : List α}
theorem OwnR.nil (w : World) (B : Nat) : OwnR e C cells w B (.slice none 0 0) ([] : List α) := ⟨by simp, .inl ⟨rfl, rfl⟩⟩
theorem OwnR.kept {row : Option Nat} (h : OwnR e C cells w B v L) (hg : w.grownBy w' row) (hne : v.ownBlock = none ∨ v.ownBlock ≠ row) : OwnR e C cells w' B v L := World.ownsRow.kept h hg hne
theorem OwnR.alloc (h : OwnR e C cells w B v L) (o : Obj) : OwnR e C cells (w.alloc o) B v L := World.ownsRow.alloc h o
theorem OwnR.below (h : OwnR e C cells w B v L) (hb : Below w.heap.size w w') : OwnR e C cells w' B v L :=
  h.kept (row := none) ⟨hb.os, hb.tape, hb.output, hb.size, fun k hk _ => hb.block k hk⟩ (by cases hv : v.ownBlock <;> simp)
theorem OwnR.shape (h : OwnR e C cells w B v L) : ∃ A cap, v = .slice A L.length cap := by
  rcases h.2 with ⟨rfl, hn⟩ | ⟨g, cap, cur, rfl, _⟩
  · exact ⟨none, 0, by rw [hn]⟩
  · exact ⟨_, cap, rfl⟩
theorem OwnR.block (h : OwnR e C cells w B v L) : ∀ k, v.ownBlock = some k → B ≤ k ∧ k < w.heap.size := fun k hk => World.ownsRow.lt h k hk
theorem OwnR.lower {B' : Nat} (h : OwnR e C cells w B v L) (hB : B' ≤ B) : OwnR e C cells w B' v L := by
  refine ⟨h.1, ?_⟩
  rcases h.2 with hn | ⟨g, cap, cur, e, hb, r⟩
  · exact .inl hn
  · exact .inr ⟨g, cap, cur, e, Nat.le_trans hB hb, r⟩
theorem OwnR.set_ (h : OwnR e C cells w B v L) {p : Addr} (hp : p.block < B) (u : Value) : OwnR e C cells (w.setCell p u) B v L := by
  refine h.kept (row := some p.block) ⟨rfl, rfl, rfl, by simp, fun k _ hne => Below.heap_setCell w p u k (fun e => hne (by rw [e]))⟩ ?_
  rcases hv : v.ownBlock with _ | k
  · exact .inl rfl
  · right
    intro e
    injection e with e
    have := (h.block k hv).1
    omega
/-- it can be read -/
theorem OwnR.rows (hC : ∀ x, (cells x).length = C) {A : Option Addr} {n cap : Nat} (h : OwnR e C cells w B (.slice A n cap) L) : n = L.length ∧ RowsAt C cells w w.heap.size A L := by
  rcases h.2 with ⟨hv, hn⟩ | ⟨g, cap', cur, hv, hb, hg, hnc, hcm, hcs, ht⟩
  · simp only [Value.slice.injEq] at hv
    exact ⟨by rw [hn]; exact hv.2.1, fun h0 => absurd h0 (by omega)⟩
  · simp only [Value.slice.injEq] at hv
    obtain ⟨rfl, rfl, rfl⟩ := hv
    refine ⟨rfl, fun _ => ⟨g, 0, rfl, (Array.getElem?_eq_some_iff.1 hg).1, fun k hk i u hi hu => ?_⟩⟩
    have hki : k * C + i < L.length * C := by
      have : (k + 1) * C ≤ L.length * C := Nat.mul_le_mul_right C hk
      rw [Nat.add_mul] at this
      omega
    have := World.ownsRow.cellAt (w := w) (base := B) (e := e) (size := C) (g := g) (n := L.length) (cap := cap) (xs := L.flatMap cells) h (k * C + i) hki
    rw [show 0 + k * C + i = k * C + i by omega, this, flatR cells C hC L k i hk hi, hu]
end
/-- append of one struct -/
theorem app_row {α : Type} {e sl : TypeId} {C bytes : Nat} (cells : α → List Value) (hC : ∀ x, (cells x).length = C) (hC0 : 0 < C) (hbytes : bytes ≤ 1000) {z : Value} (hinfo : (Try.prog.info? e).map (fun i => (i.zero, i.size, i.bytes)) = some (some z, C, bytes)) (hzs : z.cells.size = C) (hsl : Try.prog.underlying sl = some (.slice e))
    (h1 : ∀ x, ∀ u ∈ cells x, u.oneCell' = true)
    {w : World} {ops : Array Oper} {rest : List Oper} {o : Oper} {a : Act} {Q : Exit → Act → World → Prop} (hgd : o.guard = none) (s x : Operand)
    (ho : o.op = .call { callee := .builtin .append, args := #[s, x], argTypes := #[sl, sl] })
    (base : Nat) (v : Value) (L : List α) (hs : a.eval s = v) (hown : OwnR e C cells w base v L) (g : Nat) (n : α) (hx : a.eval x = .slice (some ⟨g, 0, none⟩) 1 1) (hr : Blk w g e (cells n).toArray)
    (hlen : L.length + 1 ≤ 2 ^ 30) (hbase : base ≤ w.heap.size)
    (h : ∀ v' w', OwnR e C cells w' base v' (L ++ [n]) → w.grownBy w' v.ownBlock → (v'.ownBlock = v.ownBlock ∨ v'.ownBlock = some w.heap.size) → wpList Try.prog ops Q rest (a.put o.dst v') w') : wpList Try.prog ops Q (o :: rest) a w := by
  obtain ⟨i0, hi, hz0, hz1, hz2⟩ := info_parts hinfo
  refine wpList_append_any _ hgd s x _ ho base e i0 z C bytes hsl hi hz0 hz1 hz2 hzs hC0 v L.length (L.flatMap cells) hs hown (g + 1) (some ⟨g, 0, none⟩) 1 1 (cells n) hx ?_ (h1 n) (by unfold maxLen; omega) ?_ hbase ?_
  · refine ⟨by rw [hC]; omega, fun _ => ⟨g, 0, rfl, Nat.lt_succ_self _, fun j y hj => ?_⟩⟩
    rw [Nat.zero_add, hr.cell j, ← hj]
    simp
  · calc (L.length + 1) * bytes ≤ 2 ^ 30 * 1000 := Nat.mul_le_mul hlen hbytes
      _ ≤ 140737488355328 := by decide
  · intro v' w' h2 h3 h4
    exact h v' w' (by simpa [OwnR, List.flatMap_append] using h2) h3 h4

/-- append of one struct, as an equation on its run -/
theorem app_row_run {α : Type} {e sl : TypeId} {C bytes : Nat} (cells : α → List Value) (hC : ∀ x, (cells x).length = C) (hC0 : 0 < C) (hbytes : bytes ≤ 1000) {z : Value} (hinfo : (Try.prog.info? e).map (fun i => (i.zero, i.size, i.bytes)) = some (some z, C, bytes)) (hzs : z.cells.size = C) (hsl : Try.prog.underlying sl = some (.slice e))
    (h1 : ∀ x, ∀ u ∈ cells x, u.oneCell' = true) {w : World} (ty : TypeId) (base : Nat) (v : Value) (L : List α) (hown : OwnR e C cells w base v L) (g : Nat) (n : α) (hr : Blk w g e (cells n).toArray) (hlen : L.length + 1 ≤ 2 ^ 30) (hbase : base ≤ w.heap.size) :
    ∃ v' w', (Builtin.append_ #[sl, sl] ty #[v, .slice (some ⟨g, 0, none⟩) 1 1]).run Try.prog w = .ok v' w' ∧ OwnR e C cells w' base v' (L ++ [n]) ∧ w.grownBy w' v.ownBlock ∧ (v'.ownBlock = v.ownBlock ∨ v'.ownBlock = some w.heap.size) := by
  obtain ⟨i0, hi, hz0, hz1, hz2⟩ := info_parts hinfo
  obtain ⟨v', w', h, h2, h3, h4⟩ := run_append_any (P := Try.prog) w base sl ty e i0 z C bytes hsl hi hz0 hz1 hz2 hzs hC0 v L.length (L.flatMap cells) hown (g + 1) (some ⟨g, 0, none⟩) 1 1 (cells n)
    ⟨by rw [hC]; omega, fun _ => ⟨g, 0, rfl, Nat.lt_succ_self _, fun j y hj => by rw [Nat.zero_add, hr.cell j, ← hj]; simp⟩⟩ (h1 n) (by unfold maxLen; omega)
    (Nat.le_trans (Nat.mul_le_mul hlen hbytes) (by decide)) hbase
  exact ⟨v', w', h, by simpa [OwnR, List.flatMap_append] using h2, h3, h4⟩

theorem flatLenR {α : Type} (cells : α → List Value) (C : Nat) (hC : ∀ x, (cells x).length = C) (l : List α) : (l.flatMap cells).length = l.length * C := by
  induction l with
  | nil => simp
  | cons c l ih => simp only [List.flatMap_cons, List.length_append, ih, hC, List.length_cons, Nat.add_mul]; omega

end Go.Proofs.Ytpnbibokddhheaa

/-
  append of rows of structs behind a row that the call made itself.
-/
namespace Go.Proofs.Ytpnbibokddhheaa
open Go.RowKit

theorem rows_reads {α : Type} {C : Nat} {cells : α → List Value} (hC : ∀ x, (cells x).length = C) (hC0 : 0 < C) {w : World} {B : Nat} {A : Option Addr} {M : List α} (hM : RowsAt C cells w B A M) : Reads w B C A M.length (M.flatMap cells) := by
  refine ⟨flatLenR cells C hC M, fun hp => ?_⟩
  obtain ⟨b, o, e, hb, hc⟩ := hM hp
  refine ⟨b, o, e, hb, fun j u hu => ?_⟩
  have hj : j < M.length * C := by rw [← flatLenR cells C hC M]; exact (List.getElem?_eq_some_iff.1 hu).1
  have hk : j / C < M.length := Nat.div_lt_of_lt_mul (by rw [Nat.mul_comm]; exact hj)
  have hi : j % C < C := Nat.mod_lt _ hC0
  have e1 := flatR cells C hC M (j / C) (j % C) hk hi
  have e2 : j / C * C + j % C = j := by rw [Nat.mul_comm]; exact Nat.div_add_mod j C
  rw [e2, hu] at e1
  have := hc (j / C) hk (j % C) u hi e1.symm
  rw [show o + j / C * C + j % C = o + j by omega] at this
  exact this
theorem app_rows {α : Type} {e sl : TypeId} {C bytes : Nat} (cells : α → List Value) (hC : ∀ x, (cells x).length = C) (hC0 : 0 < C) (hbytes : bytes ≤ 1000) {z : Value} (hinfo : (Try.prog.info? e).map (fun i => (i.zero, i.size, i.bytes)) = some (some z, C, bytes)) (hzs : z.cells.size = C) (hsl : Try.prog.underlying sl = some (.slice e))
    (h1 : ∀ x, ∀ u ∈ cells x, u.oneCell' = true)
    {w : World} {ops : Array Oper} {rest : List Oper} {o : Oper} {a : Act} {Q : Exit → Act → World → Prop} (hgd : o.guard = none) (s x : Operand)
    (ho : o.op = .call { callee := .builtin .append, args := #[s, x], argTypes := #[sl, sl] })
    (base : Nat) (v : Value) (L : List α) (hs : a.eval s = v) (hown : OwnR e C cells w base v L) (A : Option Addr) (c m : Nat) (M : List α) (hm : m = M.length) (hx : a.eval x = .slice A m c) (hM : RowsAt C cells w w.heap.size A M)
    (hlen : L.length + M.length ≤ 2 ^ 30) (hbase : base ≤ w.heap.size)
    (h : ∀ v' w', OwnR e C cells w' base v' (L ++ M) → w.grownBy w' v.ownBlock → (v'.ownBlock = v.ownBlock ∨ v'.ownBlock = some w.heap.size) → wpList Try.prog ops Q rest (a.put o.dst v') w') : wpList Try.prog ops Q (o :: rest) a w := by
  subst hm
  obtain ⟨i0, hi, hz0, hz1, hz2⟩ := info_parts hinfo
  refine wpList_append_any _ hgd s x _ ho base e i0 z C bytes hsl hi hz0 hz1 hz2 hzs hC0 v L.length (L.flatMap cells) hs hown w.heap.size A M.length c (M.flatMap cells) hx (rows_reads hC hC0 hM) ?_ (by unfold maxLen; omega) ?_ hbase ?_
  · intro u hu
    obtain ⟨y, _, hy⟩ := List.mem_flatMap.1 hu
    exact h1 y u hy
  · calc (L.length + M.length) * bytes ≤ 2 ^ 30 * 1000 := Nat.mul_le_mul hlen hbytes
      _ ≤ 140737488355328 := by decide
  · intro v' w' h2 h3 h4
    refine h v' w' ?_ h3 h4
    unfold OwnR
    rw [List.length_append, List.flatMap_append]
    exact h2
theorem rows_take {α : Type} {C : Nat} {cells : α → List Value} {w : World} {B : Nat} {A : Option Addr} {M : List α} (hM : RowsAt C cells w B A M) (n : Nat) : RowsAt C cells w B A (M.take n) := by
  intro h0
  rw [List.length_take] at h0
  obtain ⟨b, o, e, hb, hc⟩ := hM (by omega)
  refine ⟨b, o, e, hb, fun k hk i u hi hu => ?_⟩
  rw [List.length_take] at hk
  rw [List.getElem_take] at hu
  exact hc k (by omega) i u hi hu

end Go.Proofs.Ytpnbibokddhheaa
