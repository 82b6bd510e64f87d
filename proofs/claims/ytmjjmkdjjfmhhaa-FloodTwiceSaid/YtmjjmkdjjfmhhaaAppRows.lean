/-
  append of rows of structs behind a row that the call made itself.
-/
import Derived.Test.YtmjjmkdjjfmhhaaOwnR
namespace Go.Proofs.Ytmjjmkdjjfmhhaa
open Go.RowKit

theorem rows_reads {α : Type} {C : Nat} {cells : α → List Value} (hC : ∀ x, (cells x).length = C) (hC0 : 0 < C) {w : World} {B : Nat} {A : Option Addr} {M : List α} (hM : RowsAt C cells w B A M) : Reads w B C A M.length (M.flatMap cells) := by
  refine ⟨flatLenR cells C hC M, fun hp => ?_⟩
  obtain ⟨b, o, e, hb, hc⟩ := hM hp
  refine ⟨b, o, e, hb, fun j u hu => ?_⟩
  have hj : j < M.length * C := by rw [← flatLenR cells C hC M]; exact (List.getElem?_eq_some_iff.1 hu).1
  have hk : j / C < M.length := Nat.div_lt_of_lt_mul (by rw [Nat.mul_comm]; exact hj)
  have hi : j % C < C := Nat.mod_lt _ hC0
  have e1 := flatR cells C hC M (j / C) (j % C) hk hi
  have e2 : j / C * C + j % C = j := by rw [Nat.mul_comm]; exact Nat.div_add_mod j C
  rw [e2, hu] at e1
  have := hc (j / C) hk (j % C) u hi e1.symm
  rw [show o + j / C * C + j % C = o + j by omega] at this
  exact this
theorem app_rows {α : Type} {e sl : TypeId} {C bytes : Nat} (cells : α → List Value) (hC : ∀ x, (cells x).length = C) (hC0 : 0 < C) (hbytes : bytes ≤ 1000) {z : Value} (hinfo : (Try.prog.info? e).map (fun i => (i.zero, i.size, i.bytes)) = some (some z, C, bytes)) (hzs : z.cells.size = C) (hsl : Try.prog.underlying sl = some (.slice e))
    (h1 : ∀ x, ∀ u ∈ cells x, u.oneCell' = true)
    {w : World} {ops : Array Oper} {rest : List Oper} {o : Oper} {a : Act} {Q : Exit → Act → World → Prop} (hgd : o.guard = none) (s x : Operand)
    (ho : o.op = .call { callee := .builtin .append, args := #[s, x], argTypes := #[sl, sl] })
    (base : Nat) (v : Value) (L : List α) (hs : a.eval s = v) (hown : OwnR e C cells w base v L) (A : Option Addr) (c m : Nat) (M : List α) (hm : m = M.length) (hx : a.eval x = .slice A m c) (hM : RowsAt C cells w w.heap.size A M)
    (hlen : L.length + M.length ≤ 2 ^ 30) (hbase : base ≤ w.heap.size)
    (h : ∀ v' w', OwnR e C cells w' base v' (L ++ M) → w.grownBy w' v.ownBlock → (v'.ownBlock = v.ownBlock ∨ v'.ownBlock = some w.heap.size) → wpList Try.prog ops Q rest (a.put o.dst v') w') : wpList Try.prog ops Q (o :: rest) a w := by
  subst hm
  obtain ⟨i0, hi, hz0, hz1, hz2⟩ := info_parts hinfo
  refine wpList_append_any _ hgd s x _ ho base e i0 z C bytes hsl hi hz0 hz1 hz2 hzs hC0 v L.length (L.flatMap cells) hs hown w.heap.size A M.length c (M.flatMap cells) hx (rows_reads hC hC0 hM) ?_ (by unfold maxLen; omega) ?_ hbase ?_
  · intro u hu
    obtain ⟨y, _, hy⟩ := List.mem_flatMap.1 hu
    exact h1 y u hy
  · calc (L.length + M.length) * bytes ≤ 2 ^ 30 * 1000 := Nat.mul_le_mul hlen hbytes
      _ ≤ 140737488355328 := by decide
  · intro v' w' h2 h3 h4
    refine h v' w' ?_ h3 h4
    unfold OwnR
    rw [List.length_append, List.flatMap_append]
    exact h2
theorem rows_take {α : Type} {C : Nat} {cells : α → List Value} {w : World} {B : Nat} {A : Option Addr} {M : List α} (hM : RowsAt C cells w B A M) (n : Nat) : RowsAt C cells w B A (M.take n) := by
  intro h0
  rw [List.length_take] at h0
  obtain ⟨b, o, e, hb, hc⟩ := hM (by omega)
  refine ⟨b, o, e, hb, fun k hk i u hi hu => ?_⟩
  rw [List.length_take] at hk
  rw [List.getElem_take] at hu
  exact hc k (by omega) i u hi hu

end Go.Proofs.Ytmjjmkdjjfmhhaa
