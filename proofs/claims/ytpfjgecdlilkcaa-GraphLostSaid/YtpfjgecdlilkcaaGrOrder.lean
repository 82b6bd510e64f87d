/-
  Layer 20 in plain words: descriptions of unlike keys in any order, and one that doesn't count among them.
-/
import Derived.Test.YtpfjgecdlilkcaaGrRefF
import Derived.Test.YtpfjgecdlilkcaaOwnR
namespace Go.Proofs.Ytpfjgecdlilkcaa
open Go.RowKit Go.Sort

theorem foldl_filter : ∀ (l C : List VX), (∀ v ∈ l, hasV C (keyV v) = false) → (l.map keyV).Nodup → l.foldl addV C = C ++ l.filter cntV
  | [], C, _, _ => by simp
  | v :: l, C, h, hn => by
    rw [List.map_cons, List.nodup_cons] at hn
    rw [List.foldl_cons]
    by_cases hc : cntV v = true
    · have hv : addV C v = C ++ [v] := by unfold addV; rw [if_pos ⟨hc, h v (by simp)⟩]
      rw [hv, foldl_filter l (C ++ [v]) (fun u hu => ?_) hn.2, List.filter_cons_of_pos hc, List.append_assoc]
      · rfl
      · rw [hasV_not]
        intro y hy e
        rcases List.mem_append.1 hy with hy | hy
        · exact hasV_not.1 (h u (by simp [hu])) y hy e
        · rw [List.mem_singleton] at hy
          subst hy
          exact hn.1 (List.mem_map.2 ⟨u, hu, e.symm⟩)
    · have hv : addV C v = C := by unfold addV; rw [if_neg (fun P => hc P.1)]
      rw [hv, foldl_filter l C (fun u hu => h u (by simp [hu])) hn.2, List.filter_cons_of_neg hc]
theorem countsV_filter {l : List VX} (hn : (l.map keyV).Nodup) : countsV l = l.filter cntV := by
  unfold countsV
  rw [foldl_filter l [] (fun v _ => rfl) hn, List.nil_append]
theorem countsV_skip (P S : List VX) {g : VX} (hg : cntV g = false) : countsV (P ++ g :: S) = countsV (P ++ S) := by
  unfold countsV
  rw [List.foldl_append, List.foldl_cons, List.foldl_append]
  congr 1
  unfold addV
  rw [if_neg (fun h => by rw [hg] at h; cases h.1)]
theorem cost_mem {C C' : List VX} (h : CntOk C) (h' : CntOk C') (hm : ∀ x, x ∈ C ↔ x ∈ C') : costC C = costC C' := by
  funext r n
  refine cost_ext h h' fun c => ?_
  unfold CandP
  simp only [hm]
theorem leaf_mem {C C' : List VX} (hm : ∀ x, x ∈ C ↔ x ∈ C') : leafCost C = leafCost C' := by
  funext r n
  refine leaf_ext fun c => ?_
  unfold LeafP
  simp only [hm]
theorem order_same {l : List VX} (hn : (l.map keyV).Nodup) (k : Nat) {g : VX} (hg : cntV g = false) : edgesV (l.reverse.take k ++ g :: l.reverse.drop k) = edgesV l ∧ leavesV (l.reverse.take k ++ g :: l.reverse.drop k) = leavesV l := by
  have hn2 : (l.reverse.map keyV).Nodup := by
    rw [List.map_reverse]
    exact (List.reverse_perm _).nodup_iff.2 hn
  have hm : ∀ x, x ∈ countsV (l.reverse.take k ++ g :: l.reverse.drop k) ↔ x ∈ countsV l := fun x => by
    rw [countsV_skip _ _ hg, List.take_append_drop, countsV_filter hn2, countsV_filter hn, List.mem_filter, List.mem_filter, List.mem_reverse]
  unfold edgesV leavesV
  rw [cost_mem (countsV_ok _) (countsV_ok _) hm, leaf_mem hm]
  exact ⟨rfl, rfl⟩
theorem own_lit {α : Type} {e : TypeId} {C : Nat} {cells : α → List Value} (hC : ∀ x, (cells x).length = C) (w : World) (x : α) : OwnR e C cells (w.alloc (.cells (cells x).toArray e)) w.heap.size (.slice (some ⟨w.heap.size, 0, none⟩) 1 1) [x] := by
  have h := hC x
  exact ⟨by simp [h], .inr ⟨w.heap.size, 1, (cells x).toArray, rfl, Nat.le_refl _, Blk.new w e _, by simp, by unfold maxLen; omega, by simp [h], by simp [← h]⟩⟩
theorem rows_drop {α : Type} {C : Nat} {cells : α → List Value} {w : World} {B b o : Nat} {M : List α} (hM : RowsAt C cells w B (some ⟨b, o, none⟩) M) (k : Nat) : RowsAt C cells w B (some ⟨b, o + k * C, none⟩) (M.drop k) := by
  intro h0
  rw [List.length_drop] at h0
  obtain ⟨b', o', e, hb, hc⟩ := hM (by omega)
  injection e with e
  injection e with e1 e2
  subst e1 e2
  refine ⟨b, o + k * C, rfl, hb, fun j hj i u hi hu => ?_⟩
  rw [List.length_drop] at hj
  rw [List.getElem_drop] at hu
  have := hc (k + j) (by omega) i u hi hu
  rw [show o + k * C + j * C + i = o + (k + j) * C + i by rw [Nat.add_mul]; omega]
  exact this
theorem rows_lo {W : World} {B n c : Nat} {A : Option Addr} {M : List Lsa} (hM : RowsAt 9 Lsa.cells W B A M) (k : Nat) (hn : n = M.length) (hnc : n ≤ c) : RowsAt 9 Lsa.cells W B (if c = k then A else A.map fun x => x.add (k * 9)) (M.drop k) := by
  intro h0
  have h1 := h0
  rw [List.length_drop] at h1
  obtain ⟨b, o, e, -⟩ := hM (by omega)
  subst e
  rw [if_neg (by omega)]
  have := rows_drop hM k
  simp only [Option.map_some, rows_add]
  exact this h0
theorem cap_le {e : TypeId} {C : Nat} {α : Type} {cells : α → List Value} {w : World} {B n c : Nat} {A : Option Addr} {L : List α} (h : OwnR e C cells w B (.slice A n c) L) : n ≤ c := by
  rcases h.2 with ⟨hv, hn⟩ | ⟨g, cap, cur, hv, -, -, hnc, -⟩
  · injection hv with h1 h2 h3
    omega
  · injection hv with h1 h2 h3
    omega
theorem app_rows_run {α : Type} {e sl : TypeId} {C bytes : Nat} (cells : α → List Value) (hC : ∀ x, (cells x).length = C) (hC0 : 0 < C) (hbytes : bytes ≤ 1000) {z : Value} (hinfo : (Try.prog.info? e).map (fun i => (i.zero, i.size, i.bytes)) = some (some z, C, bytes)) (hzs : z.cells.size = C) (hsl : Try.prog.underlying sl = some (.slice e))
    (h1 : ∀ x, ∀ u ∈ cells x, u.oneCell' = true) {w : World} (ty : TypeId) (base : Nat) (v : Value) (L : List α) (hown : OwnR e C cells w base v L) (A : Option Addr) (c m : Nat) (M : List α) (hm : m = M.length) (hM : RowsAt C cells w w.heap.size A M) (hlen : L.length + M.length ≤ 2 ^ 30) (hbase : base ≤ w.heap.size) :
    ∃ v' w', (Builtin.append_ #[sl, sl] ty #[v, .slice A m c]).run Try.prog w = .ok v' w' ∧ OwnR e C cells w' base v' (L ++ M) ∧ w.grownBy w' v.ownBlock ∧ (v'.ownBlock = v.ownBlock ∨ v'.ownBlock = some w.heap.size) := by
  subst hm
  obtain ⟨i0, hi, hz0, hz1, hz2⟩ := info_parts hinfo
  obtain ⟨v', w', h, h2, h3, h4⟩ := run_append_any (P := Try.prog) w base sl ty e i0 z C bytes hsl hi hz0 hz1 hz2 hzs hC0 v L.length (L.flatMap cells) hown w.heap.size A M.length c (M.flatMap cells)
    (rows_reads hC hC0 hM) (fun u hu => by obtain ⟨y, _, hy⟩ := List.mem_flatMap.1 hu; exact h1 y u hy) (by unfold maxLen; omega)
    (Nat.le_trans (Nat.mul_le_mul hlen hbytes) (by decide)) hbase
  refine ⟨v', w', h, ?_, h3, h4⟩
  unfold OwnR
  rw [List.length_append, List.flatMap_append]
  exact h2
theorem rev_more {l : List Lsa} {k : Nat} (hk : k < l.length) : (l.take (k + 1)).reverse = l[k] :: (l.take k).reverse := by
  rw [List.take_succ_eq_append_getElem hk, List.reverse_append]
  rfl
theorem keys_more {l : List Lsa} {k : Nat} (hk : k < l.length) (hn : ((l.take k).map keyX).Nodup) (hno : ∀ y ∈ l.take k, keyX l[k] ≠ keyX y) : ((l.take (k + 1)).map keyX).Nodup := by
  rw [List.take_succ_eq_append_getElem hk, List.map_append, List.map_singleton, List.nodup_append]
  refine ⟨hn, by simp, fun a ha b hb e => ?_⟩
  obtain ⟨y, hy, rfl⟩ := List.mem_map.1 ha
  rw [List.mem_singleton] at hb
  exact hno y hy (by rw [← hb, e])

end Go.Proofs.Ytpfjgecdlilkcaa
