/-
  The law SpfCheapest, without its walk: the places of the nodes in a map, the row of what was had, and what a least way says of each edge.
-/
import Derived.Test.YtpfjgecdlilkcaaSpUse
import Derived.Test.YtpfjgecdlilkcaaStEntry
namespace Go.Proofs.Ytpfjgecdlilkcaa
open Go.RowKit

def atL (N : List NodeM) : List (Vx × Value) := N.mapIdx fun i n => (n.v, .int .i64 ((i : Int) + 1))
theorem setL_fresh {κ : Type} [DecidableEq κ] (k : κ) (v : Value) : ∀ {L : List (κ × Value)}, (∀ e ∈ L, e.1 ≠ k) → setL k v L = L ++ [(k, v)]
  | [], _ => rfl
  | p :: L, h => by
    have h1 := h p (by simp)
    rw [setL, if_neg h1, setL_fresh k v (fun e he => h e (List.mem_cons_of_mem _ he))]
    rfl
theorem node_lt {N : List NodeM} (hs : (N.map NodeM.nk).Pairwise fun x y => ltX x.v y.v) {i j : Nat} (hi : i < N.length) (hj : j < N.length) (h : i < j) : ltX N[i].v N[j].v := by
  rw [List.pairwise_map] at hs
  exact (List.pairwise_iff_getElem.1 hs) i j hi hj h
theorem node_ne {N : List NodeM} (hs : (N.map NodeM.nk).Pairwise fun x y => ltX x.v y.v) {i j : Nat} (hi : i < N.length) (hj : j < N.length) (h : N[i].v = N[j].v) : i = j := by
  rcases Nat.lt_trichotomy i j with g | g | g
  · have := node_lt hs hi hj g
    rw [h] at this
    exact absurd this (ltX_irr _)
  · exact g
  · have := node_lt hs hj hi g
    rw [h] at this
    exact absurd this (ltX_irr _)
theorem atL_len (N : List NodeM) : (atL N).length = N.length := by simp [atL]
theorem atL_at {N : List NodeM} {i : Nat} (hi : i < N.length) : (atL N)[i]'(by rw [atL_len]; exact hi) = (N[i].v, .int .i64 ((i : Int) + 1)) := by simp [atL]
theorem atL_step {N : List NodeM} (hs : (N.map NodeM.nk).Pairwise fun x y => ltX x.v y.v) {k : Nat} (hk : k < N.length) : setL N[k].v (.int .i64 ((k : Int) + 1)) ((atL N).take k) = (atL N).take (k + 1) := by
  rw [setL_fresh, List.take_succ_eq_append_getElem (by rw [atL_len]; exact hk), atL_at hk]
  intro e he
  obtain ⟨i, hi, rfl⟩ := List.getElem_of_mem he
  rw [List.length_take, atL_len] at hi
  have hik : i < k := by omega
  rw [List.getElem_take, atL_at (by omega)]
  intro h
  have := node_ne hs (by omega) hk h
  omega
theorem atL_keys {N : List NodeM} (hs : (N.map NodeM.nk).Pairwise fun x y => ltX x.v y.v) : ((atL N).map (·.1)).Nodup := by
  have h : (atL N).map (·.1) = N.map (·.v) := by
    apply List.ext_getElem (by simp [atL])
    intro i h1 h2
    simp [atL]
  rw [h]
  rw [List.pairwise_map] at hs
  unfold List.Nodup
  rw [List.pairwise_map]
  exact hs.imp fun {a b} (g : ltX a.v b.v) e => by rw [e] at g; exact ltX_irr _ g
theorem atL_get {N : List NodeM} (hs : (N.map NodeM.nk).Pairwise fun x y => ltX x.v y.v) (v : Vx) :
    (∃ i, ∃ hi : i < N.length, N[i].v = v ∧ getL v (atL N) = some (.int .i64 ((i : Int) + 1))) ∨ ((∀ n ∈ N, n.v ≠ v) ∧ getL v (atL N) = none) := by
  by_cases h : ∃ n ∈ N, n.v = v
  · obtain ⟨n, hn, rfl⟩ := h
    obtain ⟨i, hi, rfl⟩ := List.getElem_of_mem hn
    refine .inl ⟨i, hi, rfl, getL_of_mem (atL_keys hs) ?_⟩
    rw [← atL_at hi]
    exact List.getElem_mem _
  · have h' : ∀ n ∈ N, n.v ≠ v := fun n hn e => h ⟨n, hn, e⟩
    refine .inr ⟨h', getL_none.2 fun e he => ?_⟩
    obtain ⟨i, hi, rfl⟩ := List.getElem_of_mem he
    rw [atL_len] at hi
    rw [atL_at hi]
    exact h' _ (List.getElem_mem hi)

/-- a row of yes and no -/
def HadAt (w : World) (g : Nat) (H : Nat → Bool) (n : Nat) : Prop := ∃ cs : Array Value, Blk w g 4 cs ∧ cs.size = n ∧ ∀ i, i < n → cs[i]? = some (.bool (H i))
theorem HadAt.lt {w : World} {g n : Nat} {H : Nat → Bool} (h : HadAt w g H n) : g < w.heap.size := by obtain ⟨cs, h1, -⟩ := h; exact h1.lt
theorem HadAt.below {w w' : World} {B g n : Nat} {H : Nat → Bool} (h : HadAt w g H n) (hb : Below B w w') (hg : g < B) : HadAt w' g H n := by
  obtain ⟨cs, h1, h2, h3⟩ := h
  exact ⟨cs, h1.below hb hg, h2, h3⟩
theorem HadAt.drewN {w : World} {g n : Nat} {H : Nat → Bool} (h : HadAt w g H n) (k : Nat) : HadAt (w.drewN k) g H n := h
theorem HadAt.cell {w : World} {g n : Nat} {H : Nat → Bool} (h : HadAt w g H n) {i : Nat} (hi : i < n) : w.cell? ⟨g, i, none⟩ = some (.bool (H i)) ∧ w.frozen? ⟨g, i, none⟩ = false := by
  obtain ⟨cs, h1, h2, h3⟩ := h
  exact ⟨by rw [h1.cell, h3 i hi], h1.frozen i⟩
theorem HadAt.put {w : World} {g n : Nat} {H : Nat → Bool} (h : HadAt w g H n) {i : Nat} (hi : i < n) : HadAt (w.setCell ⟨g, i, none⟩ (.bool true)) g (fun j => decide (j = i) || H j) n := by
  obtain ⟨cs, h1, h2, h3⟩ := h
  refine ⟨_, h1.set_ i _, by simp [h2], fun j hj => ?_⟩
  by_cases e : j = i
  · subst e
    simp [h2, hi]
  · rw [Array.getElem?_setIfInBounds_ne (fun h => e h.symm), h3 j hj]
    simp [e]
theorem made_had (w : World) (n : Nat) (hn : n ≤ 1000) : (Instr.makeSlice 64 (.int .i64 (n : Int)) (.int .i64 (n : Int))).run Try.prog w = .ok (.slice (some ⟨w.heap.size, 0, none⟩) n n) (w.alloc (.cells (madeCells #[.bool false] n) 4)) ∧ HadAt (w.alloc (.cells (madeCells #[.bool false] n) 4)) w.heap.size (fun _ => false) n := by
  have hinfo : (Try.prog.info? 4).map (fun i => (i.zero, i.size, i.bytes)) = some (some (.bool false), 1, 1) := by kernel_rfl
  cases hi : Try.prog.info? 4 with
  | none => rw [hi] at hinfo; cases hinfo
  | some i =>
    rw [hi] at hinfo
    simp only [Option.map_some, Option.some.injEq, Prod.mk.injEq] at hinfo
    obtain ⟨z1, z2, z3⟩ := hinfo
    refine ⟨?_, ⟨_, Blk.new _ _ _, size_madeCells _ _, fun j hj => by simp [madeCells, hj, Nat.mod_one]⟩⟩
    have h := run_makeSlice (P := Try.prog) w 64 4 i (.bool false) Try.underlying64 hi z1 .i64 .i64 n n (by omega) (Int.le_refl _) (by rw [z2]; simp; omega) (by rw [z3]; omega) (by omega)
    rw [z2] at h
    simpa [Value.cells] using h

/-- what an edge of the list, that counts, from a node says -/
theorem edge_says {E : List Ed} {DD : Vx → Vx → Option Val2} {r : Vx} {N : List NodeM} (hD : Dists E DD) (hT : TreeIs E DD r (N.map NodeM.nk)) {e : Ed} (he : e ∈ E) (hc : cntE e = true) {i : Nat} (hi : i < N.length) (hs : N[i].v = e.src) :
    ∃ j, ∃ hj : j < N.length, N[j].v = e.dst ∧ (N[j].a.c : Int) ≤ (N[i].a.c : Int) + e.cost := by
  have hv := hT.val N[i].nk (List.mem_map.2 ⟨_, List.getElem_mem hi, rfl⟩)
  have hv' : DD r e.src = some N[i].a := by rw [← hs]; exact hv
  obtain ⟨b, hb, hle⟩ := (hD r).closed e he hc _ hv'
  obtain ⟨n, hn, hnv⟩ := hT.has _ _ hb
  obtain ⟨m, hm, rfl⟩ := List.mem_map.1 hn
  obtain ⟨j, hj, rfl⟩ := List.getElem_of_mem hm
  refine ⟨j, hj, hnv, ?_⟩
  have hw := hT.val _ hn
  rw [hnv, hb] at hw
  injection hw with hw
  have hw' : b = N[j].a := hw
  subst hw'
  have hge : 0 ≤ e.cost := by
    obtain ⟨-, -, h⟩ := cntE_iff.1 hc
    omega
  unfold leV stepV at hle
  simp only at hle
  omega
/-- an edge by which a node has its cost -/
def Hit (N : List NodeM) (e : Ed) (j : Nat) : Prop := cntE e = true ∧ ∃ i, ∃ hi : i < N.length, ∃ hj : j < N.length, N[i].v = e.src ∧ N[j].v = e.dst ∧ (N[j].a.c : Int) = (N[i].a.c : Int) + e.cost
theorem node_had {E : List Ed} {DD : Vx → Vx → Option Val2} {r : Vx} {N : List NodeM} (hD : Dists E DD) (hr : r.kind = 1) (hT : TreeIs E DD r (N.map NodeM.nk)) {j : Nat} (hj : j < N.length) (hne : N[j].v ≠ r) :
    (∃ e ∈ E, Hit N e j) ∧ 1 ≤ N[j].a.c ∧ 1 ≤ N[j].a.h ∧ 0 < N[j].next.length := by
  have hm : N[j].nk ∈ N.map NodeM.nk := List.mem_map.2 ⟨_, List.getElem_mem hj, rfl⟩
  have hv : DD r N[j].v = some N[j].a := hT.val _ hm
  have hx := hT.next _ hm
  refine ⟨?_, ?_⟩
  · rcases (hD r).tight _ _ hv with h | ⟨e, he, hc, hd, b, hb, ha⟩
    · exact absurd h hne
    · obtain ⟨n, hn, hnv⟩ := hT.has _ _ hb
      obtain ⟨m, hmm, rfl⟩ := List.mem_map.1 hn
      obtain ⟨i, hi, rfl⟩ := List.getElem_of_mem hmm
      have hw := hT.val _ hn
      rw [hnv, hb] at hw
      injection hw with hw
      have hw' : b = N[i].a := hw
      subst hw'
      have hge : 0 ≤ e.cost := by
        obtain ⟨-, -, h⟩ := cntE_iff.1 hc
        omega
      refine ⟨e, he, hc, i, hi, hj, hnv, hd.symm, ?_⟩
      rw [ha]
      unfold stepV
      simp only
      omega
  · rcases (hD r).pos hr _ _ hv with ⟨h, -⟩ | ⟨-, h1, h2⟩
    · exact absurd h hne
    · refine ⟨h1, h2, ?_⟩
      rcases isHop_some hD hr _ _ hv with h | ⟨h, hh⟩
      · exact absurd h hne
      · exact List.length_pos_of_mem ((hx.2 h).2 hh)
theorem hop_root {E : List Ed} {DD : Vx → Vx → Option Val2} {r : Vx} (hD : Dists E DD) (hr : r.kind = 1) {h : Hp} : ¬ isHop E DD r r h := by
  rintro ⟨e, he, hc, hs, a, ha, hh⟩
  rw [(hD r).root] at ha
  injection ha with ha
  subst ha
  obtain ⟨-, -, hk⟩ := cntE_iff.1 hc
  have hsk : e.fk = r.kind := by rw [← hs]; rfl
  rcases hh with ⟨-, h2, -⟩ | ⟨f, -, -, -, b, -, h2, -⟩ <;> simp only at h2 <;> omega
theorem node_root {E : List Ed} {DD : Vx → Vx → Option Val2} {r : Vx} {N : List NodeM} (hD : Dists E DD) (hr : r.kind = 1) (hT : TreeIs E DD r (N.map NodeM.nk)) {j : Nat} (hj : j < N.length) (he : N[j].v = r) :
    N[j].a.c = 0 ∧ N[j].a.h = 0 ∧ N[j].next.length = 0 := by
  have hm : N[j].nk ∈ N.map NodeM.nk := List.mem_map.2 ⟨_, List.getElem_mem hj, rfl⟩
  have hv : DD r N[j].v = some N[j].a := hT.val _ hm
  have hx := hT.next _ hm
  rw [he, (hD r).root] at hv
  injection hv with hv
  rw [← hv]
  refine ⟨rfl, rfl, ?_⟩
  cases hn : N[j].next with
  | nil => rfl
  | cons h l =>
    have hh := (hx.2 h).1 (by show h ∈ N[j].next; rw [hn]; simp)
    have hh' : isHop E DD r r h := by
      have : N[j].nk.v = r := he
      rw [this] at hh
      exact hh
    exact absurd hh' (hop_root hD hr)
theorem tree_some {E : List Ed} {DD : Vx → Vx → Option Val2} {r : Vx} {N : List NodeM} (hD : Dists E DD) (hT : TreeIs E DD r (N.map NodeM.nk)) : 0 < N.length := by
  obtain ⟨n, hn, -⟩ := hT.has _ _ (hD r).root
  rw [← List.length_map (f := NodeM.nk)]
  exact List.length_pos_of_mem hn

end Go.Proofs.Ytpfjgecdlilkcaa
