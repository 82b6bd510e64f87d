/-
  Arguments opened: slices of structs, as lists.
-/
import Derived.Test.YtkaeedffhmlomaaProg
import Derived.Test.YtkaeedffhmlomaaBase
import Derived.ProofKit
import Derived.OpenShut
import Derived.Deep.Slices
import Derived.Deep.Fields
import Derived.ChangeSame
import Derived.Lib.SmallJoins
namespace Go.Proofs.Ytkaeedffhmlomaa
open Go.ChangeShapes Go.WideShapes Go.RowKit Go.Deep Go.Joins

section
variable {H : Type} {enc : TypeId × Value → H} {P : Program} {w : World} {base : Nat} {spare : Nat → Bool} {held : Bool}
theorem open_slice_fields {t e : TypeId} {fs : Array Field} {fuel : Nat} {cs : List Value} {x : DataW H × List MemPlace} (ht : P.underlying t = some (.slice e)) (he : P.underlying e = some (.struct fs))
    (hone : oneCellFields P fs = true) (hC : P.cellsOf e = fs.size) (h : DataW.trod enc P w base spare held fuel t cs = some x) :
    (cs = [.slice none 0 0] ∧ x = (.nil, [])) ∨
    ∃ (a : Addr) (len cap m : Nat) (D : Nat → DataW H) (Pl : Nat → List MemPlace), cs = [.slice (some a) len cap] ∧ base ≤ a.block ∧ len ≤ cap ∧ cap ≤ maxLen ∧ m = (if spare a.block then cap else len) ∧
      x = (.slice ((List.range len).map D) ((List.range (m - len)).map fun j => D (len + j)), MemPlace.row a (m * fs.size) ++ (List.range m).flatMap Pl) ∧
      ∀ i, i < m → ∃ (ys : List (DataW H × List MemPlace)) (n : Nat), D i = .agg (ys.map (·.1)) ∧ Pl i = ys.flatMap (·.2) ∧ ys.length = fs.size ∧
        ∀ (j : Nat) (f : Field), fs[j]? = some f → ∃ (v : Value) (y : DataW H × List MemPlace), w.cell? (a.add (i * fs.size + j)) = some v ∧ ys[j]? = some y ∧ DataW.trod enc P w base spare held n f.type [v] = some y := by
  rcases open_slice ht h with h0 | ⟨a, len, cap, m, n, D, Pl, hcs, hb, hl, hm, hmm, hx, hi⟩
  · exact .inl h0
  · refine .inr ⟨a, len, cap, m, D, Pl, hcs, hb, hl, hm, hmm, by rw [hC] at hx; exact hx, fun i him => ?_⟩
    obtain ⟨cs', hc, ht'⟩ := hi i him
    rw [hC] at hc
    obtain ⟨ys, n', hn', hy, hlen, hyl, hf⟩ := DataW.trod_struct he ht'
    obtain ⟨_, hcl, hat⟩ := World.cells?_some hc
    simp only [Prod.mk.injEq] at hy
    refine ⟨ys, n', hy.1, hy.2, hyl, fun j f hj => ?_⟩
    obtain ⟨ho, hk⟩ := hone_of hone j f hj
    have hjl : j < fs.size := (Array.getElem?_eq_some_iff.1 hj).1
    have hcell := hat j hjl
    have hv : cs'[j]? = some (cs'[j]'(by omega)) := List.getElem?_eq_getElem (by omega)
    have h1 := hf j f hj
    rw [ho, hk] at h1
    have hone' : (cs'.drop j).take 1 = [cs'[j]'(by omega)] := by
      rw [List.drop_eq_getElem_cons (by omega)]
      rfl
    rw [hone'] at h1
    have hys : ys[j]? = some (ys[j]'(by omega)) := List.getElem?_eq_getElem (by omega)
    refine ⟨_, _, ?_, hys, h1.trans hys⟩
    rw [← Go.Deep.add_add, hcell, hv]
theorem open_agg5 {r : Reach} {b0 : Nat} {t : TypeId} {f0 f1 f2 f3 f4 : Field} {v : Value} {d : DataW H} {p : List MemPlace} (hs : P.underlying t = some (.struct #[f0, f1, f2, f3, f4])) (hone : oneCellFields P #[f0, f1, f2, f3, f4] = true) (hC : P.cellsOf t = 5)
    (hv : Value.okWide P w r b0 t v) (h : DataW.Trod enc P w base spare held t v d p) :
    ∃ (v0 v1 v2 v3 v4 : Value) (y0 y1 y2 y3 y4 : DataW H × List MemPlace) (n : Nat), v = .agg #[v0, v1, v2, v3, v4] ∧ d = .agg [y0.1, y1.1, y2.1, y3.1, y4.1] ∧ p = y0.2 ++ (y1.2 ++ (y2.2 ++ (y3.2 ++ y4.2))) ∧
      DataW.trod enc P w base spare held n f0.type [v0] = some y0 ∧ DataW.trod enc P w base spare held n f1.type [v1] = some y1 ∧ DataW.trod enc P w base spare held n f2.type [v2] = some y2 ∧ DataW.trod enc P w base spare held n f3.type [v3] = some y3 ∧ DataW.trod enc P w base spare held n f4.type [v4] = some y4 := by
  obtain ⟨cs, rfl, hsz⟩ := okWide_struct hs hv
  obtain ⟨l⟩ := cs
  match l, hsz.trans hC with
  | [c0, c1, c2, c3, c4], _ =>
    obtain ⟨fuel, hf⟩ := h
    obtain ⟨xs, n, _, hx, _, hlen, hg⟩ := DataW.trod_struct hs hf
    obtain ⟨o0, k0⟩ := hone_of hone 0 f0 rfl
    obtain ⟨o1, k1⟩ := hone_of hone 1 f1 rfl
    obtain ⟨o2, k2⟩ := hone_of hone 2 f2 rfl
    obtain ⟨o3, k3⟩ := hone_of hone 3 f3 rfl
    obtain ⟨o4, k4⟩ := hone_of hone 4 f4 rfl
    match xs, hlen with
    | [y0, y1, y2, y3, y4], _ =>
      simp only [Prod.mk.injEq] at hx
      exact ⟨c0, c1, c2, c3, c4, y0, y1, y2, y3, y4, n, rfl, by simpa using hx.1, by simpa using hx.2, by simpa [Value.cells, o0, k0] using hg 0 f0 rfl, by simpa [Value.cells, o1, k1] using hg 1 f1 rfl, by simpa [Value.cells, o2, k2] using hg 2 f2 rfl, by simpa [Value.cells, o3, k3] using hg 3 f3 rfl, by simpa [Value.cells, o4, k4] using hg 4 f4 rfl⟩

end

theorem add_at (b o j : Nat) : (⟨b, o, none⟩ : Addr).add j = ⟨b, o + j, none⟩ := by
  unfold Addr.add; split <;> simp_all

theorem own : ownKnob Try.prog.godebug = none := by kernel_rfl
theorem laidOut : laidOutB Try.prog = true := by kernel_rfl
theorem u8_nat {b : Int} (h : (Lit.int .u8 b).wf = true) : ∃ a : Nat, b = (a : Int) ∧ a ≤ 255 := by
  have hmin : IntKind.u8.min = 0 := rfl
  have hmax : IntKind.u8.max = 255 := rfl
  simp only [Lit.wf, Bool.and_eq_true, decide_eq_true_eq] at h
  exact ⟨b.toNat, by omega, by omega⟩

theorem cellsI : Try.prog.cellsOf 41 = 5 := by kernel_rfl
theorem cellsC : Try.prog.cellsOf 33 = 4 := by kernel_rfl

section
variable {H : Type} {enc : TypeId × Value → H} {w : World} {base : Nat} {spare : Nat → Bool} {held : Bool}
/-- numbers that fit their kind -/
def CWf (c : Cand) : Prop := (Lit.int .i64 c.id).wf = true ∧ (Lit.int .i64 c.prio).wf = true ∧ (Lit.int .i64 c.dr).wf = true ∧ (Lit.int .i64 c.bdr).wf = true
theorem open_cands_wf {a : Option Addr} {len cap : Nat} {d : DataW H} {p : List MemPlace} (h : DataW.Trod enc Try.prog w base spare held 22 (.slice a len cap) d p) :
    ∃ l : List Cand, len = l.length ∧ CandsAt w w.heap.size a l ∧ l.length ≤ maxLen ∧ ∀ c ∈ l, CWf c := by
  obtain ⟨fuel, hf⟩ := h
  rcases open_slice_fields Try.underlying22 Try.underlying33 (by kernel_rfl) cellsC hf with ⟨hcs, _⟩ | ⟨x, len', cap', m, D, Pl, hcs, _, hlc, hcm, hm, _, hi⟩
  · simp [Value.cells] at hcs
    obtain ⟨rfl, rfl, rfl⟩ := hcs
    exact ⟨[], rfl, ⟨rfl, fun h0 => absurd h0 (Nat.lt_irrefl _)⟩, by simp, by simp⟩
  · simp [Value.cells] at hcs
    obtain ⟨rfl, rfl, rfl⟩ := hcs
    have hlm : len ≤ m := by rw [hm]; split <;> omega
    have h4 : ∀ i, i < len → ∃ c : Cand, w.cell? (x.add (i * 4)) = some (.int .i64 c.id) ∧ w.cell? (x.add (i * 4 + 1)) = some (.int .i64 c.prio) ∧ w.cell? (x.add (i * 4 + 2)) = some (.int .i64 c.dr) ∧ w.cell? (x.add (i * 4 + 3)) = some (.int .i64 c.bdr) ∧ CWf c := by
      intro i hil
      obtain ⟨ys, n, _, _, _, hfl⟩ := hi i (by omega)
      have hint : ∀ (t : TypeId), t = 3 → ∀ v y, DataW.trod enc Try.prog w base spare held n t [v] = some y → ∃ z, v = .int .i64 z ∧ (Lit.int .i64 z).wf = true := by
        intro t ht0 v y ht
        rw [ht0] at ht
        obtain ⟨z, e, _, hw⟩ := DataW.trod_int Try.underlying3 ht
        exact ⟨z, by simpa using e, hw⟩
      obtain ⟨v0, y0, c0, _, t0⟩ := hfl 0 _ rfl
      obtain ⟨v1, y1, c1, _, t1⟩ := hfl 1 _ rfl
      obtain ⟨v2, y2, c2, _, t2⟩ := hfl 2 _ rfl
      obtain ⟨v3, y3, c3, _, t3⟩ := hfl 3 _ rfl
      obtain ⟨z0, rfl, q0⟩ := hint _ rfl _ _ t0
      obtain ⟨z1, rfl, q1⟩ := hint _ rfl _ _ t1
      obtain ⟨z2, rfl, q2⟩ := hint _ rfl _ _ t2
      obtain ⟨z3, rfl, q3⟩ := hint _ rfl _ _ t3
      exact ⟨⟨z0, z1, z2, z3⟩, c0, c1, c2, c3, q0, q1, q2, q3⟩
    obtain ⟨f, hf⟩ := @choose_lt _ ⟨Cand.zero⟩ _ _ h4
    have hl : ((List.range len).map f).length = len := by simp
    refine ⟨(List.range len).map f, hl.symm, ⟨length_flat _, fun h0 => ?_⟩, by rw [hl]; omega, fun c hc => ?_⟩
    rotate_left
    · obtain ⟨i, hi, rfl⟩ := List.mem_map.1 hc
      exact (hf i (by simpa using hi)).2.2.2.2
    rw [hl] at h0
    obtain ⟨b, o, spot⟩ := x
    have hsp : spot = none := by
      have := (hf 0 h0).1
      simpa [Addr.add] using World.cell?_spot this
    subst hsp
    refine ⟨b, o, rfl, ?_, fun j u hu => ?_⟩
    · have := World.block_lt_of_cell? w _ (hf 0 h0).1
      simpa [Addr.add] using this
    · have hj := (List.getElem?_eq_some_iff.1 hu).1
      rw [length_flat, hl] at hj
      have hk : j / 4 < len := by omega
      have h := hf (j / 4) hk
      have hg := flat4 ((List.range len).map f) (j / 4) (by rw [hl]; exact hk)
      have hgk : ((List.range len).map f)[j / 4]'(by rw [hl]; exact hk) = f (j / 4) := by simp
      rw [hgk] at hg
      simp only [add_at] at h
      have hr : j = j / 4 * 4 ∨ j = j / 4 * 4 + 1 ∨ j = j / 4 * 4 + 2 ∨ j = j / 4 * 4 + 3 := by omega
      rcases hr with e | e | e | e
      · rw [e] at hu ⊢; rw [hg.1] at hu; rw [h.1]; exact hu
      · rw [e] at hu ⊢; rw [hg.2.1] at hu; rw [h.2.1]; exact hu
      · rw [e] at hu ⊢; rw [hg.2.2.1] at hu; rw [h.2.2.1]; exact hu
      · rw [e] at hu ⊢; rw [hg.2.2.2] at hu; rw [h.2.2.2.1]; exact hu
theorem open_cands {a : Option Addr} {len cap : Nat} {d : DataW H} {p : List MemPlace} (h : DataW.Trod enc Try.prog w base spare held 22 (.slice a len cap) d p) :
    ∃ l : List Cand, len = l.length ∧ CandsAt w w.heap.size a l ∧ l.length ≤ maxLen := by
  obtain ⟨l, h1, h2, h3, _⟩ := open_cands_wf h
  exact ⟨l, h1, h2, h3⟩

set_option maxRecDepth 100000 in
theorem open_two8 {r : Reach} {b0 : Nat} {v : Value} {d : DataW H} {p : List MemPlace} (hv : Value.okWide Try.prog w r b0 37 v) (h : DataW.Trod enc Try.prog w base spare held 37 v d p) :
    ∃ x y : Nat, v = .agg #[.int .u8 (x : Int), .int .u8 (y : Int)] ∧ x ≤ 255 ∧ y ≤ 255 := by
  obtain ⟨fuel, hf⟩ := h
  obtain ⟨xs, m, _, _, hlen, _, hi⟩ := DataW.trod_array Try.underlying37 hf
  have hc2 : Try.prog.cellsOf 37 = 2 := by kernel_rfl
  have hc1 : Try.prog.cellsOf 5 = 1 := by kernel_rfl
  have hxs : ∀ i, i < 2 → ∃ y, DataW.trod enc Try.prog w base spare held m 5 ((v.cells.toList.drop i).take 1) = some y := by
    intro i h2
    have := hi i h2
    rw [hc1, Nat.mul_one] at this
    have hl : i < xs.length := by omega
    exact ⟨xs[i], by rw [this, List.getElem?_eq_getElem hl]⟩
  rw [hc2] at hlen
  obtain ⟨c0, c1, hcs⟩ : ∃ c0 c1, v.cells.toList = [c0, c1] := by
    match hc : v.cells.toList, hlen with
    | [c0, c1], _ => exact ⟨c0, c1, rfl⟩
  obtain ⟨y0, t0⟩ := hxs 0 (by omega)
  obtain ⟨y1, t1⟩ := hxs 1 (by omega)
  rw [hcs] at t0 t1
  simp at t0 t1
  obtain ⟨n0, e0, _, w0⟩ := DataW.trod_int Try.underlying5 t0
  obtain ⟨n1, e1, _, w1⟩ := DataW.trod_int Try.underlying5 t1
  obtain ⟨a0, rfl, q0⟩ := u8_nat w0
  obtain ⟨a1, rfl, q1⟩ := u8_nat w1
  simp at e0 e1
  refine ⟨a0, a1, ?_, q0, q1⟩
  have hcells : v.cells = #[.int .u8 (a0 : Int), .int .u8 (a1 : Int)] := by
    apply Array.toList_inj.1; rw [hcs, e0, e1]
  have hsz := hv
  simp only [Value.okWide, Try.underlying37] at hsz
  obtain ⟨cs, rfl, _⟩ := hsz
  exact congrArg Value.agg hcells

set_option maxRecDepth 100000 in
theorem open_iface5 {r : Reach} {b0 : Nat} {v : Value} {d : DataW H} {p : List MemPlace} (hv : Value.okWide Try.prog w r b0 41 v) (h : DataW.Trod enc Try.prog w base spare held 41 v d p) :
    ∃ a b c d e : Int, v = .agg #[.int .i64 a, .int .i64 b, .int .i64 c, .int .i64 d, .int .i64 e] := by
  obtain ⟨v0, v1, v2, v3, v4, y0, y1, y2, y3, y4, n, rfl, _, _, t0, t1, t2, t3, t4⟩ := open_agg5 Try.underlying41 (by kernel_rfl) cellsI hv h
  obtain ⟨z0, e0, _, _⟩ := DataW.trod_int Try.underlying3 t0
  obtain ⟨z1, e1, _, _⟩ := DataW.trod_int Try.underlying3 t1
  obtain ⟨z2, e2, _, _⟩ := DataW.trod_int Try.underlying3 t2
  obtain ⟨z3, e3, _, _⟩ := DataW.trod_int Try.underlying3 t3
  obtain ⟨z4, e4, _, _⟩ := DataW.trod_int Try.underlying3 t4
  simp at e0 e1 e2 e3 e4
  subst e0 e1 e2 e3 e4
  exact ⟨_, _, _, _, _, rfl⟩
set_option maxRecDepth 100000 in
theorem open_cand4 {r : Reach} {b0 : Nat} {v : Value} {d : DataW H} {p : List MemPlace} (hv : Value.okWide Try.prog w r b0 33 v) (h : DataW.Trod enc Try.prog w base spare held 33 v d p) :
    ∃ a b c d : Int, v = .agg #[.int .i64 a, .int .i64 b, .int .i64 c, .int .i64 d] := by
  obtain ⟨v0, v1, v2, v3, y0, y1, y2, y3, n, rfl, _, _, t0, t1, t2, t3⟩ := open_agg4 Try.underlying33 (by kernel_rfl) cellsC hv h
  obtain ⟨z0, e0, _, _⟩ := DataW.trod_int Try.underlying3 t0
  obtain ⟨z1, e1, _, _⟩ := DataW.trod_int Try.underlying3 t1
  obtain ⟨z2, e2, _, _⟩ := DataW.trod_int Try.underlying3 t2
  obtain ⟨z3, e3, _, _⟩ := DataW.trod_int Try.underlying3 t3
  simp at e0 e1 e2 e3
  subst e0 e1 e2 e3
  exact ⟨_, _, _, _, rfl⟩
end

end Go.Proofs.Ytkaeedffhmlomaa
