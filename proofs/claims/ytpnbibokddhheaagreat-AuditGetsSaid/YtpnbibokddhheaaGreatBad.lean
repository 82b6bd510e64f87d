/-
  clear of the end of a row of structs that the call made itself, whatever the struct; the row is cut there.
-/
import Derived.Laws.CopyRow
import Derived.StillTail
import Derived.Deep.QuietTactic
import Derived.Lib.QuietBelow
import Derived.Sort.Grow
import Derived.OrdersHeld
import Derived.Deep.Quiet
import Derived.Laws.FloatArith
import Derived.WalkKit
import Derived.Laws.ComplexArith
import Derived.Test.YtpnbibokddhheaaGreatBaa
import Derived.Test.YtpnbibokddhheaaGreatBab
import Derived.Test.YtpnbibokddhheaaGreatBac
namespace Go.Proofs.YtpnbibokddhheaaGreat
open Go.RowKit

theorem setRow_grown (w : World) (g : Nat) (cs : Array Value) : w.grownBy (w.setRow g cs) (some g) := by
  refine ⟨rfl, rfl, rfl, by simp, fun k hk hne => ?_⟩
  unfold World.setRow
  simp only
  have : g ≠ k := fun e => hne (by rw [e])
  simp [Array.getElem?_modify, this]
theorem zeroCells_one {z : Value} (h : ∀ u ∈ z.cells, u.oneCell' = true) (n : Nat) : ∀ u ∈ (Builtin.zeroCells z.cells n).toList, u.oneCell' = true := by
  intro u hu
  unfold Builtin.zeroCells at hu
  rw [Array.toList_map, List.mem_map] at hu
  obtain ⟨i, hi, rfl⟩ := hu
  by_cases h0 : z.cells.size = 0
  · simp [h0] at hi
  · have hlt : i % z.cells.size < z.cells.size := Nat.mod_lt _ (by omega)
    rw [getElem!_pos z.cells _ hlt]
    exact h _ (Array.getElem_mem hlt)
section
variable {α : Type} {e : TypeId} {C : Nat} {cells : α → List Value} {w : World} {B g cap n : Nat} {L : List α}
theorem flat_take (hC : ∀ x, (cells x).length = C) : ∀ (L : List α) (k : Nat), (L.take k).flatMap cells = (L.flatMap cells).take (k * C)
  | [], k => by simp
  | c :: L, 0 => by simp
  | c :: L, k + 1 => by
    rw [List.take_succ_cons, List.flatMap_cons, List.flatMap_cons, flat_take hC L k, List.take_append, hC]
    rw [show (k + 1) * C - C = k * C by rw [Nat.add_mul]; omega, List.take_of_length_le (l := cells c) (by rw [hC, Nat.add_mul]; omega)]
theorem OwnR.cut (hC : ∀ x, (cells x).length = C) (h : OwnR e C cells w B (.slice (some ⟨g, 0, none⟩) n cap) L) (hn : n = L.length) (k : Nat) (hk : k ≤ n) : OwnR e C cells w B (.slice (some ⟨g, 0, none⟩) k cap) (L.take k) := by
  subst hn
  have hl : (L.take k).length = k := by rw [List.length_take]; omega
  unfold OwnR
  rw [hl]
  rcases h.2 with ⟨hv, -⟩ | ⟨g', cap', cur, hv, hb, hg, hnc, hcm, hcs, ht⟩
  · cases hv
  · simp only [Value.slice.injEq, Option.some.injEq, Addr.mk.injEq, and_true, true_and] at hv
    obtain ⟨rfl, rfl⟩ := hv
    refine ⟨by rw [flatLenR cells C hC, hl], .inr ⟨g, cap, cur, rfl, hb, hg, by omega, hcm, hcs, ?_⟩⟩
    rw [flat_take hC, ← ht, List.take_take, Nat.min_eq_left (Nat.mul_le_mul_right C hk)]
theorem OwnR.clear_run (hC : ∀ x, (cells x).length = C) {sl : TypeId} (hsl : Tryz.prog.underlying sl = some (.slice e)) {z : Value} (hz : ∀ w, (zeroValue e).run Tryz.prog w = .ok z w) (hzc : z.cells.size = C) (hz1 : ∀ u ∈ z.cells, u.oneCell' = true)
    (h : OwnR e C cells w B (.slice (some ⟨g, 0, none⟩) n cap) L) (hn : n = L.length) (k : Nat) (hk : k ≤ n) (m c : Nat) (hm : k + m ≤ n) (ty : TypeId) :
    ∃ w', (Builtin.clear_ #[sl] ty #[.slice (some ⟨g, k * C, none⟩) m c]).run Tryz.prog w = .ok (.tuple #[]) w' ∧ OwnR e C cells w' B (.slice (some ⟨g, 0, none⟩) k cap) (L.take k) ∧ w.grownBy w' (some g) := by
  rcases Nat.eq_zero_or_pos m with rfl | hm0
  · refine ⟨w, ?_, h.cut hC hn k hk, rfl, rfl, rfl, Nat.le_refl _, fun _ _ _ => rfl⟩
    simp [Builtin.clear_, run_underlying hsl]
  · subst hn
    have hl : (L.take k).length = k := by rw [List.length_take]; omega
    rcases h.2 with ⟨hv, -⟩ | ⟨g', cap', cur, hv, hb, hg, hnc, hcm, hcs, ht⟩
    · cases hv
    · simp only [Value.slice.injEq, Option.some.injEq, Addr.mk.injEq, and_true, true_and] at hv
      obtain ⟨rfl, rfl⟩ := hv
      have hzl : (Builtin.zeroCells z.cells m).toList.length = m * C := by
        rw [Array.length_toList]
        unfold Builtin.zeroCells
        simp [hzc]
      have hle : k * C + m * C ≤ cur.size := by
        rw [hcs, ← Nat.add_mul]
        exact Nat.mul_le_mul_right C (by omega)
      have hst := run_storeCells_at (P := Tryz.prog) g (k * C) e (Builtin.zeroCells z.cells m).toList 0 cur w hg (by rw [hzl]; omega) (zeroCells_one hz1 m)
      simp only [Nat.add_zero] at hst
      refine ⟨w.setRow g (cur.toList.take (k * C) ++ (Builtin.zeroCells z.cells m).toList ++ cur.toList.drop (k * C + (Builtin.zeroCells z.cells m).toList.length)).toArray, ?_, ?_, setRow_grown w g _⟩
      · obtain ⟨m, rfl⟩ : ∃ j, m = j + 1 := ⟨m - 1, by omega⟩
        simp [Builtin.clear_, run_underlying hsl, hz, hst]
      · unfold OwnR
        rw [hl]
        refine ⟨by rw [flatLenR cells C hC, hl], .inr ⟨g, cap, _, rfl, hb, setRow_heap w g cur _ e (0, 0) hg, by omega, hcm, ?_, ?_⟩⟩
        · simp only [List.size_toArray, List.length_append, List.length_take, List.length_drop, Array.length_toList]
          rw [Array.length_toList] at hzl
          omega
        · rw [flat_take hC, ← ht]
          simp only
          have hkn := Nat.mul_le_mul_right C hk
          have e1 : ∀ X : List Value, (cur.toList.take (k * C) ++ X).take (k * C) = (cur.toList.take (L.length * C)).take (k * C) := by
            intro X
            rw [List.take_append_of_le_length (by rw [List.length_take, Array.length_toList]; omega), List.take_take, List.take_take, Nat.min_self, Nat.min_eq_left hkn]
          rw [List.append_assoc]
          exact e1 _
variable {ops : Array Oper} {Q : Exit → Act → World → Prop} {o : Oper} {rest : List Oper} {a : Act}
theorem wpList_clear_row (hC : ∀ x, (cells x).length = C) {sl : TypeId} (hsl : Tryz.prog.underlying sl = some (.slice e)) {z : Value} (hz : ∀ w, (zeroValue e).run Tryz.prog w = .ok z w) (hzc : z.cells.size = C) (hz1 : ∀ u ∈ z.cells, u.oneCell' = true)
    (hgd : o.guard = none) (s : Operand) (ho : o.op = .call { callee := .builtin .clear, args := #[s], argTypes := #[sl] })
    (h : OwnR e C cells w B (.slice (some ⟨g, 0, none⟩) n cap) L) (hn : n = L.length) (k : Nat) (hk : k ≤ n) (m c off : Nat) (hoff : off = k * C) (hm : k + m ≤ n) (hs : a.eval s = .slice (some ⟨g, off, none⟩) m c)
    (hK : ∀ w', OwnR e C cells w' B (.slice (some ⟨g, 0, none⟩) k cap) (L.take k) → w.grownBy w' (some g) → wpList Tryz.prog ops Q rest (a.put o.dst (.tuple #[])) w') : wpList Tryz.prog ops Q (o :: rest) a w := by
  subst hoff
  refine wpList_plain hgd fun K' hK' => ?_
  obtain ⟨w', hrun, h1, h2⟩ := h.clear_run hC hsl hz hzc hz1 hn k hk m c hm o.type
  unfold Oper.wp
  simp [execOp, ho, resolve, invoke, builtin, hs, hrun, Result.andThen]
  exact hK' _ _ (hK w' h1 h2)
end

theorem OwnR.froz {α : Type} {e : TypeId} {C : Nat} {cells : α → List Value} {w : World} {B g n cap : Nat} {l : List α} (h : OwnR e C cells w B (.slice (some ⟨g, 0, none⟩) n cap) l) (i : Nat) : w.frozen? ⟨g, i, none⟩ = false := by
  rcases h.2 with ⟨hv, -⟩ | ⟨g', cap', cur, hv, -, hb, -⟩
  · cases hv
  · simp only [Value.slice.injEq, Option.some.injEq, Addr.mk.injEq, and_true] at hv
    obtain ⟨rfl, -, -⟩ := hv
    simp [World.frozen?, hb]
theorem OwnR.first {α : Type} {e : TypeId} {C : Nat} {cells : α → List Value} {w : World} {B n cap : Nat} {A : Option Addr} {l : List α} (h : OwnR e C cells w B (.slice A n cap) l) (hl : 0 < l.length) : ∃ g, A = some ⟨g, 0, none⟩ := by
  rcases h.2 with ⟨hv, h0⟩ | ⟨g, cap', cur, hv, -⟩
  · omega
  · injection hv with hA
    exact ⟨g, hA⟩
theorem OwnR.far {α : Type} {e : TypeId} {C : Nat} {cells : α → List Value} {w : World} {B : Nat} {v : Value} {L : List α} (h : OwnR e C cells w B v L) {p : Addr} (hp : v.ownBlock ≠ some p.block) (u : Value) : OwnR e C cells (w.setCell p u) B v L :=
  h.kept (row := some p.block) ⟨rfl, rfl, rfl, by simp, fun k _ hne => Below.heap_setCell w p u k (fun e => hne (by rw [e]))⟩ (.inr hp)

/-- a row that was laid just now -/
theorem OwnR.lit {α : Type} {e : TypeId} {C : Nat} {cells : α → List Value} (hC : ∀ x, (cells x).length = C) {w : World} {g B n : Nat} {L : List α} (h : Blk w g e (L.flatMap cells).toArray) (hB : B ≤ g) (hn : n = L.length) (h0 : 0 < n) (hm : n ≤ maxLen) : OwnR e C cells w B (.slice (some ⟨g, 0, none⟩) n n) L := by
  subst hn
  refine ⟨flatLenR cells C hC L, .inr ⟨g, _, _, rfl, hB, h, Nat.le_refl _, hm, ?_, ?_⟩⟩
  · rw [List.size_toArray, flatLenR cells C hC L]
  · exact List.take_of_length_le (by rw [flatLenR cells C hC L]; exact Nat.le_refl _)

end Go.Proofs.YtpnbibokddhheaaGreat

/-
  A region that draws its order: operations that are quiet in a class of worlds, in whatever order, and behind them a forced tail: one walk.
-/
namespace Go.Proofs.YtpnbibokddhheaaGreat
open Go Go.Sort

section
variable {P : Program} {ops : Array Oper} {C : World → Prop}

/-- The head's operations, whichever comes up, and then L. -/
def headQ (P : Program) (ops : Array Oper) (C : World → Prop) (n : Nat) (L : Array Bool → Act → Prop) : Nat → Array Bool → Act → Prop
  | 0, s, a => L s a
  | f + 1, s, a => Region.ready .any ops s ≠ [] ∧ ∀ i, i ∈ Region.ready .any ops s → i < n ∧ qOp P ops C i (headQ P ops C n L f (s.setIfInBounds i true)) a

theorem headQ_any {n g : Nat} {L : Array Bool → Act → Prop} {Q : Exit → Act → World → Prop} (hL : ∀ s a w, C w → L s a → wpAny P .any ops Q g s a w) (f : Nat) :
    ∀ s a w, C w → headQ P ops C n L f s a → wpAny P .any ops Q (f + g) s a w := by
  induction f with
  | zero => intro s a w hw h; rw [Nat.zero_add]; exact hL s a w hw h
  | succ f ih =>
    intro s a w hw h
    rw [Nat.succ_add]
    exact ⟨fun h0 => absurd h0 h.1, fun i hi => wpOp_of_qOp hw (fun a' w' hw' h' => ih _ a' w' hw' h') (h.2 i hi).2⟩

theorem headQ_take {n i : Nat} {oi : Oper} {v : Value} {L : Array Bool → Act → Prop} (hi : ops[i]? = some oi) (hsel : ∀ (j : Nat) (o : Oper) cs b, ops[j]? = some o → o.op ≠ .select cs b)
    (hs : Region.sinkB .any ops n = true) (hc : Region.chainB .any ops n = true) (hn : n < ops.size) (hin : i < n) (hdone : ∀ s a, L s a → ∀ j, j ∈ Region.ready .any ops s → n ≤ j) (f : Nat) :
    ∀ s a, HeadInv .any ops n s → (∀ j oj, ops[j]? = some oj → j ≠ i → s.getD j true = false → (∀ e, e ∈ oj.after → Region.binds .any e = true → e.on ≠ i) → oi.apart ops oj = true) →
      i ∈ Region.ready .any ops s → YieldsIn P ops C oi v a → headQ P ops C n L f (s.setIfInBounds i true) (a.put oi.dst v) → headQ P ops C n L (f + 1) s a := by
  induction f with
  | zero =>
    intro s a inv _ hr hy H
    have hun := (mem_ready.1 hr).1
    refine ⟨fun h0 => by rw [h0] at hr; exact absurd hr List.not_mem_nil, fun j hj => ?_⟩
    have hjn : j < n := Nat.lt_of_not_le fun h => tail_waits hs hc hn inv _ i rfl hin hun j h hj
    refine ⟨hjn, ?_⟩
    by_cases hji : j = i
    · subst hji; exact hy.qOp hi H
    · exact absurd (hdone _ _ H j (ready_mono hj hji)) (by omega)
  | succ f ih =>
    intro s a inv hfree hr hy H
    have hun := (mem_ready.1 hr).1
    refine ⟨fun h0 => by rw [h0] at hr; exact absurd hr List.not_mem_nil, fun j hj => ?_⟩
    have hjn : j < n := Nat.lt_of_not_le fun h => tail_waits hs hc hn inv _ i rfl hin hun j h hj
    refine ⟨hjn, ?_⟩
    by_cases hji : j = i
    · subst hji; exact hy.qOp hi H
    · obtain ⟨hjun, oj, hoj, hall⟩ := mem_ready.1 hj
      have hno : ∀ e, e ∈ oj.after → Region.binds .any e = true → e.on ≠ i := by
        intro e he hb heq
        have h1 := hall e he hb
        rw [heq, getD_both hun] at h1
        exact Bool.noConfusion h1
      refine qOp_mono (fun a' h3 => ih (s.setIfInBounds j true) a' (inv.set hj hjn) ?_ (ready_mono hr (Ne.symm hji)) h3.1 ?_)
        (qOp_put hoj (hfree j oj hoj hji hjun hno) (fun cs b => hsel i oi cs b hi) (fun cs b => hsel j oj cs b hoj) hy (H.2 j (ready_mono hj hji)).2)
      · intro k ok hk hki hku hkn
        refine hfree k ok hk hki ?_ hkn
        by_cases hjk : j = k
        · subst hjk; exact hjun
        · rwa [getD_set_ne true hjk] at hku
      · rw [Array.setIfInBounds_comm _ _ hji]; exact h3.2

theorem headQ_text {n g : Nat} {R : Act → Prop} (hsel : Region.noSelect ops = true) (hs : Region.sinkB .any ops n = true) (hc : Region.chainB .any ops n = true) (hn : n < ops.size) (l : List Oper) :
    ∀ (k : Nat) (s : Array Bool) (a : Act), (∀ j, j < l.length → l[j]? = ops[k + j]?) → k + l.length = n → HeadInv .any ops n s → Region.lexHead .any ops g l.length k s = true → wpQuiet P ops C R l a →
      headQ P ops C n (fun s' a' => Region.seqB .any ops g n s' = true ∧ R a') l.length s a := by
  induction l with
  | nil =>
    intro k s a _ hk _ hB h
    obtain rfl : k = n := by simpa using hk
    exact ⟨by simpa [Region.lexHead] using hB, h⟩
  | cons o l ih =>
    intro k s a hl hk inv hB h
    have h0 : ops[k]? = some o := by have := hl 0 (by simp); simpa using this.symm
    simp only [List.length_cons, Region.lexHead, Bool.and_eq_true] at hB
    have hkn : k < n := by simp only [List.length_cons] at hk; omega
    have hr : k ∈ Region.ready .any ops s := by simpa using hB.1.1
    have hq : qOp P ops C k (wpQuiet P ops C R l) a := by unfold qOp; simp only [h0]; exact h
    obtain ⟨v, hy, hK⟩ := yieldsIn_of_qOp h0 hq
    refine headQ_take h0 (Region.noSelect_spec hsel) hs hc hn hkn (fun s' a' hL => seqB_ready hL.1) l.length s a inv (Region.free_spec h0 hB.1.2) hr hy ?_
    refine ih (k + 1) _ _ (fun j hj => ?_) (by simp only [List.length_cons] at hk; omega) (inv.set hr hkn) hB.2 hK
    have := hl (j + 1) (by simp; omega)
    simpa [Nat.add_assoc, Nat.add_comm 1 j] using this

theorem wp_quiet_tail {id : Nat} {Q : Exit → Act → World → Prop} {a : Act} {w : World} {l : List Oper} (n : Nat) (hm : P.follows .mixedOrders = true) (hB : Region.lexTailB .any l.toArray n = true) (hC : C { w with drawn := w.drawn + 1 })
    (h : wpQuiet P l.toArray C (fun a' => ∀ w', C w' → wpList P l.toArray Q (l.drop n) a' w') (l.take n) a) : (Code.region id l.toArray true).wp P Q a w := by
  simp only [Region.lexTailB, Bool.and_eq_true, decide_eq_true_eq] at hB
  obtain ⟨⟨⟨⟨hsel, hn⟩, hs⟩, hc⟩, hlex⟩ := hB
  have hn' : n < l.length := by simpa using hn
  have htl : (l.take n).length = n := by simp; omega
  have inv : HeadInv .any l.toArray n (Array.replicate l.toArray.size false) :=
    ⟨by simp, fun j oj _ hl => (by rw [getD_replicate_false] at hl; exact Bool.noConfusion hl), fun t _ ht => getD_in (by simpa using ht) (getD_replicate_false _ _)⟩
  have H := headQ_text (g := l.toArray.size - n) hsel hs hc hn (l.take n) 0 _ a (fun j hj => by
    rw [htl] at hj
    simp [hj]) (by simpa using htl) inv (by rw [htl]; exact hlex) h
  refine wp_region_any hm ?_
  have := headQ_any (Q := Q) (g := l.toArray.size - n) (fun s a' w' hw' hL => by
    have := wpAny_of_seq (md := .any) (Q' := Q) (l.drop n) n s a' w' (fun j => by simp [List.getElem?_drop]) (by simpa using hL.1) (hL.2 w' hw')
    simpa using this) _ _ _ _ hC H
  rw [htl, show n + (l.toArray.size - n) = l.toArray.size by omega] at this
  exact this
end

/-- At the class of the worlds in which nothing old has turned. -/
theorem wp_below_tail {P : Program} {id : Nat} {Q : Exit → Act → World → Prop} {a : Act} {w : World} {l : List Oper} (n : Nat) (hm : P.follows .mixedOrders = true) (hB : Region.lexTailB .any l.toArray n = true)
    (h : wpQuiet P l.toArray (fun w' => ∃ p : Regrown, w' = grow (redrawn w p.d) p.os) (fun a' => ∀ w', (∃ p : Regrown, w' = grow (redrawn w p.d) p.os) → wpList P l.toArray Q (l.drop n) a' w') (l.take n) a) : (Code.region id l.toArray true).wp P Q a w :=
  wp_quiet_tail (C := fun w' => ∃ p : Regrown, w' = grow (redrawn w p.d) p.os) n hm hB ⟨⟨w.drawn + 1, #[]⟩, by rw [grow_empty]; rfl⟩ h

end Go.Proofs.YtpnbibokddhheaaGreat

/-
  cmp.Compare and cmp.Or at ints, in plain words and walked.
-/
namespace Go.Proofs.YtpnbibokddhheaaGreat
open Go.RowKit Go.Sort

def cmpI (a b : Int) : Int := if a < b then -1 else if b < a then 1 else 0
theorem cmpI_cases (a b : Int) : (a < b ∧ cmpI a b = -1) ∨ (¬a < b ∧ b < a ∧ cmpI a b = 1) ∨ (¬a < b ∧ ¬b < a ∧ cmpI a b = 0) := by
  unfold cmpI
  by_cases h1 : a < b
  · exact .inl ⟨h1, by simp [h1]⟩
  · by_cases h2 : b < a
    · exact .inr (.inl ⟨h1, h2, by simp [h1, h2]⟩)
    · exact .inr (.inr ⟨h1, h2, by simp [h1, h2]⟩)
set_option maxHeartbeats 400000 in
theorem isNaN_any (a : Int) (w : World) : Calls Tryz.prog 100 #[.int .i64 a] w fun r w' => r = .returned (.bool false) ∧ Below w.heap.size w w' := by
  go_enter Tryz.func100, Tryz.ntmps100
  go_wp2
  go_ret
  exact ⟨by simp, Below.refl _ _⟩
set_option maxHeartbeats 1000000 in
theorem cmp_any (a b : Int) (w : World) : Calls Tryz.prog 60 #[.int .i64 a, .int .i64 b] w fun r w' => r = .returned (.int .i64 (cmpI a b)) ∧ Below w.heap.size w w' := by
  rcases cmpI_cases a b with ⟨h1, e⟩ | ⟨h1, h2, e⟩ | ⟨h1, h2, e⟩
  all_goals
    rw [e]
    clear e
    go_enter Tryz.func60, Tryz.ntmps60
    go_wp2_with (first
      | (have _ := Hb1.out; go_at_call 100; (with_reducible refine Calls.mono (isNaN_any _ _) ?_); rintro r w2 ⟨rfl, hb2⟩; have Hb2 := Lib.hid (Hb1.out.trans (hb2.mono Hb1.out.size)); clear hb2)
      | (go_at_call 100; (with_reducible refine Calls.mono (isNaN_any _ _) ?_); rintro r w1 ⟨rfl, hb1⟩; have Hb1 := Lib.hid hb1; clear hb1))
    go_ret
    exact ⟨rfl, Hb2.out⟩
def orL : List Int → Int
  | [] => 0
  | x :: l => if x = 0 then orL l else x
theorem orL_at : ∀ (l : List Int) (k : Nat) (hk : k < l.length), (∀ j, (hj : j < k) → l[j] = 0) → l[k] ≠ 0 → orL l = l[k]
  | x :: l, 0, _, _, h => by
    simp only [List.getElem_cons_zero] at h ⊢
    simp only [orL, if_neg h]
  | x :: l, k + 1, hk, h0, h => by
    have hx : x = 0 := h0 0 (by omega)
    simp only [orL, hx, if_true]
    exact orL_at l k (by simpa using hk) (fun j hj => h0 (j + 1) (by omega)) h
theorem orL_zero : ∀ (l : List Int), (∀ j, (hj : j < l.length) → l[j] = 0) → orL l = 0
  | [], _ => rfl
  | x :: l, h => by
    have hx : x = 0 := h 0 (by simp)
    simp only [orL, hx, if_true]
    exact orL_zero l (fun j hj => h (j + 1) (by simpa using hj))
set_option maxHeartbeats 1000000 in
theorem or_any (l : List Int) (hlen : l.length ≤ 1000) (g cap : Nat) (w : World) (hl : ∀ k, (hk : k < l.length) → w.cell? ⟨g, k, none⟩ = some (.int .i64 l[k])) (hg : g < w.heap.size) (n : Nat) (hn : n = l.length) {x : Int} (hx : orL l = x) :
    Calls Tryz.prog 59 #[.slice (some ⟨g, 0, none⟩) n cap] w fun r w' => r = .returned (.int .i64 x) ∧ Below w.heap.size w w' := by
  subst hn
  have Hl := Lib.hid hl
  have Hx := Lib.hid hx
  clear hl hx
  go_enter Tryz.func59, Tryz.ntmps59
  go_wp2
  go_loopw [8] (fun i wr => ∃ k : Nat, k ≤ l.length ∧ i = .int .i64 k ∧ (∀ j, (hj : j < k) → (hjl : j < l.length) → l[j] = 0) ∧ Below w.heap.size w wr) (fun i _ => l.length - (intOf i).toNat)
  case atStart => exact ⟨0, Nat.zero_le _, rfl, fun j hj => absurd hj (by omega), Below.refl _ _⟩
  case round =>
    obtain ⟨k, hk, rfl, h0, hb⟩ := hrel
    have H0 := Lib.hid h0
    have Hb := Lib.hid hb
    by_cases hlt : k < l.length
    · have e0 : wr.cell? ⟨g, k, none⟩ = some (.int .i64 l[k]) := (hb.cell hg).trans (Hl.out k hlt)
      have hat := fun h => orL_at l k hlt (fun j hj => h0 j hj (by omega)) h
      clear h0 hb
      by_cases hz : l[k] = 0
      · have Hz := Lib.hid hz
        rw [hz] at e0
        clear hz hat
        go_wp2
        go_roundw
        case measure => simp [intOf]; omega
        case rel =>
          refine ⟨k + 1, hlt, by go_num, fun j hj hjl => ?_, Hb.out⟩
          by_cases hjk : j = k
          · subst hjk; exact Hz.out
          · exact H0.out j (by omega) hjl
      · have hat := hat hz
        rw [Hx.out] at hat
        rw [← hat] at e0 hz
        have hz' : (x != 0) = true := by simpa using hz
        clear hat hz
        go_wp2
        go_ret
        exact ⟨rfl, Hb.out⟩
    · have : k = l.length := by omega
      subst this
      have hz : x = 0 := by rw [← Hx.out]; exact orL_zero l (fun j hj => h0 j hj hj)
      subst hz
      clear h0 hb
      go_wp2
      go_ret
      exact ⟨rfl, Hb.out⟩

end Go.Proofs.YtpnbibokddhheaaGreat

/-
  cmp.Compare and cmp.Or at ints: they leave the world as it is.
-/
namespace Go.Proofs.YtpnbibokddhheaaGreat
open Go.RowKit Go.Sort

set_option maxHeartbeats 400000 in
theorem isNaN_s (a : Int) (w : World) : Calls Tryz.prog 100 #[.int .i64 a] w fun r w' => r = .returned (.bool false) ∧ w = w' := by
  go_enter Tryz.func100, Tryz.ntmps100
  go_wp2
  go_ret
  exact ⟨by simp, rfl⟩
set_option maxHeartbeats 1000000 in
theorem cmp_s (a b : Int) (w : World) : Calls Tryz.prog 60 #[.int .i64 a, .int .i64 b] w fun r w' => r = .returned (.int .i64 (cmpI a b)) ∧ w = w' := by
  rcases cmpI_cases a b with ⟨h1, e⟩ | ⟨h1, h2, e⟩ | ⟨h1, h2, e⟩
  all_goals
    rw [e]
    clear e
    go_enter Tryz.func60, Tryz.ntmps60
    go_wp2_with (go_at_call 100; (with_reducible refine Calls.mono (isNaN_s _ _) ?_); rintro r w2 ⟨rfl, rfl⟩)
    go_ret
    exact ⟨rfl, rfl⟩
set_option maxHeartbeats 1000000 in
theorem or_s (l : List Int) (hlen : l.length ≤ 1000) (g cap : Nat) (w : World) (hl : ∀ k, (hk : k < l.length) → w.cell? ⟨g, k, none⟩ = some (.int .i64 l[k])) (n : Nat) (hn : n = l.length) {x : Int} (hx : orL l = x) :
    Calls Tryz.prog 59 #[.slice (some ⟨g, 0, none⟩) n cap] w fun r w' => r = .returned (.int .i64 x) ∧ w = w' := by
  subst hn
  have Hl := Lib.hid hl
  have Hx := Lib.hid hx
  clear hl hx
  go_enter Tryz.func59, Tryz.ntmps59
  go_wp2
  go_loop [8] (fun i => ∃ k : Nat, k ≤ l.length ∧ i = .int .i64 k ∧ (∀ j, (hj : j < k) → (hjl : j < l.length) → l[j] = 0)) (fun i => l.length - (intOf i).toNat)
  case atStart => exact ⟨0, Nat.zero_le _, rfl, fun j hj => absurd hj (by omega)⟩
  case round =>
    obtain ⟨k, hk, rfl, h0⟩ := hrel
    have H0 := Lib.hid h0
    by_cases hlt : k < l.length
    · have e0 : w.cell? ⟨g, k, none⟩ = some (.int .i64 l[k]) := Hl.out k hlt
      have hat := fun h => orL_at l k hlt (fun j hj => h0 j hj (by omega)) h
      clear h0
      by_cases hz : l[k] = 0
      · have Hz := Lib.hid hz
        rw [hz] at e0
        clear hz hat
        go_wp2
        go_round
        case measure => simp [intOf]; omega
        case rel =>
          refine ⟨k + 1, hlt, by go_num, fun j hj hjl => ?_⟩
          by_cases hjk : j = k
          · subst hjk; exact Hz.out
          · exact H0.out j (by omega) hjl
      · have hat := hat hz
        rw [Hx.out] at hat
        rw [← hat] at e0 hz
        have hz' : (x != 0) = true := by simpa using hz
        clear hat hz
        go_wp2
        go_ret
        exact ⟨rfl, rfl⟩
    · have : k = l.length := by omega
      subst this
      have hz : x = 0 := by rw [← Hx.out]; exact orL_zero l (fun j hj => h0 j hj hj)
      subst hz
      clear h0
      go_wp2
      go_ret
      exact ⟨rfl, rfl⟩

end Go.Proofs.YtpnbibokddhheaaGreat

/-
  A region that draws its order: operations that only read, or call what only reads, and behind them a forced tail: one walk, in a world that is the first one but for draws.
-/
namespace Go.Proofs.YtpnbibokddhheaaGreat
open Go.RowKit Go.Sort

theorem wp_drew_tail {P : Program} {id : Nat} {Q : Exit → Act → World → Prop} {a : Act} {w : World} {l : List Oper} (n : Nat) (hm : P.follows .mixedOrders = true) (hB : Region.lexTailB .any l.toArray n = true)
    (h : wpQuiet P l.toArray (fun w' => ∃ q, w' = w.drewN q) (fun a' => ∀ w', (∃ q, w' = w.drewN q) → wpList P l.toArray Q (l.drop n) a' w') (l.take n) a) : (Code.region id l.toArray true).wp P Q a w :=
  wp_quiet_tail (C := fun w' => ∃ q, w' = w.drewN q) n hm hB ⟨1, rfl⟩ h
/-- a function that is there is entered -/
theorem callOf {P : Program} {f : FuncId} {fn : Func} (h : P.funcs[f]? = some fn) (hb : fn.body.isNone = false) (hn : (fn.name == "runtime.NumGoroutine") = false) (xs : Array Value) (w : World) :
    (callFunc f xs).run P w = .ok (.enter f xs) w := by
  have hn' : fn.name ≠ "runtime.NumGoroutine" := by simpa using hn
  have hb' : fn.body ≠ none := by intro e; rw [e] at hb; cases hb
  simp [callFunc, go_sem, h, hb', hn']
theorem lit3 (w : World) (x0 x1 x2 : Int) (t : TypeId) : ∀ k, (hk : k < [x0, x1, x2].length) → (w.alloc (.cells #[.int .i64 x0, .int .i64 x1, .int .i64 x2] t)).cell? ⟨w.heap.size, k, none⟩ = some (.int .i64 [x0, x1, x2][k]) := by
  intro k hk
  rw [(Blk.new w t _).cell k]
  match k, hk with
  | 0, _ => rfl
  | 1, _ => rfl
  | 2, _ => rfl
theorem or3_s (a b c : Int) (W : World) : Calls Tryz.prog 59 #[.slice (some ⟨W.heap.size, 0, none⟩) 3 3] (W.alloc (.cells #[.int .i64 a, .int .i64 b, .int .i64 c] 3)) fun r w' => r = .returned (.int .i64 (orL [a, b, c])) ∧ W.alloc (.cells #[.int .i64 a, .int .i64 b, .int .i64 c] 3) = w' :=
  or_s [a, b, c] (by simp) W.heap.size 3 _ (lit3 _ _ _ _ _) 3 (by simp) rfl
theorem cmp_q (a b : Int) (W : World) (n : Nat) : Calls Tryz.prog 60 #[.int .i64 a, .int .i64 b] (W.drewN n) fun r w' => r = .returned (.int .i64 (cmpI a b)) ∧ ∃ q, w' = W.drewN q :=
  (cmp_s a b _).mono fun _ _ ⟨h1, h2⟩ => ⟨h1, n, h2.symm⟩

def cmp3 (a1 a2 a3 b1 b2 b3 : Int) : Int := orL [cmpI a1 b1, cmpI a2 b2, cmpI a3 b3]
/-- less by three numbers, the first one first -/
def less3 (a1 a2 a3 b1 b2 b3 : Int) : Bool := decide (a1 < b1) || (a1 == b1) && (decide (a2 < b2) || (a2 == b2) && decide (a3 < b3))
theorem cmp3_less (a1 a2 a3 b1 b2 b3 : Int) : decide (cmp3 a1 a2 a3 b1 b2 b3 < 0) = less3 a1 a2 a3 b1 b2 b3 := by
  unfold cmp3 less3
  rcases cmpI_cases a1 b1 with ⟨h, e⟩ | ⟨h, h', e⟩ | ⟨h, h', e⟩ <;> rw [e] <;> rcases cmpI_cases a2 b2 with ⟨g, e2⟩ | ⟨g, g', e2⟩ | ⟨g, g', e2⟩ <;> rw [e2] <;> rcases cmpI_cases a3 b3 with ⟨k, e3⟩ | ⟨k, k', e3⟩ | ⟨k, k', e3⟩ <;> rw [e3] <;> simp [orL] <;> omega

end Go.Proofs.YtpnbibokddhheaaGreat

/-
  Worlds that are a first one but for draws and new blocks: regions that draw their order walk in that class.
-/
namespace Go.Proofs.YtpnbibokddhheaaGreat
open Go.RowKit Go.Sort

structure GD where
  q : Nat
  os : Array Obj
instance : Nonempty GD := ⟨⟨0, #[]⟩⟩
theorem gd_gd (w : World) (q q' : Nat) (os os' : Array Obj) : grow ((grow (w.drewN q) os).drewN q') os' = grow (w.drewN (q + q')) (os ++ os') := by
  simp [grow, World.drewN, Nat.add_assoc]
theorem gd_drew (w : World) (q : Nat) (os : Array Obj) : (grow (w.drewN q) os).drew = grow (w.drewN (q + 1)) os := rfl
theorem gd_alloc (w : World) (q : Nat) (os : Array Obj) (o : Obj) : (grow (w.drewN q) os).alloc o = grow (w.drewN q) (os.push o) := by
  rw [alloc_eq_grow, grow_grow]; rfl
theorem gd_zero (w : World) : w = grow (w.drewN 0) #[] := by simp [World.drewN]
theorem cell_gd {w : World} {p : Addr} {v : Value} (h : w.cell? p = some v) : ∀ q os, (grow (w.drewN q) os).cell? p = some v := fun q os => by
  have hb := World.block_lt_of_cell? w _ h
  rw [cell?_grow (w.drewN q) os p (by exact hb)]
  exact h
theorem below_gd (w : World) (q : Nat) (os : Array Obj) : Below w.heap.size w (grow (w.drewN q) os) :=
  ⟨rfl, rfl, rfl, by simp [grow, World.drewN], fun k hk => by rw [heap_grow_old _ _ (by exact hk)]; rfl⟩
/-- A contract whose world is known but for draws and new blocks, from any world of the class. -/
theorem gd_of {f : FuncId} {args : Array Value} {w : World} {q : Nat} {os : Array Obj} {R : Ending → Prop} (h : Calls Tryz.prog f args (grow (w.drewN q) os) fun r w' => R r ∧ ∃ q' os', w' = grow ((grow (w.drewN q) os).drewN q') os') :
    Calls Tryz.prog f args (grow (w.drewN q) os) fun r w' => R r ∧ ∃ p : GD, w' = grow (w.drewN p.q) p.os :=
  h.mono fun r w' ⟨h1, q', os', h2⟩ => ⟨h1, ⟨q + q', os ++ os'⟩, by rw [h2, gd_gd]⟩
theorem wp_gd_tail {P : Program} {id : Nat} {Q : Exit → Act → World → Prop} {a : Act} {w : World} {l : List Oper} (n : Nat) (hm : P.follows .mixedOrders = true) (hB : Region.lexTailB .any l.toArray n = true)
    (h : wpQuiet P l.toArray (fun w' => ∃ p : GD, w' = grow (w.drewN p.q) p.os) (fun a' => ∀ w', (∃ p : GD, w' = grow (w.drewN p.q) p.os) → wpList P l.toArray Q (l.drop n) a' w') (l.take n) a) : (Code.region id l.toArray true).wp P Q a w :=
  wp_quiet_tail (C := fun w' => ∃ p : GD, w' = grow (w.drewN p.q) p.os) n hm hB ⟨⟨1, #[]⟩, by rw [grow_empty]; rfl⟩ h

end Go.Proofs.YtpnbibokddhheaaGreat

/-
  A region that draws its order, in a class of worlds: operations whose value hangs on the class alone are taken first, calls too; of another one whatever it yields.
-/
namespace Go.Proofs.YtpnbibokddhheaaGreat
open Go

section
variable {P : Program} {ops : Array Oper} {md : Region.Mode} {C : World → Prop} {Q : Exit → Act → World → Prop}

def kOp (P : Program) (ops : Array Oper) (C : World → Prop) (Q : Exit → Act → World → Prop) (i : Nat) (K : Act → Prop) (a : Act) : Prop := ∀ w, C w → wpOp P ops Q i (fun a' w' => C w' ∧ K a') a w
def wpAnyK (P : Program) (md : Region.Mode) (ops : Array Oper) (C : World → Prop) (Q : Exit → Act → World → Prop) : Nat → Array Bool → Act → Prop
  | 0, s, a => Region.ready md ops s = [] ∧ ∀ w, C w → Q .normal a w
  | f + 1, s, a => (Region.ready md ops s = [] → ∀ w, C w → Q .normal a w) ∧ ∀ i ∈ Region.ready md ops s, kOp P ops C Q i (wpAnyK P md ops C Q f (s.setIfInBounds i true)) a

theorem kOp_mono {i : Nat} {K K' : Act → Prop} {a : Act} (h : ∀ a, K a → K' a) (hk : kOp P ops C Q i K a) : kOp P ops C Q i K' a := fun w hw => wpOp_mono (fun _ _ ⟨h1, h2⟩ => ⟨h1, h _ h2⟩) (hk w hw)
theorem wpAny_of_K : ∀ (f : Nat) (s : Array Bool) (a : Act) (w : World), C w → wpAnyK P md ops C Q f s a → wpAny P md ops Q f s a w
  | 0, _, _, w, hw, h => ⟨h.1, h.2 w hw⟩
  | f + 1, _, _, w, hw, h => ⟨fun h0 => h.1 h0 w hw, fun i hi => wpOp_mono (fun a' w' ⟨h1, h2⟩ => wpAny_of_K f _ a' w' h1 h2) (h.2 i hi w hw)⟩

/-- what an operation that lies apart leaves as it was -/
theorem wpOp_put_inv {j : Nat} {oi oj : Oper} {v : Value} {I : Act → Prop} (hj : ops[j]? = some oj) (hap : oi.apart ops oj = true) (hsj : ∀ cs b, oj.op ≠ .select cs b)
    (hQ : ∀ c a w, Q (.panic c) (a.put oi.dst v) w → Q (.panic c) a w) (keep : ∀ a, I a → ∀ u, I (a.put oj.dst u)) (keepD : ∀ a, I a → ∀ d, I { a with defers := d :: a.defers })
    {K : Act → World → Prop} {a : Act} {w : World} (hI : I a) (h : wpOp P ops Q j K (a.put oi.dst v) w) : wpOp P ops Q j (fun a' w' => I a' ∧ K (a'.put oi.dst v) w') a w := by
  obtain ⟨h1, h2, h3⟩ := Oper.apart_spec hap
  unfold wpOp at *
  simp only [hj] at *
  rw [wanted_put oj a oi.dst v h1] at h
  by_cases hw : Region.wanted oj (yielded ops a.tmps) = true
  · simp only [hw, if_true] at h ⊢
    rcases h with h | ⟨hasks, hlets⟩
    · left
      unfold Oper.wp at *
      rw [execOp_put oj hsj a oi.dst v h1] at h
      rcases hr : (execOp a.eval oj).run P w with ⟨n, w'⟩ | ⟨x, w'⟩
      · rw [hr] at h
        cases n <;> simp only [Oper.upon] at h ⊢
        case value u => exact ⟨keep a hI u, by rw [← Act.put_comm a v u h2]; exact h⟩
        case skip => exact ⟨keep a hI _, by rw [← Act.put_comm a v undef h2]; exact h⟩
        case defer d => exact ⟨keep _ (keepD a hI d) _, by rw [← Act.put_comm _ v undef h2, ← Act.put_defers]; exact h⟩
        case enter f args =>
          refine Calls.mono h fun e w'' he => ?_
          cases e with
          | returned u => exact ⟨keep a hI u, by rw [← Act.put_comm a v u h2]; exact he⟩
          | panicked c => exact hQ _ _ _ he
          | outgrown => exact he
        case row row args => exact Rows.mono h fun u w'' he => ⟨keep a hI u, by rw [← Act.put_comm a v u h2]; exact he⟩
      · rw [hr] at h
        cases x <;> simp only [Oper.upon] at h ⊢
        exact hQ _ _ _ h
    · right
      refine ⟨?_, hlets⟩
      unfold Oper.asks at *
      rw [execOp_put oj hsj a oi.dst v h1] at hasks
      exact hasks
  · simp only [hw, Bool.false_eq_true, if_false] at h ⊢
    exact ⟨keep a hI _, by rw [← Act.put_comm a v undef h2]; exact h⟩
theorem kOp_put {j : Nat} {oi oj : Oper} {v : Value} (hj : ops[j]? = some oj) (hap : oi.apart ops oj = true) (hsi : ∀ cs b, oi.op ≠ .select cs b) (hsj : ∀ cs b, oj.op ≠ .select cs b)
    (hQ : ∀ c a w, Q (.panic c) (a.put oi.dst v) w → Q (.panic c) a w) {K : Act → Prop} {a : Act} (hy : YieldsIn P ops C oi v a) (h : kOp P ops C Q j K (a.put oi.dst v)) :
    kOp P ops C Q j (fun a' => YieldsIn P ops C oi v a' ∧ K (a'.put oi.dst v)) a := fun w hw => by
  obtain ⟨h1, h2, h3⟩ := Oper.apart_spec hap
  have := wpOp_put_inv (I := fun a => YieldsIn P ops C oi v a) hj hap hsj hQ (fun a hy u => hy.of_same (execOp_put oi hsi a oj.dst u h3) (wanted_put oi a oj.dst u h3)) (fun a hy d => hy.of_same rfl rfl) hy (h w hw)
  exact wpOp_mono (fun a' w' ⟨x1, x2, x3⟩ => ⟨x2, x1, x3⟩) this
theorem kOp_of_yields {i : Nat} {oi : Oper} {v : Value} {a : Act} {K : Act → Prop} (hi : ops[i]? = some oi) (hy : YieldsIn P ops C oi v a) (h : K (a.put oi.dst v)) : kOp P ops C Q i K a := fun w hw => by
  have hq : qOp P ops C i K a := hy.qOp hi h
  exact wpOp_of_qOp hw (fun a' w' hw' hk => ⟨hw', hk⟩) hq

theorem wpAnyK_first {i : Nat} {oi : Oper} {v : Value} (hi : ops[i]? = some oi) (hsel : ∀ (j : Nat) (o : Oper) cs b, ops[j]? = some o → o.op ≠ .select cs b)
    (hQ : ∀ c a w, Q (.panic c) (a.put oi.dst v) w → Q (.panic c) a w) :
    ∀ (f : Nat) (s : Array Bool) (a : Act), (∀ j oj, ops[j]? = some oj → j ≠ i → s.getD j true = false → (∀ e ∈ oj.after, Region.binds md e = true → e.on ≠ i) → oi.apart ops oj = true) →
      i ∈ Region.ready md ops s → YieldsIn P ops C oi v a → wpAnyK P md ops C Q f (s.setIfInBounds i true) (a.put oi.dst v) → wpAnyK P md ops C Q (f + 1) s a := by
  intro f
  induction f with
  | zero =>
    intro s a _ hr hy H
    refine ⟨fun h => (by rw [h] at hr; cases hr), fun j hj => ?_⟩
    by_cases hji : j = i
    · subst hji; exact kOp_of_yields hi hy H
    · have := ready_mono hj hji
      rw [H.1] at this
      cases this
  | succ f ih =>
    intro s a hfree hr hy H
    refine ⟨fun h => (by rw [h] at hr; cases hr), fun j hj => ?_⟩
    by_cases hji : j = i
    · subst hji; exact kOp_of_yields hi hy H
    · have h1 := H.2 j (ready_mono hj hji)
      obtain ⟨hjun, oj, hoj, hall⟩ := mem_ready.1 hj
      have hun := (mem_ready.1 hr).1
      have hnot : ∀ e ∈ oj.after, Region.binds md e = true → e.on ≠ i := fun e he hb heq => by
        have h1 := hall e he hb
        rw [heq, getD_both hun] at h1
        exact Bool.noConfusion h1
      have h2 := kOp_put hoj (hfree j oj hoj hji hjun hnot) (fun cs b => hsel i oi cs b hi) (fun cs b => hsel j oj cs b hoj) hQ hy h1
      have hfree' : ∀ k ok, ops[k]? = some ok → k ≠ i → (s.setIfInBounds j true).getD k true = false → (∀ e ∈ ok.after, Region.binds md e = true → e.on ≠ i) → oi.apart ops ok = true := fun k ok hk hki hun hno => by
        refine hfree k ok hk hki ?_ hno
        by_cases hjk : j = k
        · subst hjk; exact hjun
        · rw [getD_set_ne true hjk] at hun; exact hun
      refine kOp_mono (fun a' h3 => ih (s.setIfInBounds j true) a' hfree' (ready_mono hr (Ne.symm hji)) h3.1 ?_) h2
      rw [Array.setIfInBounds_comm _ _ hji]
      exact h3.2

/-- Take number i first. -/
theorem K_take {i : Nat} {oi : Oper} {v : Value} {f : Nat} {s : Array Bool} {a : Act} (hi : ops[i]? = some oi) (hs : Region.noSelect ops = true) (hf : Region.free md ops s i = true) (hr : (Region.ready md ops s).contains i = true)
    (hQ : ∀ c a w, Q (.panic c) (a.put oi.dst v) w → Q (.panic c) a w) (hy : YieldsIn P ops C oi v a) (h : wpAnyK P md ops C Q f (s.setIfInBounds i true) (a.put oi.dst v)) : wpAnyK P md ops C Q (f + 1) s a :=
  wpAnyK_first hi (Region.noSelect_spec hs) hQ f s a (Region.free_spec hi hf) (by simpa using hr) hy h
/-- Only number i may come up: whatever it yields. -/
theorem K_one {i : Nat} {f : Nat} {s : Array Bool} {a : Act} (hr : Region.ready md ops s = [i]) (h : kOp P ops C Q i (wpAnyK P md ops C Q f (s.setIfInBounds i true)) a) : wpAnyK P md ops C Q (f + 1) s a :=
  ⟨fun h0 => (by rw [hr] at h0; cases h0), fun j hj => by rw [hr, List.mem_singleton] at hj; subst hj; exact h⟩
/-- .. what has come up written out -/
theorem K_takeL {i : Nat} {oi : Oper} {v : Value} {d : Option Nat} {f : Nat} {s s' : Array Bool} {a : Act} (hs' : s.setIfInBounds i true = s') (hi : ops[i]? = some oi) (hd : oi.dst = d) (hs : Region.noSelect ops = true) (hf : Region.free md ops s i = true) (hr : (Region.ready md ops s).contains i = true)
    (hQ : ∀ c a w, Q (.panic c) (a.put oi.dst v) w → Q (.panic c) a w) (hy : YieldsIn P ops C oi v a) (h : wpAnyK P md ops C Q f s' (a.put d v)) : wpAnyK P md ops C Q (f + 1) s a :=
  K_take hi hs hf hr hQ hy (by rw [hd, hs']; exact h)
theorem K_oneL {i : Nat} {f : Nat} {s s' : Array Bool} {a : Act} (hs' : s.setIfInBounds i true = s') (hr : Region.ready md ops s = [i]) (h : kOp P ops C Q i (wpAnyK P md ops C Q f s') a) : wpAnyK P md ops C Q (f + 1) s a :=
  K_one hr (hs' ▸ h)
theorem wpOp_valueL {i : Nat} {o : Oper} {v : Value} {d : Option Nat} {a : Act} {w w' : World} {K : Act → World → Prop} (hi : ops[i]? = some o) (hd : o.dst = d) (hg : Region.wanted o (yielded ops a.tmps) = true)
    (hx : (execOp a.eval o).run P w = .ok (.value v) w') (hK : K (a.put d v) w') : wpOp P ops Q i K a w := by
  subst hd
  unfold wpOp
  simp only [hi, hg, if_true, Oper.wp, hx, Oper.upon]
  exact .inl hK
theorem K_done {s : Array Bool} {a : Act} (hr : Region.ready md ops s = []) (h : ∀ w, C w → Q .normal a w) : ∀ f, wpAnyK P md ops C Q f s a
  | 0 => ⟨hr, h⟩
  | _ + 1 => ⟨fun _ => h, by rw [hr]; simp⟩
theorem wp_region_K {id : Nat} {a : Act} {w : World} (hm : P.follows .mixedOrders = true) (hC : C { w with drawn := w.drawn + 1 })
    (h : wpAnyK P .any ops C Q ops.size (Array.replicate ops.size false) a) : (Code.region id ops true).wp P Q a w :=
  wp_region_any hm (wpAny_of_K _ _ _ _ hC h)
theorem wp_region_KL {id : Nat} {a : Act} {w : World} {s : Array Bool} {n : Nat} (hm : P.follows .mixedOrders = true) (hC : C { w with drawn := w.drawn + 1 }) (hn : ops.size = n) (hs : Array.replicate n false = s)
    (h : wpAnyK P .any ops C Q n s a) : (Code.region id ops true).wp P Q a w := by
  subst hn hs
  exact wp_region_K hm hC h
end

end Go.Proofs.YtpnbibokddhheaaGreat

/-
  A region that draws its order, and whose last operation turns what the others read: they are taken first under what holds till then.
-/
namespace Go.Proofs.YtpnbibokddhheaaGreat
open Go Go.RowKit

section
variable {P : Program} {ops : Array Oper} {md : Region.Mode} {F : World → Prop} {n : Nat} {Q : Exit → Act → World → Prop}

/-- F holds behind every operation ahead of number n. -/
def wpAnyF (P : Program) (md : Region.Mode) (ops : Array Oper) (Q : Exit → Act → World → Prop) (F : World → Prop) (n : Nat) : Nat → Array Bool → Act → World → Prop
  | 0, s, a, w => Region.ready md ops s = [] ∧ Q .normal a w
  | f + 1, s, a, w => (Region.ready md ops s = [] → Q .normal a w) ∧ ∀ i ∈ Region.ready md ops s, wpOp P ops Q i (fun a' w' => (i < n → F w') ∧ wpAnyF P md ops Q F n f (s.setIfInBounds i true) a' w') a w
theorem wpAny_of_F : ∀ (f : Nat) (s : Array Bool) (a : Act) (w : World), wpAnyF P md ops Q F n f s a w → wpAny P md ops Q f s a w
  | 0, _, _, _, h => h
  | f + 1, _, _, _, h => ⟨h.1, fun i hi => wpOp_mono (fun a' w' h' => wpAny_of_F f _ a' w' h'.2) (h.2 i hi)⟩
/-- what has come up came up behind what it waits for -/
def Closed (md : Region.Mode) (ops : Array Oper) (s : Array Bool) : Prop := ∀ j oj, ops[j]? = some oj → s.getD j false = true → ∀ e ∈ oj.after, Region.binds md e = true → s.getD e.on false = true
def closedB (md : Region.Mode) (ops : Array Oper) (s : Array Bool) : Bool := (List.range ops.size).all fun j => match ops[j]? with
  | some o => !s.getD j false || o.after.toList.all fun e => !Region.binds md e || s.getD e.on false
  | none => true
theorem closed_of {s : Array Bool} (h : closedB md ops s = true) : Closed md ops s := by
  intro j oj hj hl e he hb
  have hjs : j < ops.size := (Array.getElem?_eq_some_iff.1 hj).1
  have h1 := List.all_eq_true.1 h j (List.mem_range.2 hjs)
  rw [hj] at h1
  simp only [hl, Bool.not_true, Bool.false_or] at h1
  have h2 := List.all_eq_true.1 h1 e (by simpa using he)
  rw [hb] at h2
  simpa using h2
theorem Closed.set {s : Array Bool} {i : Nat} (h : Closed md ops s) (hi : i ∈ Region.ready md ops s) : Closed md ops (s.setIfInBounds i true) := by
  obtain ⟨_, oi, hoi, hall⟩ := mem_ready.1 hi
  intro j oj hj hl e he hb
  by_cases hij : i = j
  · subst hij
    rw [hoi] at hj
    injection hj with hj
    subst hj
    exact getD_set_true (hall e he hb)
  · rw [getD_set_ne false hij] at hl
    exact getD_set_true (h j oj hj hl e he hb)
/-- j waits for i, over others too -/
def waitsB (md : Region.Mode) (ops : Array Oper) : Nat → Nat → Nat → Bool
  | 0, _, _ => false
  | f + 1, i, j => match ops[j]? with
    | some o => o.after.toList.any fun e => Region.binds md e && (e.on == i || waitsB md ops f i e.on)
    | none => false
theorem waits_listed {s : Array Bool} (hc : Closed md ops s) {i : Nat} : ∀ (f j : Nat), waitsB md ops f i j = true → (∀ oj, ops[j]? = some oj → ∀ e ∈ oj.after, Region.binds md e = true → s.getD e.on false = true) → s.getD i false = true
  | 0, _, h, _ => by simp [waitsB] at h
  | f + 1, j, h, hd => by
    unfold waitsB at h
    cases hj : ops[j]? with
    | none => rw [hj] at h; cases h
    | some oj =>
      rw [hj] at h
      obtain ⟨e, he, h1⟩ := List.any_eq_true.1 h
      rw [Bool.and_eq_true, Bool.or_eq_true, beq_iff_eq] at h1
      have he' : e ∈ oj.after := by simpa using he
      have hl := hd oj hj e he' h1.1
      rcases h1.2 with h2 | h2
      · rw [← h2]; exact hl
      · exact waits_listed hc f e.on h2 (fun ok hk e2 he2 hb2 => hc e.on ok hk hl e2 he2 hb2)
/-- number n is the last one, and waits for all others -/
def lastB (md : Region.Mode) (ops : Array Oper) (n : Nat) : Bool := ops.size == n + 1 && (List.range n).all fun i => waitsB md ops (n + 1) i n
theorem last_waits (hl : lastB md ops n = true) {s : Array Bool} (hc : Closed md ops s) {i j : Nat} (hi : i < n) (hun : s.getD i true = false) (hj : j ∈ Region.ready md ops s) : j < n := by
  unfold lastB at hl
  rw [Bool.and_eq_true, beq_iff_eq] at hl
  obtain ⟨-, oj, hoj, hall⟩ := mem_ready.1 hj
  have hjs : j < ops.size := (Array.getElem?_eq_some_iff.1 hoj).1
  by_cases hjn : j = n
  · subst hjn
    have h1 := List.all_eq_true.1 hl.2 i (List.mem_range.2 hi)
    have h3 := waits_listed hc _ _ h1 (fun ok hk e he hb => by rw [hoj] at hk; injection hk with hk; subst hk; exact hall e he hb)
    rw [getD_both hun] at h3
    exact Bool.noConfusion h3
  · omega
theorem wpAnyF_first (hl : lastB md ops n = true) {i : Nat} {oi : Oper} {v : Value} (hin : i < n) (hi : ops[i]? = some oi) (hsel : ∀ (j : Nat) (o : Oper) cs b, ops[j]? = some o → o.op ≠ .select cs b)
    (hQ : ∀ c a w, Q (.panic c) (a.put oi.dst v) w → Q (.panic c) a w) :
    ∀ (f : Nat) (s : Array Bool) (a : Act) (w : World), Closed md ops s → (∀ j oj, ops[j]? = some oj → j ≠ i → s.getD j true = false → (∀ e ∈ oj.after, Region.binds md e = true → e.on ≠ i) → oi.apart ops oj = true) →
      i ∈ Region.ready md ops s → YieldsIf P ops F oi v a → F w → wpAnyF P md ops Q F n f (s.setIfInBounds i true) (a.put oi.dst v) w → wpAnyF P md ops Q F n (f + 1) s a w := by
  intro f
  induction f with
  | zero =>
    intro s a w _ _ hr hy hF H
    refine ⟨fun h => (by rw [h] at hr; cases hr), fun j hj => ?_⟩
    by_cases hji : j = i
    · subst hji; exact hy.wpOp hi hF ⟨fun _ => hF, H⟩
    · have := ready_mono hj hji
      rw [H.1] at this
      cases this
  | succ f ih =>
    intro s a w hcl hfree hr hy hF H
    refine ⟨fun h => (by rw [h] at hr; cases hr), fun j hj => ?_⟩
    by_cases hji : j = i
    · subst hji; exact hy.wpOp hi hF ⟨fun _ => hF, H⟩
    · have hun := (mem_ready.1 hr).1
      have hjn : j < n := last_waits hl hcl hin hun hj
      have h1 := H.2 j (ready_mono hj hji)
      obtain ⟨hjun, oj, hoj, hall⟩ := mem_ready.1 hj
      have hnot : ∀ e ∈ oj.after, Region.binds md e = true → e.on ≠ i := fun e he hb heq => by
        have h1 := hall e he hb
        rw [heq, getD_both hun] at h1
        exact Bool.noConfusion h1
      have h2 := wpOp_putIf hoj (hfree j oj hoj hji hjun hnot) (fun cs b => hsel i oi cs b hi) (fun cs b => hsel j oj cs b hoj) hQ hy h1
      have hfree' : ∀ k ok, ops[k]? = some ok → k ≠ i → (s.setIfInBounds j true).getD k true = false → (∀ e ∈ ok.after, Region.binds md e = true → e.on ≠ i) → oi.apart ops ok = true := fun k ok hk hki hun hno => by
        refine hfree k ok hk hki ?_ hno
        by_cases hjk : j = k
        · subst hjk; exact hjun
        · rw [getD_set_ne true hjk] at hun; exact hun
      refine wpOp_mono (fun a' w' h3 => ⟨fun _ => h3.2.1 hjn, ih (s.setIfInBounds j true) a' w' (hcl.set hj) hfree' (ready_mono hr (Ne.symm hji)) h3.1 (h3.2.1 hjn) ?_⟩) h2
      rw [Array.setIfInBounds_comm _ _ hji]
      exact h3.2.2

theorem F_take {i : Nat} {oi : Oper} {v : Value} {d : Option Nat} {f : Nat} {s s' : Array Bool} {a : Act} {w : World} (hl : lastB md ops n = true) (hc : closedB md ops s = true) (hin : i < n) (hs' : s.setIfInBounds i true = s') (hi : ops[i]? = some oi) (hd : oi.dst = d) (hs : Region.noSelect ops = true)
    (hf : Region.free md ops s i = true) (hr : (Region.ready md ops s).contains i = true) (hQ : ∀ c a w, Q (.panic c) (a.put oi.dst v) w → Q (.panic c) a w) (hy : YieldsIf P ops F oi v a) (hF : F w)
    (h : wpAnyF P md ops Q F n f s' (a.put d v) w) : wpAnyF P md ops Q F n (f + 1) s a w :=
  wpAnyF_first hl hin hi (Region.noSelect_spec hs) hQ f s a w (closed_of hc) (Region.free_spec hi hf) (by simpa using hr) hy hF (by rw [hd, hs']; exact h)
theorem F_one {i : Nat} {f : Nat} {s s' : Array Bool} {a : Act} {w : World} (hs' : s.setIfInBounds i true = s') (hr : Region.ready md ops s = [i]) (h : wpOp P ops Q i (fun a' w' => (i < n → F w') ∧ wpAnyF P md ops Q F n f s' a' w') a w) : wpAnyF P md ops Q F n (f + 1) s a w :=
  ⟨fun h0 => (by rw [hr] at h0; cases h0), fun j hj => by rw [hr, List.mem_singleton] at hj; subst hj; rw [hs']; exact h⟩
theorem F_done {s : Array Bool} {a : Act} {w : World} (hr : Region.ready md ops s = []) (h : Q .normal a w) : ∀ f, wpAnyF P md ops Q F n f s a w
  | 0 => ⟨hr, h⟩
  | _ + 1 => ⟨fun _ => h, by rw [hr]; simp⟩
theorem wp_region_F {id : Nat} {a : Act} {w : World} {s : Array Bool} {m : Nat} (hm : P.follows .mixedOrders = true) (hn : ops.size = m) (hs : Array.replicate m false = s)
    (h : ∀ w1 : World, Hid (w1 = w.drew) → wpAnyF P .any ops Q F n m s a w1) : (Code.region id ops true).wp P Q a w := by
  subst hn hs
  exact wp_region_any hm (wpAny_of_F _ _ _ _ (h _ rfl))
theorem wpOp_appendL {i : Nat} {o : Oper} {t : TypeId} {sv xv v : Value} {x y : Operand} {d : Option Nat} {a : Act} {w w' : World} {K : Act → World → Prop} (hi : ops[i]? = some o) (hd : o.dst = d) (ht : o.type = t) (hg : Region.wanted o (yielded ops a.tmps) = true)
    (ho : o.op = .call { callee := .builtin .append, args := #[x, y], argTypes := #[t, t] }) (hs : a.eval x = sv) (hx : a.eval y = xv) (hr : (Builtin.append_ #[t, t] t #[sv, xv]).run P w = .ok v w') (hK : K (a.put d v) w') : wpOp P ops Q i K a w := by
  subst hd ht hs hx
  exact wpOp_wp hi hg (wp_append_run ho hr hK)
theorem wpOp_skipL {i : Nat} {o : Oper} {a : Act} {w w' : World} {K : Act → World → Prop} (hi : ops[i]? = some o) (hd : o.dst = none) (hg : Region.wanted o (yielded ops a.tmps) = true)
    (hx : (execOp a.eval o).run P w = .ok .skip w') (hK : K (a.put none undef) w') : wpOp P ops Q i K a w := by
  unfold wpOp
  simp only [hi, hg, if_true, Oper.wp, hx, Oper.upon, hd]
  exact .inl hK
end

end Go.Proofs.YtpnbibokddhheaaGreat

/-
  A region that draws its order, of which several operations may come up that make memory: each way.
-/
namespace Go.Proofs.YtpnbibokddhheaaGreat
open Go Go.RowKit

section
variable {P : Program} {ops : Array Oper} {md : Region.Mode} {F : World → Prop} {n : Nat} {Q : Exit → Act → World → Prop}
theorem F_two {i j : Nat} {f : Nat} {s si sj : Array Bool} {a : Act} {w : World} (hr : Region.ready md ops s = [i, j]) (hsi : s.setIfInBounds i true = si) (hsj : s.setIfInBounds j true = sj)
    (hi : wpOp P ops Q i (fun a' w' => (i < n → F w') ∧ wpAnyF P md ops Q F n f si a' w') a w) (hj : wpOp P ops Q j (fun a' w' => (j < n → F w') ∧ wpAnyF P md ops Q F n f sj a' w') a w) : wpAnyF P md ops Q F n (f + 1) s a w :=
  ⟨fun h0 => (by rw [hr] at h0; cases h0), fun k hk => by
    rw [hr, List.mem_cons, List.mem_singleton] at hk
    rcases hk with rfl | rfl
    · rw [hsi]; exact hi
    · rw [hsj]; exact hj⟩
theorem F_three {i j l : Nat} {f : Nat} {s si sj sl : Array Bool} {a : Act} {w : World} (hr : Region.ready md ops s = [i, j, l]) (hsi : s.setIfInBounds i true = si) (hsj : s.setIfInBounds j true = sj) (hsl : s.setIfInBounds l true = sl)
    (hi : wpOp P ops Q i (fun a' w' => (i < n → F w') ∧ wpAnyF P md ops Q F n f si a' w') a w) (hj : wpOp P ops Q j (fun a' w' => (j < n → F w') ∧ wpAnyF P md ops Q F n f sj a' w') a w)
    (hl : wpOp P ops Q l (fun a' w' => (l < n → F w') ∧ wpAnyF P md ops Q F n f sl a' w') a w) : wpAnyF P md ops Q F n (f + 1) s a w :=
  ⟨fun h0 => (by rw [hr] at h0; cases h0), fun k hk => by
    rw [hr, List.mem_cons, List.mem_cons, List.mem_singleton] at hk
    rcases hk with rfl | rfl | rfl
    · rw [hsi]; exact hi
    · rw [hsj]; exact hj
    · rw [hsl]; exact hl⟩
theorem wpOp_enterL {i : Nat} {o : Oper} {d : Option Nat} {f : FuncId} {args : Array Value} {a : Act} {w : World} {K : Act → World → Prop} (hi : ops[i]? = some o) (hd : o.dst = d) (hg : Region.wanted o (yielded ops a.tmps) = true)
    (hx : (execOp a.eval o).run P w = .ok (.enter f args) w) (hc : Calls P f args w fun e w'' => ∃ v, e = .returned v ∧ K (a.put d v) w'') : wpOp P ops Q i K a w := by
  subst hd
  exact wpOp_enter hi hg hx hc
end
theorem rows_keep {α : Type} {C : Nat} {cells : α → List Value} {W W' : World} {A : Option Addr} {R : List α} (h : RowsAt C cells W W.heap.size A R) (hb : Below W.heap.size W W') : RowsAt C cells W' W'.heap.size A R := (h.below hb).more hb.size
theorem rows_new {α : Type} {C : Nat} {cells : α → List Value} (hC : ∀ x, (cells x).length = C) (W : World) (t : TypeId) (R : List α) (cs : Array Value) (hcs : cs.toList = R.flatMap cells) (hflat : ∀ k (hk : k < R.length) i u, i < C → (cells R[k])[i]? = some u → cs[k * C + i]? = some u) : RowsAt C cells (W.alloc (.cells cs t)) (W.alloc (.cells cs t)).heap.size (some ⟨W.heap.size, 0, none⟩) R := by
  intro _
  have := hC
  have := hcs
  refine ⟨W.heap.size, 0, rfl, by simp, fun k hk i u hi hu => ?_⟩
  rw [show 0 + k * C + i = k * C + i by omega]
  rw [(Blk.new W t cs).cell]
  exact hflat k hk i u hi hu
theorem below_new (W : World) (o : Obj) : Below W.heap.size W (W.alloc o) := (Below.refl _ _).alloc (Nat.le_refl _) o

theorem below_trans {B : Nat} {w W W' : World} (h : Below B w W) (hB : B ≤ W.heap.size) (hb : Below W.heap.size W W') : Below B w W' := h.trans (hb.mono hB)
theorem ints_new (W : World) (t : TypeId) (xs : List Int) : RowsAt 1 icell (W.alloc (.cells (xs.map (Value.int .i64)).toArray t)) (W.alloc (.cells (xs.map (Value.int .i64)).toArray t)).heap.size (some ⟨W.heap.size, 0, none⟩) xs := by
  intro _
  refine ⟨W.heap.size, 0, rfl, by simp, fun k hk i u hi hu => ?_⟩
  obtain rfl : i = 0 := by omega
  rw [show 0 + k * 1 + 0 = k by omega, (Blk.new W t _).cell]
  simp only [icell, List.getElem?_cons_zero, Option.some.injEq] at hu
  subst hu
  simp [hk]

end Go.Proofs.YtpnbibokddhheaaGreat

/-
  What grew, and what was kept: worlds one behind the other; rows of keys.
-/
namespace Go.Proofs.YtpnbibokddhheaaGreat
open Go.RowKit

/-- what grew behind draws -/
theorem grown_drewN {w w' : World} {n : Nat} {row : Option Nat} (h : (w.drewN n).grownBy w' row) : w.grownBy w' row := ⟨h.os, h.tape, h.output, h.size, h.block⟩
theorem grown_alloc {w w' : World} {o : Obj} {row : Option Nat} (h : (w.alloc o).grownBy w' row) : w.grownBy w' row :=
  ⟨h.os, h.tape, h.output, by have := h.size; simp at this; omega, fun i hi hne => (h.block i (by simp; omega) hne).trans (Below.heap_alloc w o i hi)⟩
theorem grown_below {w w' w'' : World} {row : Option Nat} (h : w.grownBy w' row) (hb : Below w'.heap.size w' w'') : w.grownBy w'' row := only_below h hb h.size
theorem below_grown {w w' w'' : World} {row : Option Nat} (hb : Below w.heap.size w w') (h : w'.grownBy w'' row) : w.grownBy w'' row :=
  ⟨h.os.trans hb.os, h.tape.trans hb.tape, h.output.trans hb.output, Nat.le_trans hb.size h.size, fun i hi hne => (h.block i (Nat.lt_of_lt_of_le hi hb.size) hne).trans (hb.block i hi)⟩
theorem grown_trans {a c d : World} {row : Option Nat} (h : a.grownBy c row) (k : c.grownBy d row) : a.grownBy d row :=
  ⟨k.os.trans h.os, k.tape.trans h.tape, k.output.trans h.output, Nat.le_trans h.size k.size, fun i hi hne => (k.block i (Nat.lt_of_lt_of_le hi h.size) hne).trans (h.block i hi hne)⟩

theorem row_k3 {w : World} {B : Nat} {A : Option Addr} {l : List K3} (h : RowsAt 3 K3.cells w B A l) (k : Nat) (hk : k < l.length) :
    ∃ b o, A = some ⟨b, o, none⟩ ∧ w.cell? ⟨b, o + k * 3, none⟩ = some (.int .i64 l[k].kind) ∧ w.cell? ⟨b, o + k * 3 + 1, none⟩ = some (.int .i64 l[k].id) ∧ w.cell? ⟨b, o + k * 3 + 2, none⟩ = some (.int .i64 l[k].adv) := by
  obtain ⟨b, o, e, _, hc⟩ := h (by omega)
  exact ⟨b, o, e, by simpa using hc k hk 0 _ (by omega) rfl, hc k hk 1 _ (by omega) rfl, hc k hk 2 _ (by omega) rfl⟩

theorem row_k3_at {w : World} {B g o : Nat} {l : List K3} (h : RowsAt 3 K3.cells w B (some ⟨g, o, none⟩) l) (k : Nat) (hk : k < l.length) :
    w.cell? ⟨g, o + k * 3, none⟩ = some (.int .i64 l[k].kind) ∧ w.cell? ⟨g, o + k * 3 + 1, none⟩ = some (.int .i64 l[k].id) ∧ w.cell? ⟨g, o + k * 3 + 2, none⟩ = some (.int .i64 l[k].adv) := by
  obtain ⟨b0, o0, e, h1⟩ := row_k3 h k hk
  injection e with e
  injection e with e1 e2
  subst e1 e2
  exact h1
theorem rows_grown {α : Type} {C : Nat} {cells : α → List Value} {w : World} {B b : Nat} {A : Option Addr} {M : List α} (h : RowsAt C cells w B A M) (hB : B ≤ w.heap.size) (hne : ∀ g o, A = some ⟨g, o, none⟩ → g < B → g ≠ b) : ∀ W, w.grownBy W (some b) → RowsAt C cells W B A M := by
  intro W hg h0
  obtain ⟨b1, o1, e, hb1, hc⟩ := h h0
  refine ⟨b1, o1, e, hb1, fun k hk i u hi hu => ?_⟩
  have := hg.block b1 (by omega) (fun e2 => hne b1 o1 e hb1 (by injection e2))
  rw [← hc k hk i u hi hu]
  simp [World.cell?, this]

/-- nothing old has turned but the pointer's block and a row -/
structure Kept2 (w w' : World) (q : Nat) (row : Option Nat) : Prop where
  os : w'.os = w.os
  tape : w'.tape = w.tape
  output : w'.output = w.output
  size : w.heap.size ≤ w'.heap.size
  block : ∀ i, i < w.heap.size → i ≠ q → some i ≠ row → w'.heap[i]? = w.heap[i]?
section
variable {w w' w'' : World} {q : Nat} {row : Option Nat}
theorem Kept2.refl (w : World) (q : Nat) (row : Option Nat) : Kept2 w w q row := ⟨rfl, rfl, rfl, Nat.le_refl _, fun _ _ _ _ => rfl⟩
theorem Kept2.keep (h : Kept2 w w' q row) (hb : Below w'.heap.size w' w'') : Kept2 w w'' q row :=
  ⟨hb.os.trans h.os, hb.tape.trans h.tape, hb.output.trans h.output, Nat.le_trans h.size hb.size, fun i hi h1 h2 => (hb.block i (Nat.lt_of_lt_of_le hi h.size)).trans (h.block i hi h1 h2)⟩
theorem Kept2.grown {r2 : Option Nat} (h : Kept2 w w' q row) (hg : w'.grownBy w'' r2) (hr : ∀ g, r2 = some g → row = some g ∨ w.heap.size ≤ g) : Kept2 w w'' q row :=
  ⟨hg.os.trans h.os, hg.tape.trans h.tape, hg.output.trans h.output, Nat.le_trans h.size hg.size, fun i hi h1 h2 => (hg.block i (Nat.lt_of_lt_of_le hi h.size) (fun e => by
    rcases hr i e.symm with h3 | h3
    · exact h2 h3.symm
    · omega)).trans (h.block i hi h1 h2)⟩
theorem Kept2.set_ (h : Kept2 w w' q row) {p : Addr} (hp : p.block = q) (u : Value) : Kept2 w (w'.setCell p u) q row :=
  ⟨h.os, h.tape, h.output, by simpa [World.setCell] using h.size, fun i hi h1 h2 => (Below.heap_setCell w' p u i (by rintro rfl; exact h1 hp)).trans (h.block i hi h1 h2)⟩
theorem Kept2.rows {α : Type} {C : Nat} {cells : α → List Value} {B : Nat} {A : Option Addr} {M : List α} (h : RowsAt C cells w B A M) (hB : B ≤ w.heap.size) (hne : ∀ g o, A = some ⟨g, o, none⟩ → g ≠ q ∧ some g ≠ row) (hk : Kept2 w w' q row) : RowsAt C cells w' B A M := by
  intro h0
  obtain ⟨b1, o1, e, hb1, hc⟩ := h h0
  refine ⟨b1, o1, e, hb1, fun k hk' i u hi hu => ?_⟩
  have := hk.block b1 (by omega) (hne b1 o1 e).1 (hne b1 o1 e).2
  rw [← hc k hk' i u hi hu]
  simp [World.cell?, this]
end
theorem row_k3b {w : World} {B : Nat} {A : Option Addr} {l : List K3} (h : RowsAt 3 K3.cells w B A l) (k : Nat) (hk : k < l.length) :
    ∃ b o, A = some ⟨b, o, none⟩ ∧ b < B ∧ w.cell? ⟨b, o + k * 3, none⟩ = some (.int .i64 l[k].kind) ∧ w.cell? ⟨b, o + k * 3 + 1, none⟩ = some (.int .i64 l[k].id) ∧ w.cell? ⟨b, o + k * 3 + 2, none⟩ = some (.int .i64 l[k].adv) := by
  obtain ⟨b, o, e, hb, hc⟩ := h (by omega)
  exact ⟨b, o, e, hb, by simpa using hc k hk 0 _ (by omega) rfl, hc k hk 1 _ (by omega) rfl, hc k hk 2 _ (by omega) rfl⟩
theorem OwnR.shape2 {α : Type} {e : TypeId} {C : Nat} {cells : α → List Value} {w : World} {B : Nat} {v : Value} {L : List α} (h : OwnR e C cells w B v L) : (v = .slice none 0 0 ∧ L = []) ∨ ∃ g cap, v = .slice (some ⟨g, 0, none⟩) L.length cap ∧ L.length ≤ cap := by
  rcases h.2 with ⟨rfl, hn⟩ | ⟨g, cap, cur, rfl, _, _, hnc, _⟩
  · exact .inl ⟨rfl, List.eq_nil_of_length_eq_zero hn⟩
  · exact .inr ⟨g, cap, rfl, hnc⟩

end Go.Proofs.YtpnbibokddhheaaGreat

/-
  Layer 21: the program's words of one vertex, one edge.
-/
namespace Go.Proofs.YtpnbibokddhheaaGreat
open Go.RowKit

set_option maxHeartbeats 2000000 in
set_option maxRecDepth 100000 in
theorem within_any (k i : Int) (w : World) {t : Bool} (ht : mayV ⟨k, i⟩ = t) : Calls Tryz.prog 53 #[.agg #[.int .i64 k, .int .i64 i]] w fun r w' => r = .returned (.bool t) ∧ Below w.heap.size w w' := by
  subst ht
  have Hb := Lib.hid ((Below.refl w.heap.size w).alloc (Nat.le_refl _) (.cells #[.int .i64 k, .int .i64 i] 39))
  have hk := Blk.new w 39 #[.int .i64 k, .int .i64 i]
  obtain ⟨w0, hW0⟩ : ∃ w0, w.alloc (.cells #[.int .i64 k, .int .i64 i] 39) = w0 := ⟨_, rfl⟩
  rw [hW0] at hk Hb
  obtain ⟨a0, a1, -, -⟩ := hk.cells2
  clear hk
  by_cases h1 : k = 1
  · subst h1
    by_cases h2 : 1 ≤ i
    · by_cases h3 : i ≤ 15
      · have Hr := Lib.hid (show mayV ⟨1, i⟩ = true by simp [mayV, h2, h3])
        go_enter Tryz.func53, Tryz.ntmps53
        go_wp2
        go_ret
        exact ⟨by rw [Hr.out]; rfl, Hb.out⟩
      · have Hr := Lib.hid (show mayV ⟨1, i⟩ = false by simp [mayV, h3])
        go_enter Tryz.func53, Tryz.ntmps53
        go_wp2
        go_ret
        exact ⟨by rw [Hr.out]; rfl, Hb.out⟩
    · have Hr := Lib.hid (show mayV ⟨1, i⟩ = false by simp [mayV, h2])
      go_enter Tryz.func53, Tryz.ntmps53
      go_wp2
      go_ret
      exact ⟨by rw [Hr.out]; rfl, Hb.out⟩
  · by_cases h2 : k = 2
    · subst h2
      by_cases h3 : 0 ≤ i
      · by_cases h4 : i ≤ 63
        · have Hr := Lib.hid (show mayV ⟨2, i⟩ = true by simp [mayV, h3, h4])
          go_enter Tryz.func53, Tryz.ntmps53
          go_wp2
          go_ret
          exact ⟨by rw [Hr.out]; rfl, Hb.out⟩
        · have Hr := Lib.hid (show mayV ⟨2, i⟩ = false by simp [mayV, h4])
          go_enter Tryz.func53, Tryz.ntmps53
          go_wp2
          go_ret
          exact ⟨by rw [Hr.out]; rfl, Hb.out⟩
      · have Hr := Lib.hid (show mayV ⟨2, i⟩ = false by simp [mayV, h3])
        go_enter Tryz.func53, Tryz.ntmps53
        go_wp2
        go_ret
        exact ⟨by rw [Hr.out]; rfl, Hb.out⟩
    · have Hr := Lib.hid (show mayV ⟨k, i⟩ = false by simp [mayV, h1, h2])
      go_enter Tryz.func53, Tryz.ntmps53
      go_wp2
      go_ret
      exact ⟨by rw [Hr.out]; rfl, Hb.out⟩
set_option maxHeartbeats 4000000 in
set_option maxRecDepth 100000 in
theorem counts_any (e1 e2 e3 e4 e5 : Int) (w : World) {t : Bool} (ht : cntE ⟨e1, e2, e3, e4, e5⟩ = t) : Calls Tryz.prog 54 #[.agg #[.int .i64 e1, .int .i64 e2, .int .i64 e3, .int .i64 e4, .int .i64 e5]] w fun r w' => r = .returned (.bool t) ∧ Below w.heap.size w w' := by
  subst ht
  have Hb := Lib.hid ((Below.refl w.heap.size w).alloc (Nat.le_refl _) (.cells #[.int .i64 e1, .int .i64 e2, .int .i64 e3, .int .i64 e4, .int .i64 e5] 133))
  have hk := Blk.new w 133 #[.int .i64 e1, .int .i64 e2, .int .i64 e3, .int .i64 e4, .int .i64 e5]
  obtain ⟨w0, hW0⟩ : ∃ w0, w.alloc (.cells #[.int .i64 e1, .int .i64 e2, .int .i64 e3, .int .i64 e4, .int .i64 e5] 133) = w0 := ⟨_, rfl⟩
  rw [hW0] at hk Hb
  have HK := Lib.hid hk
  obtain ⟨a0, a1, a2, a3, a4, -⟩ := hk.cells5
  clear hk
  obtain ⟨m1, hm1⟩ : ∃ m, mayV ⟨e1, e2⟩ = m := ⟨_, rfl⟩
  obtain ⟨m2, hm2⟩ : ∃ m, mayV ⟨e3, e4⟩ = m := ⟨_, rfl⟩
  have HM1 := Lib.hid (fun W => within_any e1 e2 W hm1)
  have HM2 := Lib.hid (fun W => within_any e3 e4 W hm2)
  have HE1 := Lib.hid (show m1 = true → e1 = 1 ∨ e1 = 2 from fun h => by
    rcases mayV_iff.1 (hm1.trans h) with ⟨g, -⟩ | ⟨g, -⟩
    · exact .inl g
    · exact .inr g)
  have HE2 := Lib.hid (show m2 = true → e3 = 1 ∨ e3 = 2 from fun h => by
    rcases mayV_iff.1 (hm2.trans h) with ⟨g, -⟩ | ⟨g, -⟩
    · exact .inl g
    · exact .inr g)
  have Hc := Lib.hid (show cntE ⟨e1, e2, e3, e4, e5⟩ = (m1 && m2 && ((decide (e1 = 1) && decide (e3 = 2) && decide (1 ≤ e5 ∧ e5 ≤ 100)) || (decide (e1 = 2) && decide (e3 = 1) && decide (e5 = 0)))) by rw [← hm1, ← hm2]; rfl)
  clear hm1 hm2
  go_enter Tryz.func54, Tryz.ntmps54
  go_wp2_with fail
  with_reducible refine Calls.mono (HM1.out _) ?_
  rintro r w1 ⟨rfl, hb1⟩
  have HB1 := Lib.hid (below_trans Hb.out Hb.out.size hb1)
  have HK1 := Lib.hid (HK.out.below hb1 HK.out.lt)
  clear a0 a1 a2 a3 a4 hb1
  obtain ⟨a0, a1, a2, a3, a4, -⟩ := HK1.out.cells5
  cases m1 with
  | false =>
    go_wp2
    go_ret
    exact ⟨by rw [Hc.out]; rfl, HB1.out⟩
  | true =>
    go_wp2_with fail
    with_reducible refine Calls.mono (HM2.out _) ?_
    rintro r w2 ⟨rfl, hb2⟩
    have HB2 := Lib.hid (below_trans HB1.out HB1.out.size hb2)
    have HK2 := Lib.hid (HK1.out.below hb2 HK1.out.lt)
    clear a0 a1 a2 a3 a4 hb2
    obtain ⟨a0, a1, a2, a3, a4, -⟩ := HK2.out.cells5
    cases m2 with
    | false =>
      go_wp2
      go_ret
      exact ⟨by rw [Hc.out]; rfl, HB2.out⟩
    | true =>
      rcases HE1.out (by trivial) with h1 | h1
      · subst h1
        rcases HE2.out (by trivial) with h2 | h2
        · subst h2
          have Hr := Lib.hid (Hc.out.trans (c := false) (by simp))
          go_wp2
          go_ret
          exact ⟨by rw [Hr.out]; rfl, HB2.out⟩
        · subst h2
          by_cases h3 : 1 ≤ e5
          · by_cases h4 : e5 ≤ 100
            · have Hr := Lib.hid (Hc.out.trans (c := true) (by simp [h3, h4]))
              go_wp2
              go_ret
              exact ⟨by rw [Hr.out]; rfl, HB2.out⟩
            · have Hr := Lib.hid (Hc.out.trans (c := false) (by simp [h4]))
              have hd4 : decide (e5 ≤ 100) = false := by simp [h4]
              go_wp2
              go_ret
              exact ⟨by rw [Hr.out]; rfl, HB2.out⟩
          · have Hr := Lib.hid (Hc.out.trans (c := false) (by simp [h3]))
            go_wp2
            go_ret
            exact ⟨by rw [Hr.out]; rfl, HB2.out⟩
      · subst h1
        rcases HE2.out (by trivial) with h2 | h2
        · subst h2
          by_cases h4 : e5 = 0
          · subst h4
            have Hr := Lib.hid (Hc.out.trans (c := true) (by simp))
            go_wp2
            go_ret
            exact ⟨by rw [Hr.out]; rfl, HB2.out⟩
          · have Hr := Lib.hid (Hc.out.trans (c := false) (by simp [h4]))
            have hd4 : (e5 == 0) = false := by simp [h4]
            go_wp2
            go_ret
            exact ⟨by rw [Hr.out]; rfl, HB2.out⟩
        · subst h2
          have Hr := Lib.hid (Hc.out.trans (c := false) (by simp))
          go_wp2
          go_ret
          exact ⟨by rw [Hr.out]; rfl, HB2.out⟩

end Go.Proofs.YtpnbibokddhheaaGreat

/-
  Floats that are whole numbers: sums and comparisons of them are exact.
-/
namespace Go.Proofs.YtpnbibokddhheaaGreat
open Go

/-- the float of a whole number -/
def flt (n : Nat) : Nat := Ieee.Format.nearest Ieee.double false n 0

theorem dbl_least : Ieee.double.leastPlace = -1074 := by decide
theorem dbl_binade : Ieee.double.binade = 2 ^ 52 := by decide
theorem dbl_inf : Ieee.double.infRung = 2047 * 2 ^ 52 := by decide
theorem dbl_sw : Ieee.double.signWeight = 2 ^ 63 := by decide
theorem log2_mul_pow {n : Nat} (hn : n ≠ 0) (d : Nat) : (n * 2 ^ d).log2 = n.log2 + d := by
  have hp : 0 < 2 ^ d := Nat.two_pow_pos d
  have h0 : n * 2 ^ d ≠ 0 := Nat.mul_ne_zero hn (by omega)
  rw [Nat.log2_eq_iff h0]
  have h1 := Nat.log2_self_le hn
  have h2 := Nat.lt_log2_self (n := n)
  constructor
  · rw [Nat.pow_add]
    exact Nat.mul_le_mul_right _ h1
  · rw [show n.log2 + d + 1 = (n.log2 + 1) + d by omega, Nat.pow_add]
    exact Nat.mul_lt_mul_of_pos_right h2 hp
theorem cut_even0 (n d : Nat) : Ieee.Toward.cut .even false (n * 2 ^ d) d = n := by
  unfold Ieee.Toward.cut
  by_cases hn : n = 0
  · subst hn
    simp [Nat.shiftLeft_eq]
  · have hd : min d ((n * 2 ^ d).log2 + 2) = d := by
      rw [log2_mul_pow hn]
      omega
    rw [hd, Nat.shiftLeft_eq, Nat.one_mul]
    have hp : 0 < 2 ^ d := Nat.two_pow_pos d
    simp only [Nat.mul_div_cancel _ hp, Nat.mul_mod_left]
    have h1 : decide (2 ^ d < 2 * 0) = false := by simp
    have h2 : (2 ^ d == 2 * 0) = false := by simp
    rw [h1, h2]
    simp
theorem minX (X L m : Nat) (hL : L ≤ 52) (hm : m < 2 * X) : min ((L + 1022) * X + m) (2047 * X) = (L + 1022) * X + m := by
  have : (L + 1022) * X ≤ 1074 * X := Nat.mul_le_mul_right _ (by omega)
  omega
theorem ltXf (X L m : Nat) (hL : L ≤ 52) (hm : m < 2 * X) (hm0 : X ≤ m) : (L + 1022) * X + m < 2047 * X ∧ ¬(L + 1022) * X + m < X ∧ ((L + 1022) * X + m) / X = L + 1023 ∧ ((L + 1022) * X + m) % X = m - X := by
  have h1 : (L + 1022) * X ≤ 1074 * X := Nat.mul_le_mul_right _ (by omega)
  have h2 : 1 * X ≤ (L + 1022) * X := Nat.mul_le_mul_right _ (by omega)
  have hX : 0 < X := by omega
  have e : (L + 1022) * X + m = (m - X) + X * (L + 1023) := by
    rw [Nat.mul_comm X, show L + 1023 = (L + 1022) + 1 by omega, Nat.add_mul (L + 1022) 1]
    omega
  refine ⟨by omega, by omega, ?_, ?_⟩
  · rw [e, Nat.add_mul_div_left _ _ hX, Nat.div_eq_of_lt (by omega)]; omega
  · rw [e, Nat.add_mul_mod_self_left, Nat.mod_eq_of_lt (by omega)]
theorem nearest_shift (n k : Nat) (hn : n < 2 ^ 53) : Ieee.Format.nearest Ieee.double false (n * 2 ^ k) (-(k : Int)) = if n = 0 then 0 else (n.log2 + 1022) * 2 ^ 52 + n * 2 ^ (52 - n.log2) := by
  unfold Ieee.Format.nearest
  by_cases h0 : n = 0
  · subst h0
    simp [Ieee.Format.word]
  · have hp : 0 < 2 ^ k := Nat.two_pow_pos k
    rw [if_neg h0, if_neg (Nat.mul_ne_zero h0 (by omega)), log2_mul_pow h0, dbl_least, dbl_binade, dbl_inf]
    have hL : n.log2 ≤ 52 := by
      have := (Nat.log2_lt h0).2 hn
      omega
    have hfb : ((Ieee.double.fractionBits : Nat) : Int) = 52 := rfl
    simp only [hfb]
    obtain ⟨L, hLL⟩ : ∃ L, n.log2 = L := ⟨_, rfl⟩
    have h1 := Nat.log2_self_le h0
    have h2 := Nat.lt_log2_self (n := n)
    rw [hLL] at h1 h2 hL ⊢
    have hlast : max (-(k : Int) + ((L + k : Nat) : Int) - 52) (-1074) = (L : Int) - 52 := by omega
    rw [hlast]
    have hw : ((L : Int) - 52 - -1074).toNat = L + 1022 := by omega
    rw [hw]
    have hcut : Ieee.Toward.cut .even false ((n * 2 ^ k) <<< (-(k : Int) - ((L : Int) - 52)).toNat) (((L : Int) - 52 - -(k : Int)).toNat) = n * 2 ^ (52 - L) := by
      rw [Nat.shiftLeft_eq]
      by_cases hc : k ≤ 52 - L
      · rw [show ((L : Int) - 52 - -(k : Int)).toNat = 0 by omega, show (-(k : Int) - ((L : Int) - 52)).toNat = 52 - L - k by omega]
        have := cut_even0 (n * 2 ^ k * 2 ^ (52 - L - k)) 0
        rw [Nat.pow_zero, Nat.mul_one] at this
        rw [this, Nat.mul_assoc, ← Nat.pow_add]
        congr 2
        omega
      · rw [show ((L : Int) - 52 - -(k : Int)).toNat = k - (52 - L) by omega, show (-(k : Int) - ((L : Int) - 52)).toNat = 0 by omega, Nat.pow_zero, Nat.mul_one]
        have := cut_even0 (n * 2 ^ (52 - L)) (k - (52 - L))
        rw [Nat.mul_assoc, ← Nat.pow_add, show 52 - L + (k - (52 - L)) = k by omega] at this
        exact this
    rw [hcut]
    have hlt : n * 2 ^ (52 - L) < 2 ^ 53 := by
      have : n * 2 ^ (52 - L) < 2 ^ (L + 1) * 2 ^ (52 - L) := Nat.mul_lt_mul_of_pos_right h2 (Nat.two_pow_pos _)
      rw [← Nat.pow_add, show L + 1 + (52 - L) = 53 by omega] at this
      exact this
    unfold Ieee.Format.word
    simp only [Bool.false_eq_true, if_false]
    exact minX _ _ _ hL (by rw [← Nat.pow_succ']; exact hlt)
theorem flt_eq (n : Nat) (hn : n < 2 ^ 53) : flt n = if n = 0 then 0 else (n.log2 + 1022) * 2 ^ 52 + n * 2 ^ (52 - n.log2) := by
  have := nearest_shift n 0 hn
  rw [Nat.pow_zero, Nat.mul_one] at this
  exact this
/-- what it reads as -/
theorem flt_read (n : Nat) (hn : n < 2 ^ 53) : ∃ k : Nat, k ≤ 1074 ∧ Ieee.double.read (flt n) = .number false (n * 2 ^ k) (-(k : Int)) := by
  rw [flt_eq n hn]
  by_cases h0 : n = 0
  · subst h0
    obtain ⟨c, hc⟩ : ∃ c : Nat, c = 1074 := ⟨_, rfl⟩
    refine ⟨c, by omega, ?_⟩
    rw [if_pos rfl, Nat.zero_mul, hc]
    unfold Ieee.Format.read
    rw [dbl_sw, dbl_binade, dbl_least]
    simp
  · rw [if_neg h0]
    have hL : n.log2 ≤ 52 := by
      have := (Nat.log2_lt h0).2 hn
      omega
    have h1 := Nat.log2_self_le h0
    have h2 := Nat.lt_log2_self (n := n)
    obtain ⟨L, hLL⟩ : ∃ L, n.log2 = L := ⟨_, rfl⟩
    rw [hLL] at h1 h2 hL ⊢
    have hlt : n * 2 ^ (52 - L) < 2 ^ 53 := by
      have : n * 2 ^ (52 - L) < 2 ^ (L + 1) * 2 ^ (52 - L) := Nat.mul_lt_mul_of_pos_right h2 (Nat.two_pow_pos _)
      rw [← Nat.pow_add, show L + 1 + (52 - L) = 53 by omega] at this
      exact this
    have hge : 2 ^ 52 ≤ n * 2 ^ (52 - L) := by
      have : 2 ^ L * 2 ^ (52 - L) ≤ n * 2 ^ (52 - L) := Nat.mul_le_mul_right _ h1
      rw [← Nat.pow_add, show L + (52 - L) = 52 by omega] at this
      exact this
    refine ⟨52 - L, by omega, ?_⟩
    generalize n * 2 ^ (52 - L) = m at *
    obtain ⟨r1, r2, r3, r4⟩ := ltXf (2 ^ 52) L m hL (by rw [← Nat.pow_succ']; exact hlt) hge
    unfold Ieee.Format.read
    rw [dbl_sw, dbl_binade, dbl_inf, dbl_least]
    have h63 : (2047 : Nat) * 2 ^ 52 ≤ 2 ^ 63 := by decide
    have r5 : (L + 1022) * 2 ^ 52 + m < 2 ^ 63 := Nat.lt_of_lt_of_le r1 h63
    simp only [Nat.div_eq_of_lt r5, Nat.mod_eq_of_lt r5]
    rw [if_neg r2, if_pos r1, r3, r4]
    simp only [Nat.zero_mod, show ((0 : Nat) == 1) = false from rfl, Ieee.Datum.number.injEq, true_and]
    constructor
    · exact Nat.add_sub_cancel' hge
    · omega
theorem shiftI (n k : Nat) (b : Int) (h : b ≤ -(k : Int)) : Ieee.signed false (n * 2 ^ k) (-(k : Int) - b).toNat = ((n * 2 ^ (-b).toNat : Nat) : Int) := by
  unfold Ieee.signed
  simp only [Bool.false_eq_true, if_false]
  rw [Nat.shiftLeft_eq, Nat.mul_assoc, ← Nat.pow_add, show k + (-(k : Int) - b).toNat = (-b).toNat by omega]
theorem flt_add (a b : Nat) (h : a + b < 2 ^ 53) : floatBits .add .f64 (flt a) (flt b) = some (flt (a + b)) := by
  obtain ⟨i, hi, ea⟩ := flt_read a (by omega)
  obtain ⟨j, hj, eb⟩ := flt_read b (by omega)
  unfold floatBits FloatKind.format Ieee.Format.add
  simp only
  rw [ea, eb]
  unfold Ieee.Datum.sum
  simp only [Option.map_some, Option.some.injEq]
  rw [shiftI a i _ (by omega), shiftI b j _ (by omega)]
  obtain ⟨c, hc⟩ : ∃ c : Nat, min (-(i : Int)) (-(j : Int)) = -(c : Int) ∧ c ≤ 1074 := ⟨max i j, by omega, by omega⟩
  rw [hc.1, show (-(-(c : Int))).toNat = c by omega]
  have hsum : ((a * 2 ^ c : Nat) : Int) + ((b * 2 ^ c : Nat) : Int) = (((a + b) * 2 ^ c : Nat) : Int) := by
    rw [Nat.add_mul]; omega
  rw [hsum]
  have hneg : decide ((((a + b) * 2 ^ c : Nat) : Int) < 0) = false := by
    have : (0 : Int) ≤ (((a + b) * 2 ^ c : Nat) : Int) := Int.natCast_nonneg _
    simpa using this
  rw [hneg]
  simp only [Bool.and_false, ite_self, Int.natAbs_natCast]
  unfold Ieee.Format.write
  simp only
  rw [nearest_shift _ _ h, ← flt_eq _ h]
theorem flt_toInt (n : Nat) (h : n < 2 ^ 53) : floatToIntVal .f64 (flt n) .i64 = some (n : Int) := by
  obtain ⟨i, hi, ea⟩ := flt_read n h
  unfold floatToIntVal FloatKind.decode FloatKind.format
  simp only
  rw [ea]
  unfold Ieee.Datum.toInt Ieee.Datum.integral
  simp only
  have : Ieee.Toward.cut .zero false ((n * 2 ^ i) <<< (-(i : Int)).toNat) (- -(i : Int)).toNat = n := by
    rw [show (-(i : Int)).toNat = 0 by omega, show (- -(i : Int)).toNat = i by omega, Nat.shiftLeft_eq, Nat.pow_zero, Nat.mul_one]
    unfold Ieee.Toward.cut
    by_cases hn : n = 0
    · subst hn
      simp
    · have hd : min i ((n * 2 ^ i).log2 + 2) = i := by
        rw [log2_mul_pow hn]
        omega
      rw [hd, Nat.shiftLeft_eq, Nat.one_mul]
      simp only [Nat.mul_div_cancel _ (Nat.two_pow_pos i)]
      simp
  rw [this]
  unfold Ieee.signed
  simp only [Bool.false_eq_true, if_false, Nat.shiftLeft_eq, Nat.pow_zero, Nat.mul_one]
  have h1 : IntKind.i64.min = -9223372036854775808 := by decide
  have h2 : IntKind.i64.max = 9223372036854775807 := by decide
  rw [h1, h2, if_pos (by omega)]
theorem flt_order (a b : Nat) (ha : a < 2 ^ 53) (hb : b < 2 ^ 53) : Ieee.double.order (flt a) (flt b) = some (compare a b) := by
  obtain ⟨i, hi, ea⟩ := flt_read a (by omega)
  obtain ⟨j, hj, eb⟩ := flt_read b (by omega)
  unfold Ieee.Format.order
  rw [ea, eb]
  unfold Ieee.Datum.order
  simp only [Option.some.injEq]
  rw [shiftI a i _ (by omega), shiftI b j _ (by omega)]
  have hp : 0 < 2 ^ (-min (-(i : Int)) (-(j : Int))).toNat := Nat.two_pow_pos _
  generalize 2 ^ (-min (-(i : Int)) (-(j : Int))).toNat = c at *
  simp only [compare, compareOfLessAndEq]
  by_cases h : a < b
  · have : a * c < b * c := Nat.mul_lt_mul_of_pos_right h hp
    rw [if_pos h, if_pos (by omega)]
  · rw [if_neg h]
    by_cases h2 : a = b
    · subst h2
      simp
    · have : b * c < a * c := Nat.mul_lt_mul_of_pos_right (by omega) hp
      rw [if_neg h2, if_neg (by omega), if_neg (by omega)]
theorem flt_int (n : Nat) : floatOfInt .f64 (n : Int) = flt n := by
  have : decide ((n : Int) < 0) = false := by simp
  show Ieee.Format.nearest Ieee.double (decide ((n : Int) < 0)) (n : Int).natAbs 0 = _
  rw [this]
  rfl
theorem flt_nearest (n : Nat) : FloatKind.f64.nearest (n : Int) = flt n := by
  unfold FloatKind.nearest
  exact flt_int n
end Go.Proofs.YtpnbibokddhheaaGreat

/-
  Layer 21: floats that are whole numbers: compared, the lesser one; sums of complex ones.
-/
namespace Go.Proofs.YtpnbibokddhheaaGreat
open Go.RowKit Go.Sort Go.Proofs

theorem cplxAdd (T : TypeId) (a b c d : Nat) (h1 : a + c < 2 ^ 53) (h2 : b + d < 2 ^ 53) (w : World) : (binOp .add T (.complex .f64 (flt a) (flt b)) (.complex .f64 (flt c) (flt d))).run Tryz.prog w = .ok (.complex .f64 (flt (a + c)) (flt (b + d))) w := by
  refine run_complex_sum w .add (.inl rfl) T .f64 _ _ _ _ _ _ ?_
  unfold cSumBits
  rw [flt_add _ _ h1, flt_add _ _ h2]
  rfl
theorem flt_zero0 : flt 0 = 0 := by rw [flt_eq 0 (by omega)]; rfl
theorem fltInt (b : Nat) (n : Int) (h : floatToIntVal .f64 b .i64 = some n) (w : World) : (convert 142 3 (.float .f64 b)).run Tryz.prog w = .ok (.int .i64 n) w :=
  run_convert_float_int w 142 3 .f64 .i64 b n (by rw [Tryz.underlying142]; rfl) Tryz.underlying3 h
theorem fltOrder (a b : Nat) (ha : a < 2 ^ 53) (hb : b < 2 ^ 53) : FloatKind.f64.format.order (flt a) (flt b) = some (compare a b) := flt_order a b ha hb
theorem minFlt_run (a b : Nat) (ha : a < 2 ^ 53) (hb : b < 2 ^ 53) (ts : Array TypeId) (t : TypeId) (w : World) : (Builtin.min_ ts t #[.float .f64 (flt a), .float .f64 (flt b)]).run Tryz.prog w = .ok (.float .f64 (flt (min a b))) w := by
  unfold Builtin.min_
  simp only [List.foldlM_cons, List.foldlM_nil, Builtin.min2]
  rw [fltOrder a b ha hb]
  rcases Nat.lt_trichotomy a b with h | h | h
  · have hc : compare a b = .lt := Nat.compare_eq_lt.2 h
    simp [hc, Nat.min_eq_left (Nat.le_of_lt h)]
  · subst h
    have hc : compare a a = .eq := Nat.compare_eq_eq.2 rfl
    simp
  · have hc : compare a b = .gt := Nat.compare_eq_gt.2 h
    simp [hc, Nat.min_eq_right (Nat.le_of_lt h)]
set_option maxHeartbeats 400000 in
theorem isNaNF_s (a : Nat) (ha : a < 2 ^ 53) (w : World) : Calls Tryz.prog 195 #[.float .f64 (flt a)] w fun r w' => r = .returned (.bool false) ∧ w = w' := by
  have ho : FloatKind.f64.format.order (flt a) (flt a) = some .eq := by
    rw [fltOrder a a ha ha, Nat.compare_eq_eq.2 rfl]
  generalize flt a = x at *
  go_enter Tryz.func195, Tryz.ntmps195
  go_wp2
  go_ret
  exact ⟨rfl, rfl⟩
set_option maxHeartbeats 1000000 in
theorem cmpF_s (a b : Nat) (ha : a < 2 ^ 53) (hb : b < 2 ^ 53) (w : World) : Calls Tryz.prog 140 #[.float .f64 (flt a), .float .f64 (flt b)] w fun r w' => r = .returned (.int .i64 (cmpI a b)) ∧ w = w' := by
  have HA := Lib.hid (fun w => isNaNF_s a ha w)
  have HB := Lib.hid (fun w => isNaNF_s b hb w)
  have hc : ∃ c, FloatKind.f64.format.order (flt a) (flt b) = some c ∧ ((c = .lt ∧ cmpI a b = -1) ∨ (c = .eq ∧ cmpI a b = 0) ∨ (c = .gt ∧ cmpI a b = 1)) := by
    refine ⟨_, fltOrder a b ha hb, ?_⟩
    rcases Nat.lt_trichotomy a b with h | h | h
    · exact .inl ⟨Nat.compare_eq_lt.2 h, by unfold cmpI; simp; omega⟩
    · exact .inr (.inl ⟨Nat.compare_eq_eq.2 h, by unfold cmpI; simp; omega⟩)
    · exact .inr (.inr ⟨Nat.compare_eq_gt.2 h, by unfold cmpI; simp; omega⟩)
  obtain ⟨c, ho, hc⟩ := hc
  generalize flt a = x at *
  generalize flt b = y at *
  rcases hc with ⟨rfl, e⟩ | ⟨rfl, e⟩ | ⟨rfl, e⟩
  all_goals
    rw [e]
    clear e
    go_enter Tryz.func140, Tryz.ntmps140
    go_wp2_with fail
    with_reducible refine Calls.mono (HA.out _) ?_
    rintro r w2 ⟨rfl, rfl⟩
    go_wp2_with fail
    with_reducible refine Calls.mono (HB.out _) ?_
    rintro r w2 ⟨rfl, rfl⟩
    go_wp2
    go_ret
    exact ⟨rfl, rfl⟩

end Go.Proofs.YtpnbibokddhheaaGreat
