/-
  A region that draws its order, and whose last operation turns what the others read: they are taken first under what holds till then.
-/
import Derived.Test.YtpnbibokddhheaaRegionK
import Derived.Test.YtpnbibokddhheaaHeld
namespace Go.Proofs.Ytpnbibokddhheaa
open Go Go.RowKit

section
variable {P : Program} {ops : Array Oper} {md : Region.Mode} {F : World → Prop} {n : Nat} {Q : Exit → Act → World → Prop}

/-- F holds behind every operation ahead of number n. -/
def wpAnyF (P : Program) (md : Region.Mode) (ops : Array Oper) (Q : Exit → Act → World → Prop) (F : World → Prop) (n : Nat) : Nat → Array Bool → Act → World → Prop
  | 0, s, a, w => Region.ready md ops s = [] ∧ Q .normal a w
  | f + 1, s, a, w => (Region.ready md ops s = [] → Q .normal a w) ∧ ∀ i ∈ Region.ready md ops s, wpOp P ops Q i (fun a' w' => (i < n → F w') ∧ wpAnyF P md ops Q F n f (s.setIfInBounds i true) a' w') a w
theorem wpAny_of_F : ∀ (f : Nat) (s : Array Bool) (a : Act) (w : World), wpAnyF P md ops Q F n f s a w → wpAny P md ops Q f s a w
  | 0, _, _, _, h => h
  | f + 1, _, _, _, h => ⟨h.1, fun i hi => wpOp_mono (fun a' w' h' => wpAny_of_F f _ a' w' h'.2) (h.2 i hi)⟩
/-- what has come up came up behind what it waits for -/
def Closed (md : Region.Mode) (ops : Array Oper) (s : Array Bool) : Prop := ∀ j oj, ops[j]? = some oj → s.getD j false = true → ∀ e ∈ oj.after, Region.binds md e = true → s.getD e.on false = true
def closedB (md : Region.Mode) (ops : Array Oper) (s : Array Bool) : Bool := (List.range ops.size).all fun j => match ops[j]? with
  | some o => !s.getD j false || o.after.toList.all fun e => !Region.binds md e || s.getD e.on false
  | none => true
theorem closed_of {s : Array Bool} (h : closedB md ops s = true) : Closed md ops s := by
  intro j oj hj hl e he hb
  have hjs : j < ops.size := (Array.getElem?_eq_some_iff.1 hj).1
  have h1 := List.all_eq_true.1 h j (List.mem_range.2 hjs)
  rw [hj] at h1
  simp only [hl, Bool.not_true, Bool.false_or] at h1
  have h2 := List.all_eq_true.1 h1 e (by simpa using he)
  rw [hb] at h2
  simpa using h2
theorem Closed.set {s : Array Bool} {i : Nat} (h : Closed md ops s) (hi : i ∈ Region.ready md ops s) : Closed md ops (s.setIfInBounds i true) := by
  obtain ⟨_, oi, hoi, hall⟩ := mem_ready.1 hi
  intro j oj hj hl e he hb
  by_cases hij : i = j
  · subst hij
    rw [hoi] at hj
    injection hj with hj
    subst hj
    exact getD_set_true (hall e he hb)
  · rw [getD_set_ne false hij] at hl
    exact getD_set_true (h j oj hj hl e he hb)
/-- j waits for i, over others too -/
def waitsB (md : Region.Mode) (ops : Array Oper) : Nat → Nat → Nat → Bool
  | 0, _, _ => false
  | f + 1, i, j => match ops[j]? with
    | some o => o.after.toList.any fun e => Region.binds md e && (e.on == i || waitsB md ops f i e.on)
    | none => false
theorem waits_listed {s : Array Bool} (hc : Closed md ops s) {i : Nat} : ∀ (f j : Nat), waitsB md ops f i j = true → (∀ oj, ops[j]? = some oj → ∀ e ∈ oj.after, Region.binds md e = true → s.getD e.on false = true) → s.getD i false = true
  | 0, _, h, _ => by simp [waitsB] at h
  | f + 1, j, h, hd => by
    unfold waitsB at h
    cases hj : ops[j]? with
    | none => rw [hj] at h; cases h
    | some oj =>
      rw [hj] at h
      obtain ⟨e, he, h1⟩ := List.any_eq_true.1 h
      rw [Bool.and_eq_true, Bool.or_eq_true, beq_iff_eq] at h1
      have he' : e ∈ oj.after := by simpa using he
      have hl := hd oj hj e he' h1.1
      rcases h1.2 with h2 | h2
      · rw [← h2]; exact hl
      · exact waits_listed hc f e.on h2 (fun ok hk e2 he2 hb2 => hc e.on ok hk hl e2 he2 hb2)
/-- number n is the last one, and waits for all others -/
def lastB (md : Region.Mode) (ops : Array Oper) (n : Nat) : Bool := ops.size == n + 1 && (List.range n).all fun i => waitsB md ops (n + 1) i n
theorem last_waits (hl : lastB md ops n = true) {s : Array Bool} (hc : Closed md ops s) {i j : Nat} (hi : i < n) (hun : s.getD i true = false) (hj : j ∈ Region.ready md ops s) : j < n := by
  unfold lastB at hl
  rw [Bool.and_eq_true, beq_iff_eq] at hl
  obtain ⟨-, oj, hoj, hall⟩ := mem_ready.1 hj
  have hjs : j < ops.size := (Array.getElem?_eq_some_iff.1 hoj).1
  by_cases hjn : j = n
  · subst hjn
    have h1 := List.all_eq_true.1 hl.2 i (List.mem_range.2 hi)
    have h3 := waits_listed hc _ _ h1 (fun ok hk e he hb => by rw [hoj] at hk; injection hk with hk; subst hk; exact hall e he hb)
    rw [getD_both hun] at h3
    exact Bool.noConfusion h3
  · omega
theorem wpAnyF_first (hl : lastB md ops n = true) {i : Nat} {oi : Oper} {v : Value} (hin : i < n) (hi : ops[i]? = some oi) (hsel : ∀ (j : Nat) (o : Oper) cs b, ops[j]? = some o → o.op ≠ .select cs b)
    (hQ : ∀ c a w, Q (.panic c) (a.put oi.dst v) w → Q (.panic c) a w) :
    ∀ (f : Nat) (s : Array Bool) (a : Act) (w : World), Closed md ops s → (∀ j oj, ops[j]? = some oj → j ≠ i → s.getD j true = false → (∀ e ∈ oj.after, Region.binds md e = true → e.on ≠ i) → oi.apart ops oj = true) →
      i ∈ Region.ready md ops s → YieldsIf P ops F oi v a → F w → wpAnyF P md ops Q F n f (s.setIfInBounds i true) (a.put oi.dst v) w → wpAnyF P md ops Q F n (f + 1) s a w := by
  intro f
  induction f with
  | zero =>
    intro s a w _ _ hr hy hF H
    refine ⟨fun h => (by rw [h] at hr; cases hr), fun j hj => ?_⟩
    by_cases hji : j = i
    · subst hji; exact hy.wpOp hi hF ⟨fun _ => hF, H⟩
    · have := ready_mono hj hji
      rw [H.1] at this
      cases this
  | succ f ih =>
    intro s a w hcl hfree hr hy hF H
    refine ⟨fun h => (by rw [h] at hr; cases hr), fun j hj => ?_⟩
    by_cases hji : j = i
    · subst hji; exact hy.wpOp hi hF ⟨fun _ => hF, H⟩
    · have hun := (mem_ready.1 hr).1
      have hjn : j < n := last_waits hl hcl hin hun hj
      have h1 := H.2 j (ready_mono hj hji)
      obtain ⟨hjun, oj, hoj, hall⟩ := mem_ready.1 hj
      have hnot : ∀ e ∈ oj.after, Region.binds md e = true → e.on ≠ i := fun e he hb heq => by
        have h1 := hall e he hb
        rw [heq, getD_both hun] at h1
        exact Bool.noConfusion h1
      have h2 := wpOp_putIf hoj (hfree j oj hoj hji hjun hnot) (fun cs b => hsel i oi cs b hi) (fun cs b => hsel j oj cs b hoj) hQ hy h1
      have hfree' : ∀ k ok, ops[k]? = some ok → k ≠ i → (s.setIfInBounds j true).getD k true = false → (∀ e ∈ ok.after, Region.binds md e = true → e.on ≠ i) → oi.apart ops ok = true := fun k ok hk hki hun hno => by
        refine hfree k ok hk hki ?_ hno
        by_cases hjk : j = k
        · subst hjk; exact hjun
        · rw [getD_set_ne true hjk] at hun; exact hun
      refine wpOp_mono (fun a' w' h3 => ⟨fun _ => h3.2.1 hjn, ih (s.setIfInBounds j true) a' w' (hcl.set hj) hfree' (ready_mono hr (Ne.symm hji)) h3.1 (h3.2.1 hjn) ?_⟩) h2
      rw [Array.setIfInBounds_comm _ _ hji]
      exact h3.2.2

theorem F_take {i : Nat} {oi : Oper} {v : Value} {d : Option Nat} {f : Nat} {s s' : Array Bool} {a : Act} {w : World} (hl : lastB md ops n = true) (hc : closedB md ops s = true) (hin : i < n) (hs' : s.setIfInBounds i true = s') (hi : ops[i]? = some oi) (hd : oi.dst = d) (hs : Region.noSelect ops = true)
    (hf : Region.free md ops s i = true) (hr : (Region.ready md ops s).contains i = true) (hQ : ∀ c a w, Q (.panic c) (a.put oi.dst v) w → Q (.panic c) a w) (hy : YieldsIf P ops F oi v a) (hF : F w)
    (h : wpAnyF P md ops Q F n f s' (a.put d v) w) : wpAnyF P md ops Q F n (f + 1) s a w :=
  wpAnyF_first hl hin hi (Region.noSelect_spec hs) hQ f s a w (closed_of hc) (Region.free_spec hi hf) (by simpa using hr) hy hF (by rw [hd, hs']; exact h)
theorem F_one {i : Nat} {f : Nat} {s s' : Array Bool} {a : Act} {w : World} (hs' : s.setIfInBounds i true = s') (hr : Region.ready md ops s = [i]) (h : wpOp P ops Q i (fun a' w' => (i < n → F w') ∧ wpAnyF P md ops Q F n f s' a' w') a w) : wpAnyF P md ops Q F n (f + 1) s a w :=
  ⟨fun h0 => (by rw [hr] at h0; cases h0), fun j hj => by rw [hr, List.mem_singleton] at hj; subst hj; rw [hs']; exact h⟩
theorem F_done {s : Array Bool} {a : Act} {w : World} (hr : Region.ready md ops s = []) (h : Q .normal a w) : ∀ f, wpAnyF P md ops Q F n f s a w
  | 0 => ⟨hr, h⟩
  | _ + 1 => ⟨fun _ => h, by rw [hr]; simp⟩
theorem wp_region_F {id : Nat} {a : Act} {w : World} {s : Array Bool} {m : Nat} (hm : P.follows .mixedOrders = true) (hn : ops.size = m) (hs : Array.replicate m false = s)
    (h : ∀ w1 : World, Hid (w1 = w.drew) → wpAnyF P .any ops Q F n m s a w1) : (Code.region id ops true).wp P Q a w := by
  subst hn hs
  exact wp_region_any hm (wpAny_of_F _ _ _ _ (h _ rfl))
theorem wpOp_appendL {i : Nat} {o : Oper} {t : TypeId} {sv xv v : Value} {x y : Operand} {d : Option Nat} {a : Act} {w w' : World} {K : Act → World → Prop} (hi : ops[i]? = some o) (hd : o.dst = d) (ht : o.type = t) (hg : Region.wanted o (yielded ops a.tmps) = true)
    (ho : o.op = .call { callee := .builtin .append, args := #[x, y], argTypes := #[t, t] }) (hs : a.eval x = sv) (hx : a.eval y = xv) (hr : (Builtin.append_ #[t, t] t #[sv, xv]).run P w = .ok v w') (hK : K (a.put d v) w') : wpOp P ops Q i K a w := by
  subst hd ht hs hx
  exact wpOp_wp hi hg (wp_append_run ho hr hK)
theorem wpOp_skipL {i : Nat} {o : Oper} {a : Act} {w w' : World} {K : Act → World → Prop} (hi : ops[i]? = some o) (hd : o.dst = none) (hg : Region.wanted o (yielded ops a.tmps) = true)
    (hx : (execOp a.eval o).run P w = .ok .skip w') (hK : K (a.put none undef) w') : wpOp P ops Q i K a w := by
  unfold wpOp
  simp only [hi, hg, if_true, Oper.wp, hx, Oper.upon, hd]
  exact .inl hK
end

end Go.Proofs.Ytpnbibokddhheaa
