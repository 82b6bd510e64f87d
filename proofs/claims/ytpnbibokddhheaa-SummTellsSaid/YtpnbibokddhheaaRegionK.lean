/-
  A region that draws its order, in a class of worlds: operations whose value hangs on the class alone are taken first, calls too; of another one whatever it yields.
-/
import Derived.OrdersHeld
import Derived.Deep.Quiet
import Derived.Test.YtpnbibokddhheaaQuietTail
namespace Go.Proofs.Ytpnbibokddhheaa
open Go

section
variable {P : Program} {ops : Array Oper} {md : Region.Mode} {C : World → Prop} {Q : Exit → Act → World → Prop}

def kOp (P : Program) (ops : Array Oper) (C : World → Prop) (Q : Exit → Act → World → Prop) (i : Nat) (K : Act → Prop) (a : Act) : Prop := ∀ w, C w → wpOp P ops Q i (fun a' w' => C w' ∧ K a') a w
def wpAnyK (P : Program) (md : Region.Mode) (ops : Array Oper) (C : World → Prop) (Q : Exit → Act → World → Prop) : Nat → Array Bool → Act → Prop
  | 0, s, a => Region.ready md ops s = [] ∧ ∀ w, C w → Q .normal a w
  | f + 1, s, a => (Region.ready md ops s = [] → ∀ w, C w → Q .normal a w) ∧ ∀ i ∈ Region.ready md ops s, kOp P ops C Q i (wpAnyK P md ops C Q f (s.setIfInBounds i true)) a

theorem kOp_mono {i : Nat} {K K' : Act → Prop} {a : Act} (h : ∀ a, K a → K' a) (hk : kOp P ops C Q i K a) : kOp P ops C Q i K' a := fun w hw => wpOp_mono (fun _ _ ⟨h1, h2⟩ => ⟨h1, h _ h2⟩) (hk w hw)
theorem wpAny_of_K : ∀ (f : Nat) (s : Array Bool) (a : Act) (w : World), C w → wpAnyK P md ops C Q f s a → wpAny P md ops Q f s a w
  | 0, _, _, w, hw, h => ⟨h.1, h.2 w hw⟩
  | f + 1, _, _, w, hw, h => ⟨fun h0 => h.1 h0 w hw, fun i hi => wpOp_mono (fun a' w' ⟨h1, h2⟩ => wpAny_of_K f _ a' w' h1 h2) (h.2 i hi w hw)⟩

/-- what an operation that lies apart leaves as it was -/
theorem wpOp_put_inv {j : Nat} {oi oj : Oper} {v : Value} {I : Act → Prop} (hj : ops[j]? = some oj) (hap : oi.apart ops oj = true) (hsj : ∀ cs b, oj.op ≠ .select cs b)
    (hQ : ∀ c a w, Q (.panic c) (a.put oi.dst v) w → Q (.panic c) a w) (keep : ∀ a, I a → ∀ u, I (a.put oj.dst u)) (keepD : ∀ a, I a → ∀ d, I { a with defers := d :: a.defers })
    {K : Act → World → Prop} {a : Act} {w : World} (hI : I a) (h : wpOp P ops Q j K (a.put oi.dst v) w) : wpOp P ops Q j (fun a' w' => I a' ∧ K (a'.put oi.dst v) w') a w := by
  obtain ⟨h1, h2, h3⟩ := Oper.apart_spec hap
  unfold wpOp at *
  simp only [hj] at *
  rw [wanted_put oj a oi.dst v h1] at h
  by_cases hw : Region.wanted oj (yielded ops a.tmps) = true
  · simp only [hw, if_true] at h ⊢
    rcases h with h | ⟨hasks, hlets⟩
    · left
      unfold Oper.wp at *
      rw [execOp_put oj hsj a oi.dst v h1] at h
      rcases hr : (execOp a.eval oj).run P w with ⟨n, w'⟩ | ⟨x, w'⟩
      · rw [hr] at h
        cases n <;> simp only [Oper.upon] at h ⊢
        case value u => exact ⟨keep a hI u, by rw [← Act.put_comm a v u h2]; exact h⟩
        case skip => exact ⟨keep a hI _, by rw [← Act.put_comm a v undef h2]; exact h⟩
        case defer d => exact ⟨keep _ (keepD a hI d) _, by rw [← Act.put_comm _ v undef h2, ← Act.put_defers]; exact h⟩
        case enter f args =>
          refine Calls.mono h fun e w'' he => ?_
          cases e with
          | returned u => exact ⟨keep a hI u, by rw [← Act.put_comm a v u h2]; exact he⟩
          | panicked c => exact hQ _ _ _ he
          | outgrown => exact he
        case row row args => exact Rows.mono h fun u w'' he => ⟨keep a hI u, by rw [← Act.put_comm a v u h2]; exact he⟩
      · rw [hr] at h
        cases x <;> simp only [Oper.upon] at h ⊢
        exact hQ _ _ _ h
    · right
      refine ⟨?_, hlets⟩
      unfold Oper.asks at *
      rw [execOp_put oj hsj a oi.dst v h1] at hasks
      exact hasks
  · simp only [hw, Bool.false_eq_true, if_false] at h ⊢
    exact ⟨keep a hI _, by rw [← Act.put_comm a v undef h2]; exact h⟩
theorem kOp_put {j : Nat} {oi oj : Oper} {v : Value} (hj : ops[j]? = some oj) (hap : oi.apart ops oj = true) (hsi : ∀ cs b, oi.op ≠ .select cs b) (hsj : ∀ cs b, oj.op ≠ .select cs b)
    (hQ : ∀ c a w, Q (.panic c) (a.put oi.dst v) w → Q (.panic c) a w) {K : Act → Prop} {a : Act} (hy : YieldsIn P ops C oi v a) (h : kOp P ops C Q j K (a.put oi.dst v)) :
    kOp P ops C Q j (fun a' => YieldsIn P ops C oi v a' ∧ K (a'.put oi.dst v)) a := fun w hw => by
  obtain ⟨h1, h2, h3⟩ := Oper.apart_spec hap
  have := wpOp_put_inv (I := fun a => YieldsIn P ops C oi v a) hj hap hsj hQ (fun a hy u => hy.of_same (execOp_put oi hsi a oj.dst u h3) (wanted_put oi a oj.dst u h3)) (fun a hy d => hy.of_same rfl rfl) hy (h w hw)
  exact wpOp_mono (fun a' w' ⟨x1, x2, x3⟩ => ⟨x2, x1, x3⟩) this
theorem kOp_of_yields {i : Nat} {oi : Oper} {v : Value} {a : Act} {K : Act → Prop} (hi : ops[i]? = some oi) (hy : YieldsIn P ops C oi v a) (h : K (a.put oi.dst v)) : kOp P ops C Q i K a := fun w hw => by
  have hq : qOp P ops C i K a := hy.qOp hi h
  exact wpOp_of_qOp hw (fun a' w' hw' hk => ⟨hw', hk⟩) hq

theorem wpAnyK_first {i : Nat} {oi : Oper} {v : Value} (hi : ops[i]? = some oi) (hsel : ∀ (j : Nat) (o : Oper) cs b, ops[j]? = some o → o.op ≠ .select cs b)
    (hQ : ∀ c a w, Q (.panic c) (a.put oi.dst v) w → Q (.panic c) a w) :
    ∀ (f : Nat) (s : Array Bool) (a : Act), (∀ j oj, ops[j]? = some oj → j ≠ i → s.getD j true = false → (∀ e ∈ oj.after, Region.binds md e = true → e.on ≠ i) → oi.apart ops oj = true) →
      i ∈ Region.ready md ops s → YieldsIn P ops C oi v a → wpAnyK P md ops C Q f (s.setIfInBounds i true) (a.put oi.dst v) → wpAnyK P md ops C Q (f + 1) s a := by
  intro f
  induction f with
  | zero =>
    intro s a _ hr hy H
    refine ⟨fun h => (by rw [h] at hr; cases hr), fun j hj => ?_⟩
    by_cases hji : j = i
    · subst hji; exact kOp_of_yields hi hy H
    · have := ready_mono hj hji
      rw [H.1] at this
      cases this
  | succ f ih =>
    intro s a hfree hr hy H
    refine ⟨fun h => (by rw [h] at hr; cases hr), fun j hj => ?_⟩
    by_cases hji : j = i
    · subst hji; exact kOp_of_yields hi hy H
    · have h1 := H.2 j (ready_mono hj hji)
      obtain ⟨hjun, oj, hoj, hall⟩ := mem_ready.1 hj
      have hun := (mem_ready.1 hr).1
      have hnot : ∀ e ∈ oj.after, Region.binds md e = true → e.on ≠ i := fun e he hb heq => by
        have h1 := hall e he hb
        rw [heq, getD_both hun] at h1
        exact Bool.noConfusion h1
      have h2 := kOp_put hoj (hfree j oj hoj hji hjun hnot) (fun cs b => hsel i oi cs b hi) (fun cs b => hsel j oj cs b hoj) hQ hy h1
      have hfree' : ∀ k ok, ops[k]? = some ok → k ≠ i → (s.setIfInBounds j true).getD k true = false → (∀ e ∈ ok.after, Region.binds md e = true → e.on ≠ i) → oi.apart ops ok = true := fun k ok hk hki hun hno => by
        refine hfree k ok hk hki ?_ hno
        by_cases hjk : j = k
        · subst hjk; exact hjun
        · rw [getD_set_ne true hjk] at hun; exact hun
      refine kOp_mono (fun a' h3 => ih (s.setIfInBounds j true) a' hfree' (ready_mono hr (Ne.symm hji)) h3.1 ?_) h2
      rw [Array.setIfInBounds_comm _ _ hji]
      exact h3.2

/-- Take number i first. -/
theorem K_take {i : Nat} {oi : Oper} {v : Value} {f : Nat} {s : Array Bool} {a : Act} (hi : ops[i]? = some oi) (hs : Region.noSelect ops = true) (hf : Region.free md ops s i = true) (hr : (Region.ready md ops s).contains i = true)
    (hQ : ∀ c a w, Q (.panic c) (a.put oi.dst v) w → Q (.panic c) a w) (hy : YieldsIn P ops C oi v a) (h : wpAnyK P md ops C Q f (s.setIfInBounds i true) (a.put oi.dst v)) : wpAnyK P md ops C Q (f + 1) s a :=
  wpAnyK_first hi (Region.noSelect_spec hs) hQ f s a (Region.free_spec hi hf) (by simpa using hr) hy h
/-- Only number i may come up: whatever it yields. -/
theorem K_one {i : Nat} {f : Nat} {s : Array Bool} {a : Act} (hr : Region.ready md ops s = [i]) (h : kOp P ops C Q i (wpAnyK P md ops C Q f (s.setIfInBounds i true)) a) : wpAnyK P md ops C Q (f + 1) s a :=
  ⟨fun h0 => (by rw [hr] at h0; cases h0), fun j hj => by rw [hr, List.mem_singleton] at hj; subst hj; exact h⟩
/-- .. what has come up written out -/
theorem K_takeL {i : Nat} {oi : Oper} {v : Value} {d : Option Nat} {f : Nat} {s s' : Array Bool} {a : Act} (hs' : s.setIfInBounds i true = s') (hi : ops[i]? = some oi) (hd : oi.dst = d) (hs : Region.noSelect ops = true) (hf : Region.free md ops s i = true) (hr : (Region.ready md ops s).contains i = true)
    (hQ : ∀ c a w, Q (.panic c) (a.put oi.dst v) w → Q (.panic c) a w) (hy : YieldsIn P ops C oi v a) (h : wpAnyK P md ops C Q f s' (a.put d v)) : wpAnyK P md ops C Q (f + 1) s a :=
  K_take hi hs hf hr hQ hy (by rw [hd, hs']; exact h)
theorem K_oneL {i : Nat} {f : Nat} {s s' : Array Bool} {a : Act} (hs' : s.setIfInBounds i true = s') (hr : Region.ready md ops s = [i]) (h : kOp P ops C Q i (wpAnyK P md ops C Q f s') a) : wpAnyK P md ops C Q (f + 1) s a :=
  K_one hr (hs' ▸ h)
theorem wpOp_valueL {i : Nat} {o : Oper} {v : Value} {d : Option Nat} {a : Act} {w w' : World} {K : Act → World → Prop} (hi : ops[i]? = some o) (hd : o.dst = d) (hg : Region.wanted o (yielded ops a.tmps) = true)
    (hx : (execOp a.eval o).run P w = .ok (.value v) w') (hK : K (a.put d v) w') : wpOp P ops Q i K a w := by
  subst hd
  unfold wpOp
  simp only [hi, hg, if_true, Oper.wp, hx, Oper.upon]
  exact .inl hK
theorem K_done {s : Array Bool} {a : Act} (hr : Region.ready md ops s = []) (h : ∀ w, C w → Q .normal a w) : ∀ f, wpAnyK P md ops C Q f s a
  | 0 => ⟨hr, h⟩
  | _ + 1 => ⟨fun _ => h, by rw [hr]; simp⟩
theorem wp_region_K {id : Nat} {a : Act} {w : World} (hm : P.follows .mixedOrders = true) (hC : C { w with drawn := w.drawn + 1 })
    (h : wpAnyK P .any ops C Q ops.size (Array.replicate ops.size false) a) : (Code.region id ops true).wp P Q a w :=
  wp_region_any hm (wpAny_of_K _ _ _ _ hC h)
theorem wp_region_KL {id : Nat} {a : Act} {w : World} {s : Array Bool} {n : Nat} (hm : P.follows .mixedOrders = true) (hC : C { w with drawn := w.drawn + 1 }) (hn : ops.size = n) (hs : Array.replicate n false = s)
    (h : wpAnyK P .any ops C Q n s a) : (Code.region id ops true).wp P Q a w := by
  subst hn hs
  exact wp_region_K hm hC h
end

end Go.Proofs.Ytpnbibokddhheaa
