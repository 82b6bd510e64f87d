/-
  Layer 20: pairs of vertices, hops and numbers as keys of maps.
-/
import Derived.Test.YtbffhdlfplgccaaKyThree
namespace Go.Proofs.Ytbffhdlfplgccaa
open Go.RowKit

structure P4 where
  fk : Int
  fi : Int
  tk : Int
  ti : Int
deriving DecidableEq
structure Hp where
  lan : Int
  id : Int
deriving DecidableEq
def P4.cells (k : P4) : List Value := [.int .i64 k.fk, .int .i64 k.fi, .int .i64 k.tk, .int .i64 k.ti]
def P4.enc (k : P4) : Value := .agg #[.int .i64 k.fk, .int .i64 k.fi, .int .i64 k.tk, .int .i64 k.ti]
def Hp.cells (k : Hp) : List Value := [.int .i64 k.lan, .int .i64 k.id]
def Hp.enc (k : Hp) : Value := .agg #[.int .i64 k.lan, .int .i64 k.id]
theorem eqV2_n (n : Nat) (a b a' b' : Int) (w : World) : (Op.equalIn (n + 1 + 1) 75 (.agg #[.int .i64 a, .int .i64 b]) (.agg #[.int .i64 a', .int .i64 b'])).run Try.prog w = .ok (a == a' && b == b') w := by
  have hS : Try.prog.underlying 75 = some (.struct (Try.prog.fieldsOf 75)) := by kernel_rfl
  have hp : Try.prog.stoodInHeld 75 = false := by kernel_rfl
  rw [run_equalIn_struct w (n + 1) 75 _ _ hS hp]
  simp only [Program.fieldsOf, Try.underlying75]
  go_simp
  by_cases h1 : a = a' <;> by_cases h2 : b = b' <;> simp [h1, h2]
theorem eqP4_n (n : Nat) (a b c d a' b' c' d' : Int) (w : World) : (Op.equalIn (n + 1 + 1 + 1) 134 (.agg #[.int .i64 a, .int .i64 b, .int .i64 c, .int .i64 d]) (.agg #[.int .i64 a', .int .i64 b', .int .i64 c', .int .i64 d'])).run Try.prog w = .ok (a == a' && b == b' && c == c' && d == d') w := by
  have hS : Try.prog.underlying 134 = some (.struct (Try.prog.fieldsOf 134)) := by kernel_rfl
  have hp : Try.prog.stoodInHeld 134 = false := by kernel_rfl
  rw [run_equalIn_struct w (n + 1 + 1) 134 _ _ hS hp]
  simp only [Program.fieldsOf, Try.underlying134]
  have hv := eqV2_n n
  go_simp
  by_cases h1 : a = a' <;> by_cases h2 : b = b' <;> by_cases h3 : c = c' <;> by_cases h4 : d = d' <;> simp [h1, h2, h3, h4]
theorem eqHp_n (n : Nat) (a b a' b' : Int) (w : World) : (Op.equalIn (n + 1 + 1) 145 (.agg #[.int .i64 a, .int .i64 b]) (.agg #[.int .i64 a', .int .i64 b'])).run Try.prog w = .ok (a == a' && b == b') w := by
  have hS : Try.prog.underlying 145 = some (.struct (Try.prog.fieldsOf 145)) := by kernel_rfl
  have hp : Try.prog.stoodInHeld 145 = false := by kernel_rfl
  rw [run_equalIn_struct w (n + 1) 145 _ _ hS hp]
  simp only [Program.fieldsOf, Try.underlying145]
  go_simp
  by_cases h1 : a = a' <;> by_cases h2 : b = b' <;> simp [h1, h2]
theorem eqP4 (a b : P4) (w : World) : (Op.equal 134 a.enc b.enc).run Try.prog w = .ok (decide (a = b)) w := by
  obtain ⟨a1, a2, a3, a4⟩ := a
  obtain ⟨b1, b2, b3, b4⟩ := b
  refine (eqP4_n 9997 a1 a2 a3 a4 b1 b2 b3 b4 w).trans ?_
  by_cases h1 : a1 = b1 <;> by_cases h2 : a2 = b2 <;> by_cases h3 : a3 = b3 <;> by_cases h4 : a4 = b4 <;> simp [h1, h2, h3, h4]
theorem eqHp (a b : Hp) (w : World) : (Op.equal 145 a.enc b.enc).run Try.prog w = .ok (decide (a = b)) w := by
  obtain ⟨a1, a2⟩ := a
  obtain ⟨b1, b2⟩ := b
  refine (eqHp_n 9998 a1 a2 b1 b2 w).trans ?_
  by_cases h1 : a1 = b1 <;> by_cases h2 : a2 = b2 <;> simp [h1, h2]
theorem checkV2_n (n : Nat) (e : Bool) (a b : Int) (w : World) : (Instr.checkKey e (n + 1 + 1) 75 (.agg #[.int .i64 a, .int .i64 b])).run Try.prog w = .ok () w := by
  have hc : ∀ x w, (Instr.checkKey e (n + 1) 3 (.int .i64 x)).run Try.prog w = .ok () w := fun x w => checkInt e n x w
  rw [Instr.checkKey]
  simp only [Sem.run_bind, run_underlying Try.underlying75, Result.andThen_ok]
  rw [← Array.forIn_toList]
  go_simp
theorem checkP4_n (n : Nat) (e : Bool) (a b c d : Int) (w : World) : (Instr.checkKey e (n + 1 + 1 + 1) 134 (.agg #[.int .i64 a, .int .i64 b, .int .i64 c, .int .i64 d])).run Try.prog w = .ok () w := by
  have hc : ∀ x y w, (Instr.checkKey e (n + 1 + 1) 75 (.agg #[.int .i64 x, .int .i64 y])).run Try.prog w = .ok () w := fun x y w => checkV2_n n e x y w
  rw [Instr.checkKey]
  simp only [Sem.run_bind, run_underlying Try.underlying134, Result.andThen_ok]
  rw [← Array.forIn_toList]
  go_simp
theorem checkHp_n (n : Nat) (e : Bool) (a b : Int) (w : World) : (Instr.checkKey e (n + 1 + 1) 145 (.agg #[.int .i64 a, .int .i64 b])).run Try.prog w = .ok () w := by
  have hc : ∀ x w, (Instr.checkKey e (n + 1) 3 (.int .i64 x)).run Try.prog w = .ok () w := fun x w => checkInt e n x w
  rw [Instr.checkKey]
  simp only [Sem.run_bind, run_underlying Try.underlying145, Result.andThen_ok]
  rw [← Array.forIn_toList]
  go_simp
theorem sameP4 (k : P4) : Instr.sameBits 10000 k.enc k.enc = true := by
  rw [show (10000 : Nat) = 9999 + 1 from rfl, P4.enc, Instr.sameBits]
  simp only [beq_self_eq_true, Bool.true_and]
  exact sameBits_agg _ _ fun v hv => by
    simp at hv
    rcases hv with rfl | rfl | rfl | rfl <;> exact sameBits_int _ _
theorem sameHp (k : Hp) : Instr.sameBits 10000 k.enc k.enc = true := by
  rw [show (10000 : Nat) = 9999 + 1 from rfl, Hp.enc, Instr.sameBits]
  simp only [beq_self_eq_true, Bool.true_and]
  exact sameBits_agg _ _ fun v hv => by
    simp at hv
    rcases hv with rfl | rfl <;> exact sameBits_int _ _
theorem P4.enc_inj (a b : P4) (h : a.enc = b.enc) : a = b := by
  obtain ⟨a1, a2, a3, a4⟩ := a
  obtain ⟨b1, b2, b3, b4⟩ := b
  simp [P4.enc] at h
  simp [h]
theorem Hp.enc_inj (a b : Hp) (h : a.enc = b.enc) : a = b := by
  obtain ⟨a1, a2⟩ := a
  obtain ⟨b1, b2⟩ := b
  simp [Hp.enc] at h
  simp [h]
theorem keyP4 : KeyOk Try.prog 134 P4.enc := KeyOk.of_struct Try.underlying134 eqP4 (fun e _k w => checkP4_n 9997 e _ _ _ _ w) sameP4 P4.enc_inj
theorem keyHp : KeyOk Try.prog 145 Hp.enc := KeyOk.of_struct Try.underlying145 eqHp (fun e _k w => checkHp_n 9998 e _ _ w) sameHp Hp.enc_inj
def encI (k : Int) : Value := .int .i64 k
theorem findNow_int (k : Int) : ∀ (l : List MapEntry) (L : List (Int × Value)) (i : Nat), entE l = entL encI L → Instr.findNow (.int .i64) (encI k) l i = some (look k L i)
  | [], [], _, _ => rfl
  | [], e :: L, _, h => by simp [entE, entL] at h
  | x :: l, [], _, h => by simp [entE, entL] at h
  | x :: l, e :: L, i, h => by
    simp only [entE, entL, List.map_cons, List.cons.injEq, Prod.mk.injEq] at h
    obtain ⟨⟨h1, h2⟩, h3⟩ := h
    have ih := findNow_int k l L (i + 1) h3
    unfold Instr.findNow look
    rw [h1, h2]
    unfold encI Instr.sameNow at *
    by_cases he : e.1 = k
    · subst he
      simp
    · have he2 : ¬ k = e.1 := fun e => he e.symm
      simp only [if_true, he, if_false]
      have : (k == e.1) = false := by simpa using he2
      rw [this]
      exact ih
theorem keyInt : KeyOk Try.prog 3 encI where
  find := fun k l L w h => by
    have hj := findNow_int k l L 0 h
    simp only [Instr.findKey, Sem.run_bind, run_underlying Try.underlying3, Result.andThen_ok]
    rw [hj]
    rfl
  check := fun e k w => checkInt e 9999 k w
  same := fun k => sameBits_int _ _
  inj := fun a b h => by unfold encI at h; injection h
theorem getL_set {κ : Type} [DecidableEq κ] (k k' : κ) (v : Value) : ∀ S : List (κ × Value), getL k (setL k' v S) = if k = k' then some v else getL k S
  | [] => by
    unfold setL getL
    by_cases h : k = k'
    · simp [h]
    · simp [h, Ne.symm h, getL]
  | e :: S => by
    have ih := getL_set k k' v S
    unfold setL
    by_cases h1 : e.1 = k'
    · rw [if_pos h1]
      by_cases h2 : k = k'
      · simp [getL, h2]
      · have h3 : ¬ e.1 = k := fun e' => h2 (by rw [← e', h1])
        have h4 : ¬ k' = k := fun e' => h2 e'.symm
        simp [getL, h2, h3, h4]
    · rw [if_neg h1]
      unfold getL
      by_cases h2 : e.1 = k
      · have h3 : ¬ k = k' := fun e' => h1 (by rw [h2, e'])
        simp [h2, h3]
      · simp [h2, ih]

end Go.Proofs.Ytbffhdlfplgccaa
