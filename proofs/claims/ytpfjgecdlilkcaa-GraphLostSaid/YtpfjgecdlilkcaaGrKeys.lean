/-
  Layer 20: pairs of vertices, hops and numbers as keys of maps.
-/
import Derived.Test.YtpfjgecdlilkcaaEdDec
namespace Go.Proofs.Ytpfjgecdlilkcaa
open Go.RowKit

structure P4 where
  fk : Int
  fi : Int
  tk : Int
  ti : Int
deriving DecidableEq
def P4.cells (k : P4) : List Value := [.int .i64 k.fk, .int .i64 k.fi, .int .i64 k.tk, .int .i64 k.ti]
def P4.enc (k : P4) : Value := .agg #[.int .i64 k.fk, .int .i64 k.fi, .int .i64 k.tk, .int .i64 k.ti]
theorem eqP4_n (n : Nat) (a b c d a' b' c' d' : Int) (w : World) : (Op.equalIn (n + 1 + 1 + 1) 81 (.agg #[.int .i64 a, .int .i64 b, .int .i64 c, .int .i64 d]) (.agg #[.int .i64 a', .int .i64 b', .int .i64 c', .int .i64 d'])).run Try.prog w = .ok (a == a' && b == b' && c == c' && d == d') w := by
  have hS : Try.prog.underlying 81 = some (.struct (Try.prog.fieldsOf 81)) := by kernel_rfl
  have hp : Try.prog.stoodInHeld 81 = false := by kernel_rfl
  rw [run_equalIn_struct w (n + 1 + 1) 81 _ _ hS hp]
  simp only [Program.fieldsOf, Try.underlying81]
  have hv := eqV2_n n
  go_simp
  by_cases h1 : a = a' <;> by_cases h2 : b = b' <;> by_cases h3 : c = c' <;> by_cases h4 : d = d' <;> simp [h1, h2, h3, h4]
theorem eqP4 (a b : P4) (w : World) : (Op.equal 81 a.enc b.enc).run Try.prog w = .ok (decide (a = b)) w := by
  obtain ⟨a1, a2, a3, a4⟩ := a
  obtain ⟨b1, b2, b3, b4⟩ := b
  refine (eqP4_n 9997 a1 a2 a3 a4 b1 b2 b3 b4 w).trans ?_
  by_cases h1 : a1 = b1 <;> by_cases h2 : a2 = b2 <;> by_cases h3 : a3 = b3 <;> by_cases h4 : a4 = b4 <;> simp [h1, h2, h3, h4]
theorem checkP4_n (n : Nat) (e : Bool) (a b c d : Int) (w : World) : (Instr.checkKey e (n + 1 + 1 + 1) 81 (.agg #[.int .i64 a, .int .i64 b, .int .i64 c, .int .i64 d])).run Try.prog w = .ok () w := by
  have hc : ∀ x y w, (Instr.checkKey e (n + 1 + 1) 40 (.agg #[.int .i64 x, .int .i64 y])).run Try.prog w = .ok () w := fun x y w => checkV2_n n e x y w
  rw [Instr.checkKey]
  simp only [Sem.run_bind, run_underlying Try.underlying81, Result.andThen_ok]
  rw [← Array.forIn_toList]
  go_simp
theorem sameP4 (k : P4) : Instr.sameBits 10000 k.enc k.enc = true := by
  rw [show (10000 : Nat) = 9999 + 1 from rfl, P4.enc, Instr.sameBits]
  simp only [beq_self_eq_true, Bool.true_and]
  exact sameBits_agg _ _ fun v hv => by
    simp at hv
    rcases hv with rfl | rfl | rfl | rfl <;> exact sameBits_int _ _
theorem P4.enc_inj (a b : P4) (h : a.enc = b.enc) : a = b := by
  obtain ⟨a1, a2, a3, a4⟩ := a
  obtain ⟨b1, b2, b3, b4⟩ := b
  simp [P4.enc] at h
  simp [h]
theorem keyP4 : KeyOk Try.prog 81 P4.enc := KeyOk.of_struct Try.underlying81 eqP4 (fun e _k w => checkP4_n 9997 e _ _ _ _ w) sameP4 P4.enc_inj
end Go.Proofs.Ytpfjgecdlilkcaa
