/-
  Keys as keys of maps.
-/
import Derived.Laws.StructEq
import Derived.RegionTactic
import Derived.Test.YtpnbibokddhheaaProg
import Derived.Test.YtpnbibokddhheaaStMap
namespace Go.Proofs.Ytpnbibokddhheaa
open Go.RowKit

structure K3 where
  kind : Int
  id : Int
  adv : Int
deriving DecidableEq
instance : Inhabited K3 := ⟨⟨0, 0, 0⟩⟩
def K3.cells (k : K3) : List Value := [.int .i64 k.kind, .int .i64 k.id, .int .i64 k.adv]
def K3.enc (k : K3) : Value := .agg #[.int .i64 k.kind, .int .i64 k.id, .int .i64 k.adv]
theorem eqK3_n (n : Nat) (a b c a' b' c' : Int) (w : World) : (Op.equalIn (n + 1 + 1) 85 (.agg #[.int .i64 a, .int .i64 b, .int .i64 c]) (.agg #[.int .i64 a', .int .i64 b', .int .i64 c'])).run Try.prog w = .ok (a == a' && b == b' && c == c') w := by
  have hS : Try.prog.underlying 85 = some (.struct (Try.prog.fieldsOf 85)) := by kernel_rfl
  have hp : Try.prog.stoodInHeld 85 = false := by kernel_rfl
  rw [run_equalIn_struct w (n + 1) 85 _ _ hS hp]
  simp only [Program.fieldsOf, Try.underlying85]
  go_simp
  by_cases h1 : a = a' <;> by_cases h2 : b = b' <;> by_cases h3 : c = c' <;> simp [h1, h2, h3]
theorem eqK3 (a b : K3) (w : World) : (Op.equal 85 a.enc b.enc).run Try.prog w = .ok (decide (a = b)) w := by
  obtain ⟨a1, a2, a3⟩ := a
  obtain ⟨b1, b2, b3⟩ := b
  refine (eqK3_n 9998 a1 a2 a3 b1 b2 b3 w).trans ?_
  by_cases h1 : a1 = b1 <;> by_cases h2 : a2 = b2 <;> by_cases h3 : a3 = b3 <;> simp [h1, h2, h3]
theorem checkInt (e : Bool) (n : Nat) (x : Int) (w : World) : (Instr.checkKey e (n + 1) 3 (.int .i64 x)).run Try.prog w = .ok () w := MapKept.run_checkKey Try.underlying3 (by simp [MapKept.IsKey]) e n
theorem checkK3_n (n : Nat) (e : Bool) (a b c : Int) (w : World) : (Instr.checkKey e (n + 1 + 1) 85 (.agg #[.int .i64 a, .int .i64 b, .int .i64 c])).run Try.prog w = .ok () w := by
  have hc : ∀ x w, (Instr.checkKey e (n + 1) 3 (.int .i64 x)).run Try.prog w = .ok () w := fun x w => checkInt e n x w
  rw [Instr.checkKey]
  simp only [Sem.run_bind, run_underlying Try.underlying85, Result.andThen_ok]
  rw [← Array.forIn_toList]
  go_simp
theorem sameBits_agg (n : Nat) : ∀ l : List Value, (∀ v ∈ l, Instr.sameBits n v v = true) → (l.zip l).all (fun (x, y) => Instr.sameBits n x y) = true
  | [], _ => rfl
  | v :: l, h => by
    simp only [List.zip_cons_cons, List.all_cons, Bool.and_eq_true]
    exact ⟨h v (by simp), sameBits_agg n l fun u hu => h u (by simp [hu])⟩
theorem sameBits_int (n : Nat) (x : Int) : Instr.sameBits n (.int .i64 x) (.int .i64 x) = true := by unfold Instr.sameBits; simp
theorem sameK3 (k : K3) : Instr.sameBits 10000 k.enc k.enc = true := by
  rw [show (10000 : Nat) = 9999 + 1 from rfl, K3.enc, Instr.sameBits]
  simp only [beq_self_eq_true, Bool.true_and]
  exact sameBits_agg _ _ fun v hv => by
    simp at hv
    rcases hv with rfl | rfl | rfl <;> exact sameBits_int _ _
theorem K3.enc_inj (a b : K3) (h : a.enc = b.enc) : a = b := by
  obtain ⟨a1, a2, a3⟩ := a
  obtain ⟨b1, b2, b3⟩ := b
  simp [K3.enc] at h
  simp [h]
theorem keyK3 : KeyOk Try.prog 85 K3.enc := KeyOk.of_struct Try.underlying85 eqK3 (fun e _k w => checkK3_n 9998 e _ _ _ w) sameK3 K3.enc_inj

end Go.Proofs.Ytpnbibokddhheaa
