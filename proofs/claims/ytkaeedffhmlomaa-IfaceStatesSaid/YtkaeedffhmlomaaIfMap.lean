/-
  A map of functions under keys of two numbers, as the program's move table is: what it holds, whatever the order in which it was filled.
-/
import Derived.Laws.StructEq
import Derived.RegionTactic
import Derived.Carry
import Derived.MapKept
import Derived.Test.YtkaeedffhmlomaaProg
import Derived.Test.YtkaeedffhmlomaaBase
namespace Go.Proofs.Ytkaeedffhmlomaa
open Go.RowKit

theorem eqMove (a b c d : Int) (w : World) : (Op.equalIn 10000 71 (.agg #[.int .i64 a, .int .i64 b]) (.agg #[.int .i64 c, .int .i64 d])).run Try.prog w = .ok (a == c && b == d) w := by
  have hS : Try.prog.underlying 71 = some (.struct (Try.prog.fieldsOf 71)) := by kernel_rfl
  have hp : Try.prog.stoodInHeld 71 = false := by kernel_rfl
  rw [show (10000 : Nat) = 9999 + 1 from rfl, run_equalIn_struct w 9999 71 _ _ hS hp]
  simp only [Program.fieldsOf, Try.underlying71]
  go_simp
  by_cases h1 : a = c <;> by_cases h2 : b = d <;> simp [h1, h2]
theorem eqCand (a b c d a' b' c' d' : Int) (w : World) : (Op.equalIn 10000 33 (.agg #[.int .i64 a, .int .i64 b, .int .i64 c, .int .i64 d]) (.agg #[.int .i64 a', .int .i64 b', .int .i64 c', .int .i64 d'])).run Try.prog w = .ok (a == a' && b == b' && c == c' && d == d') w := by
  have hS : Try.prog.underlying 33 = some (.struct (Try.prog.fieldsOf 33)) := by kernel_rfl
  have hp : Try.prog.stoodInHeld 33 = false := by kernel_rfl
  rw [show (10000 : Nat) = 9999 + 1 from rfl, run_equalIn_struct w 9999 33 _ _ hS hp]
  simp only [Program.fieldsOf, Try.underlying33]
  go_simp
  by_cases h1 : a = a' <;> by_cases h2 : b = b' <;> by_cases h3 : c = c' <;> by_cases h4 : d = d' <;> simp [h1, h2, h3, h4]
theorem eqIface (a b c d e a' b' c' d' e' : Int) (w : World) : (Op.equalIn 10000 41 (.agg #[.int .i64 a, .int .i64 b, .int .i64 c, .int .i64 d, .int .i64 e]) (.agg #[.int .i64 a', .int .i64 b', .int .i64 c', .int .i64 d', .int .i64 e'])).run Try.prog w = .ok (a == a' && b == b' && c == c' && d == d' && e == e') w := by
  have hS : Try.prog.underlying 41 = some (.struct (Try.prog.fieldsOf 41)) := by kernel_rfl
  have hp : Try.prog.stoodInHeld 41 = false := by kernel_rfl
  rw [show (10000 : Nat) = 9999 + 1 from rfl, run_equalIn_struct w 9999 41 _ _ hS hp]
  simp only [Program.fieldsOf, Try.underlying41]
  go_simp
  by_cases h1 : a = a' <;> by_cases h2 : b = b' <;> by_cases h3 : c = c' <;> by_cases h4 : d = d' <;> by_cases h5 : e = e' <;> simp [h1, h2, h3, h4, h5]

abbrev Ent := (Int × Int) × Value
def keyV (k : Int × Int) : Value := .agg #[.int .i64 k.1, .int .i64 k.2]
def findL (k : Int × Int) : List Ent → Option Value
  | [] => none
  | e :: l => if (k.1 == e.1.1 && k.2 == e.1.2) = true then some e.2 else findL k l
/-- Block b of w is a map with just these entries. -/
def Mv (w : World) (b : Nat) (L : List Ent) : Prop := ∃ es clock, w.heap[b]? = some (.map es clock) ∧ es.toList.map (fun x => (x.key, x.val)) = L.map fun e => (keyV e.1, e.2)

theorem findL_append (k : Int × Int) (L M : List Ent) : findL k (L ++ M) = (findL k L).or (findL k M) := by
  induction L with
  | nil => rfl
  | cons e L ih => simp only [List.cons_append, findL]; split <;> simp_all

theorem checkMove_n (n : Nat) (e : Bool) (k : Int × Int) (w : World) : (Instr.checkKey e (n + 1 + 1) 71 (keyV k)).run Try.prog w = .ok () w := by
  have hc : ∀ x w, (Instr.checkKey e (n + 1) 3 (.int .i64 x)).run Try.prog w = .ok () w := fun x w => MapKept.run_checkKey Try.underlying3 (by simp [MapKept.IsKey]) e n
  rw [Instr.checkKey]
  simp only [Sem.run_bind, run_underlying Try.underlying71, Result.andThen_ok, keyV]
  rw [← Array.forIn_toList]
  go_simp
theorem checkMove (e : Bool) (k : Int × Int) (w : World) : (Instr.checkKey e 10000 71 (keyV k)).run Try.prog w = .ok () w := checkMove_n 9998 e k w

theorem findAskingMove (k : Int × Int) (w : World) : ∀ (l : List MapEntry) (L : List Ent) (i : Nat), l.map (fun x => (x.key, x.val)) = L.map (fun e => (keyV e.1, e.2)) →
    ∃ j, (Instr.findAsking 71 (keyV k) l i).run Try.prog w = .ok ((findL k L).map fun v => (j, v)) w
  | [], L, i, h => by
    have : L = [] := by simpa using h.symm
    subst this
    exact ⟨0, by simp [Instr.findAsking, findL]⟩
  | x :: l, [], i, h => by simp at h
  | x :: l, e :: L, i, h => by
    simp only [List.map_cons, List.cons.injEq, Prod.mk.injEq] at h
    obtain ⟨⟨hk, hv⟩, ht⟩ := h
    have he : (Op.equal 71 (keyV k) x.key).run Try.prog w = .ok (k.1 == e.1.1 && k.2 == e.1.2) w := by
      rw [hk]; exact eqMove _ _ _ _ w
    by_cases hq : (k.1 == e.1.1 && k.2 == e.1.2) = true
    · exact ⟨i, by simp only [Instr.findAsking, Sem.run_bind, he, Result.andThen_ok, hq, if_true, findL, Sem.run_pure, hv]; rfl⟩
    · obtain ⟨j, hj⟩ := findAskingMove k w l L (i + 1) ht
      exact ⟨j, by simp only [Instr.findAsking, Sem.run_bind, he, Result.andThen_ok, hq, findL]; simpa using hj⟩

theorem findKeyMove (k : Int × Int) (w : World) (l : List MapEntry) (L : List Ent) (h : l.map (fun x => (x.key, x.val)) = L.map (fun e => (keyV e.1, e.2))) :
    ∃ j, (Instr.findKey 71 (keyV k) l).run Try.prog w = .ok ((findL k L).map fun v => (j, v)) w := by
  obtain ⟨j, hj⟩ := findAskingMove k w l L 0 h
  cases l with
  | nil =>
    have : L = [] := by simpa using h.symm
    subst this
    exact ⟨0, by simp [Instr.findKey, run_underlying Try.underlying71, Instr.findNow, findL]⟩
  | cons x l => exact ⟨j, by simp only [Instr.findKey, Sem.run_bind, run_underlying Try.underlying71, Result.andThen_ok, Instr.findNow, Instr.sameNow]; exact hj⟩

theorem lookMove (b : Nat) (L : List Ent) (k : Int × Int) (w : World) (h : Mv w b L) (v : Value) (hv : findL k L = some v) :
    (Instr.lookup 72 (.map (some b)) (keyV k) true).run Try.prog w = .ok (.tuple #[v, .bool true]) w := by
  obtain ⟨es, clock, hb, hm⟩ := h
  obtain ⟨j, hj⟩ := findKeyMove k w es.toList L hm
  rw [hv] at hj
  simp [Instr.lookup, run_underlying Try.underlying72, MapKept.run_getObj_map hb, checkMove, hj]
theorem lookMoveNot (b : Nat) (L : List Ent) (k : Int × Int) (w : World) (h : Mv w b L) (hv : findL k L = none) :
    (Instr.lookup 72 (.map (some b)) (keyV k) true).run Try.prog w = .ok (.tuple #[.nilFunc, .bool false]) w := by
  obtain ⟨es, clock, hb, hm⟩ := h
  obtain ⟨j, hj⟩ := findKeyMove k w es.toList L hm
  rw [hv] at hj
  have hz : ∀ w, (zeroValue 1).run Try.prog w = .ok .nilFunc w := fun w => by go_simp
  simp [Instr.lookup, run_underlying Try.underlying72, MapKept.run_getObj_map hb, checkMove, hj, hz]
theorem putMove (b : Nat) (L : List Ent) (k : Int × Int) (v : Value) (w : World) (h : Mv w b L) (hv : findL k L = none) :
    ∃ w', (Instr.mapUpdate 72 (.map (some b)) (keyV k) v).run Try.prog w = .ok () w' ∧ Mv w' b (L ++ [(k, v)]) ∧ w.grownBy w' (some b) := by
  obtain ⟨es, clock, hb, hm⟩ := h
  obtain ⟨j, hj⟩ := findKeyMove k w es.toList L hm
  rw [hv] at hj
  refine ⟨{ w with heap := w.heap.setIfInBounds b (.map (es.push { key := keyV k, val := v, born := clock }) (clock + 1)) }, ?_, ⟨_, _, (MapKept.heap_set hb).1, ?_⟩, ⟨rfl, rfl, rfl, by simp, fun i hi hne => (MapKept.heap_set hb).2 i fun e => hne (by rw [e])⟩⟩
  · simp [Instr.mapUpdate, run_underlying Try.underlying72, MapKept.run_getObj_map hb, checkMove, hj, MapKept.run_setObj_map _ hb, Result.andThen]
  · simp [hm]

end Go.Proofs.Ytkaeedffhmlomaa
