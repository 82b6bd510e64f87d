/-
  Edges, leaves, hops and vertices: their cells, their order, as keys of maps.
-/
import Derived.Test.YtpfjgecdlilkcaaKyThree
import Derived.Test.YtpfjgecdlilkcaaOwnR
namespace Go.Proofs.Ytpfjgecdlilkcaa
open Go.RowKit

structure Ed where
  fk : Int
  fi : Int
  tk : Int
  ti : Int
  cost : Int
deriving DecidableEq
structure Lf where
  router : Int
  lan : Int
  cost : Int
deriving DecidableEq
instance : Inhabited Ed := ⟨⟨0, 0, 0, 0, 0⟩⟩
instance : Inhabited Lf := ⟨⟨0, 0, 0⟩⟩

def ltE (a b : Ed) : Prop := a.fk < b.fk ∨ (a.fk = b.fk ∧ (a.fi < b.fi ∨ (a.fi = b.fi ∧ (a.tk < b.tk ∨ (a.tk = b.tk ∧ a.ti < b.ti)))))
def ltF (a b : Lf) : Prop := a.router < b.router ∨ (a.router = b.router ∧ a.lan < b.lan)
theorem sorted_ext {α : Type} {R : α → α → Prop} (irr : ∀ a, ¬ R a a) (asy : ∀ a b, R a b → ¬ R b a) : ∀ {L M : List α}, L.Pairwise R → M.Pairwise R → (∀ e, e ∈ L ↔ e ∈ M) → L = M
  | [], [], _, _, _ => rfl
  | [], b :: M, _, _, h => absurd ((h b).2 (by simp)) (by simp)
  | a :: L, [], _, _, h => absurd ((h a).1 (by simp)) (by simp)
  | a :: L, b :: M, h1, h2, h => by
    rw [List.pairwise_cons] at h1 h2
    have hab : a = b := by
      rcases List.mem_cons.1 ((h a).1 (by simp)) with e | ha
      · exact e
      · rcases List.mem_cons.1 ((h b).2 (by simp)) with e | hb
        · exact e.symm
        · exact absurd (h1.1 b hb) (asy _ _ (h2.1 a ha))
    subst hab
    rw [sorted_ext irr asy h1.2 h2.2 fun e => ?_]
    constructor
    · intro he
      rcases List.mem_cons.1 ((h e).1 (by simp [he])) with rfl | g
      · exact absurd (h1.1 e he) (irr e)
      · exact g
    · intro he
      rcases List.mem_cons.1 ((h e).2 (by simp [he])) with rfl | g
      · exact absurd (h2.1 e he) (irr e)
      · exact g
theorem ltE_irr (a : Ed) : ¬ ltE a a := by unfold ltE; omega
theorem ltE_asy (a b : Ed) : ltE a b → ¬ ltE b a := by unfold ltE; omega
theorem ltF_irr (a : Lf) : ¬ ltF a a := by unfold ltF; omega
theorem ltF_asy (a b : Lf) : ltF a b → ¬ ltF b a := by unfold ltF; omega
def Ed.cells (e : Ed) : List Value := [.int .i64 e.fk, .int .i64 e.fi, .int .i64 e.tk, .int .i64 e.ti, .int .i64 e.cost]
def Lf.cells (e : Lf) : List Value := [.int .i64 e.router, .int .i64 e.lan, .int .i64 e.cost]
theorem onesE (x : Ed) : ∀ u ∈ Ed.cells x, u.oneCell' = true := by
  intro u hu
  simp [Ed.cells] at hu
  rcases hu with rfl | rfl | rfl | rfl | rfl <;> rfl
theorem onesF (x : Lf) : ∀ u ∈ Lf.cells x, u.oneCell' = true := by
  intro u hu
  simp [Lf.cells] at hu
  rcases hu with rfl | rfl | rfl <;> rfl
structure Hp where
  lan : Int
  id : Int
deriving DecidableEq
def Hp.cells (k : Hp) : List Value := [.int .i64 k.lan, .int .i64 k.id]
def Hp.enc (k : Hp) : Value := .agg #[.int .i64 k.lan, .int .i64 k.id]
theorem eqV2_n (n : Nat) (a b a' b' : Int) (w : World) : (Op.equalIn (n + 1 + 1) 40 (.agg #[.int .i64 a, .int .i64 b]) (.agg #[.int .i64 a', .int .i64 b'])).run Try.prog w = .ok (a == a' && b == b') w := by
  have hS : Try.prog.underlying 40 = some (.struct (Try.prog.fieldsOf 40)) := by kernel_rfl
  have hp : Try.prog.stoodInHeld 40 = false := by kernel_rfl
  rw [run_equalIn_struct w (n + 1) 40 _ _ hS hp]
  simp only [Program.fieldsOf, Try.underlying40]
  go_simp
  by_cases h1 : a = a' <;> by_cases h2 : b = b' <;> simp [h1, h2]
theorem eqHp_n (n : Nat) (a b a' b' : Int) (w : World) : (Op.equalIn (n + 1 + 1) 68 (.agg #[.int .i64 a, .int .i64 b]) (.agg #[.int .i64 a', .int .i64 b'])).run Try.prog w = .ok (a == a' && b == b') w := by
  have hS : Try.prog.underlying 68 = some (.struct (Try.prog.fieldsOf 68)) := by kernel_rfl
  have hp : Try.prog.stoodInHeld 68 = false := by kernel_rfl
  rw [run_equalIn_struct w (n + 1) 68 _ _ hS hp]
  simp only [Program.fieldsOf, Try.underlying68]
  go_simp
  by_cases h1 : a = a' <;> by_cases h2 : b = b' <;> simp [h1, h2]
theorem eqHp (a b : Hp) (w : World) : (Op.equal 68 a.enc b.enc).run Try.prog w = .ok (decide (a = b)) w := by
  obtain ⟨a1, a2⟩ := a
  obtain ⟨b1, b2⟩ := b
  refine (eqHp_n 9998 a1 a2 b1 b2 w).trans ?_
  by_cases h1 : a1 = b1 <;> by_cases h2 : a2 = b2 <;> simp [h1, h2]
theorem checkV2_n (n : Nat) (e : Bool) (a b : Int) (w : World) : (Instr.checkKey e (n + 1 + 1) 40 (.agg #[.int .i64 a, .int .i64 b])).run Try.prog w = .ok () w := by
  have hc : ∀ x w, (Instr.checkKey e (n + 1) 3 (.int .i64 x)).run Try.prog w = .ok () w := fun x w => checkInt e n x w
  rw [Instr.checkKey]
  simp only [Sem.run_bind, run_underlying Try.underlying40, Result.andThen_ok]
  rw [← Array.forIn_toList]
  go_simp
theorem checkHp_n (n : Nat) (e : Bool) (a b : Int) (w : World) : (Instr.checkKey e (n + 1 + 1) 68 (.agg #[.int .i64 a, .int .i64 b])).run Try.prog w = .ok () w := by
  have hc : ∀ x w, (Instr.checkKey e (n + 1) 3 (.int .i64 x)).run Try.prog w = .ok () w := fun x w => checkInt e n x w
  rw [Instr.checkKey]
  simp only [Sem.run_bind, run_underlying Try.underlying68, Result.andThen_ok]
  rw [← Array.forIn_toList]
  go_simp
theorem sameHp (k : Hp) : Instr.sameBits 10000 k.enc k.enc = true := by
  rw [show (10000 : Nat) = 9999 + 1 from rfl, Hp.enc, Instr.sameBits]
  simp only [beq_self_eq_true, Bool.true_and]
  exact sameBits_agg _ _ fun v hv => by
    simp at hv
    rcases hv with rfl | rfl <;> exact sameBits_int _ _
theorem Hp.enc_inj (a b : Hp) (h : a.enc = b.enc) : a = b := by
  obtain ⟨a1, a2⟩ := a
  obtain ⟨b1, b2⟩ := b
  simp [Hp.enc] at h
  simp [h]
theorem keyHp : KeyOk Try.prog 68 Hp.enc := KeyOk.of_struct Try.underlying68 eqHp (fun e _k w => checkHp_n 9998 e _ _ w) sameHp Hp.enc_inj
def encI (k : Int) : Value := .int .i64 k
theorem findNow_int (k : Int) : ∀ (l : List MapEntry) (L : List (Int × Value)) (i : Nat), entE l = entL encI L → Instr.findNow (.int .i64) (encI k) l i = some (look k L i)
  | [], [], _, _ => rfl
  | [], e :: L, _, h => by simp [entE, entL] at h
  | x :: l, [], _, h => by simp [entE, entL] at h
  | x :: l, e :: L, i, h => by
    simp only [entE, entL, List.map_cons, List.cons.injEq, Prod.mk.injEq] at h
    obtain ⟨⟨h1, h2⟩, h3⟩ := h
    have ih := findNow_int k l L (i + 1) h3
    unfold Instr.findNow look
    rw [h1, h2]
    unfold encI Instr.sameNow at *
    by_cases he : e.1 = k
    · subst he
      simp
    · have he2 : ¬ k = e.1 := fun e => he e.symm
      simp only [if_true, he, if_false]
      have : (k == e.1) = false := by simpa using he2
      rw [this]
      exact ih
theorem keyInt : KeyOk Try.prog 3 encI where
  find := fun k l L w h => by
    have hj := findNow_int k l L 0 h
    simp only [Instr.findKey, Sem.run_bind, run_underlying Try.underlying3, Result.andThen_ok]
    rw [hj]
    rfl
  check := fun e k w => checkInt e 9999 k w
  same := fun k => sameBits_int _ _
  inj := fun a b h => by unfold encI at h; injection h
theorem getL_set {κ : Type} [DecidableEq κ] (k k' : κ) (v : Value) : ∀ S : List (κ × Value), getL k (setL k' v S) = if k = k' then some v else getL k S
  | [] => by
    unfold setL getL
    by_cases h : k = k'
    · simp [h]
    · simp [h, Ne.symm h, getL]
  | e :: S => by
    have ih := getL_set k k' v S
    unfold setL
    by_cases h1 : e.1 = k'
    · rw [if_pos h1]
      by_cases h2 : k = k'
      · simp [getL, h2]
      · have h3 : ¬ e.1 = k := fun e' => h2 (by rw [← e', h1])
        have h4 : ¬ k' = k := fun e' => h2 e'.symm
        simp [getL, h2, h3, h4]
    · rw [if_neg h1]
      unfold getL
      by_cases h2 : e.1 = k
      · have h3 : ¬ k = k' := fun e' => h1 (by rw [h2, e'])
        simp [h2, h3]
      · simp [h2, ih]

theorem infoE : (Try.prog.info? 42).map (fun i => (i.zero, i.size, i.bytes)) = some (some (.agg #[.int .i64 0, .int .i64 0, .int .i64 0, .int .i64 0, .int .i64 0]), 5, 40) := by kernel_rfl
theorem rowsE_of_blk {w : World} {g B : Nat} {t : TypeId} {L : List Ed} (h : Blk w g t (L.flatMap Ed.cells).toArray) (hB : g < B) : RowsAt 5 Ed.cells w B (some ⟨g, 0, none⟩) L := by
  intro _
  refine ⟨g, 0, rfl, hB, fun k hk i u hi hu => ?_⟩
  rw [show 0 + k * 5 + i = k * 5 + i by omega, h.cell, List.getElem?_toArray, flatR Ed.cells 5 (fun _ => rfl) L k i hk hi]
  exact hu
theorem eqE_n (n : Nat) (a b c d e a' b' c' d' e' : Int) (w : World) : (Op.equalIn (n + 1 + 1 + 1) 42 (.agg #[.int .i64 a, .int .i64 b, .int .i64 c, .int .i64 d, .int .i64 e]) (.agg #[.int .i64 a', .int .i64 b', .int .i64 c', .int .i64 d', .int .i64 e'])).run Try.prog w = .ok (a == a' && b == b' && c == c' && d == d' && e == e') w := by
  have hS : Try.prog.underlying 42 = some (.struct (Try.prog.fieldsOf 42)) := by kernel_rfl
  have hp : Try.prog.stoodInHeld 42 = false := by kernel_rfl
  rw [run_equalIn_struct w (n + 1 + 1) 42 _ _ hS hp]
  simp only [Program.fieldsOf, Try.underlying42]
  have hv := eqV2_n n
  go_simp
  by_cases h1 : a = a' <;> by_cases h2 : b = b' <;> by_cases h3 : c = c' <;> by_cases h4 : d = d' <;> by_cases h5 : e = e' <;> simp [h1, h2, h3, h4, h5]
theorem eqE_same (x : Ed) (w : World) : (Op.equalIn 10000 42 (.agg #[.int .i64 x.fk, .int .i64 x.fi, .int .i64 x.tk, .int .i64 x.ti, .int .i64 x.cost]) (.agg #[.int .i64 x.fk, .int .i64 x.fi, .int .i64 x.tk, .int .i64 x.ti, .int .i64 x.cost])).run Try.prog w = .ok true w := by
  refine (eqE_n 9997 _ _ _ _ _ _ _ _ _ _ w).trans ?_
  simp
theorem row_ed {w : World} {B : Nat} {A : Option Addr} {l : List Ed} (h : RowsAt 5 Ed.cells w B A l) (k : Nat) (hk : k < l.length) :
    ∃ b o, A = some ⟨b, o, none⟩ ∧ b < B ∧ w.cell? ⟨b, o + k * 5, none⟩ = some (.int .i64 l[k].fk) ∧ w.cell? ⟨b, o + k * 5 + 1, none⟩ = some (.int .i64 l[k].fi) ∧ w.cell? ⟨b, o + k * 5 + 2, none⟩ = some (.int .i64 l[k].tk) ∧ w.cell? ⟨b, o + k * 5 + 3, none⟩ = some (.int .i64 l[k].ti) ∧ w.cell? ⟨b, o + k * 5 + 4, none⟩ = some (.int .i64 l[k].cost) := by
  obtain ⟨b, o, e, hb, hc⟩ := h (by omega)
  exact ⟨b, o, e, hb, by simpa using hc k hk 0 _ (by omega) rfl, hc k hk 1 _ (by omega) rfl, hc k hk 2 _ (by omega) rfl, hc k hk 3 _ (by omega) rfl, hc k hk 4 _ (by omega) rfl⟩
theorem row_lf {w : World} {B : Nat} {A : Option Addr} {l : List Lf} (h : RowsAt 3 Lf.cells w B A l) (k : Nat) (hk : k < l.length) :
    ∃ b o, A = some ⟨b, o, none⟩ ∧ b < B ∧ w.cell? ⟨b, o + k * 3, none⟩ = some (.int .i64 l[k].router) ∧ w.cell? ⟨b, o + k * 3 + 1, none⟩ = some (.int .i64 l[k].lan) ∧ w.cell? ⟨b, o + k * 3 + 2, none⟩ = some (.int .i64 l[k].cost) := by
  obtain ⟨b, o, e, hb, hc⟩ := h (by omega)
  exact ⟨b, o, e, hb, by simpa using hc k hk 0 _ (by omega) rfl, hc k hk 1 _ (by omega) rfl, hc k hk 2 _ (by omega) rfl⟩

/-- a vertex -/
structure Vx where
  kind : Int
  id : Int
deriving DecidableEq
def Vx.enc (v : Vx) : Value := .agg #[.int .i64 v.kind, .int .i64 v.id]
theorem eqVx (a b : Vx) (w : World) : (Op.equal 40 a.enc b.enc).run Try.prog w = .ok (decide (a = b)) w := by
  obtain ⟨a1, a2⟩ := a
  obtain ⟨b1, b2⟩ := b
  refine (eqV2_n 9998 a1 a2 b1 b2 w).trans ?_
  by_cases h1 : a1 = b1 <;> by_cases h2 : a2 = b2 <;> simp [h1, h2]
theorem eqVxN (a b a' b' : Int) (w : World) : (Op.equalIn 10000 40 (.agg #[.int .i64 a, .int .i64 b]) (.agg #[.int .i64 a', .int .i64 b'])).run Try.prog w = .ok (decide ((⟨a, b⟩ : Vx) = ⟨a', b'⟩)) w := eqVx ⟨a, b⟩ ⟨a', b'⟩ w
theorem eqHpN (a b a' b' : Int) (w : World) : (Op.equalIn 10000 68 (.agg #[.int .i64 a, .int .i64 b]) (.agg #[.int .i64 a', .int .i64 b'])).run Try.prog w = .ok (decide ((⟨a, b⟩ : Hp) = ⟨a', b'⟩)) w := eqHp ⟨a, b⟩ ⟨a', b'⟩ w
theorem sameVx (k : Vx) : Instr.sameBits 10000 k.enc k.enc = true := by
  rw [show (10000 : Nat) = 9999 + 1 from rfl, Vx.enc, Instr.sameBits]
  simp only [beq_self_eq_true, Bool.true_and]
  exact sameBits_agg _ _ fun v hv => by
    simp at hv
    rcases hv with rfl | rfl <;> exact sameBits_int _ _
theorem Vx.enc_inj (a b : Vx) (h : a.enc = b.enc) : a = b := by
  obtain ⟨a1, a2⟩ := a
  obtain ⟨b1, b2⟩ := b
  simp [Vx.enc] at h
  simp [h]
theorem keyVx : KeyOk Try.prog 40 Vx.enc := KeyOk.of_struct Try.underlying40 eqVx (fun e _k w => checkV2_n 9998 e _ _ w) sameVx Vx.enc_inj

end Go.Proofs.Ytpfjgecdlilkcaa
