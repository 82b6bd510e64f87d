/-
  iface in plain Lean: what a router's state tells, whatever came.
-/
import Derived.Test.YtkaeedffhmlomaaIfLaw
import Derived.Test.YtkaeedffhmlomaaIfOrder
namespace Go.Proofs.Ytkaeedffhmlomaa

def Told (s p : Int) (i : Ifc) : Prop := i.self = s ∧ i.prio = p ∧ ((i.state = 1 ∧ i.dr = 0 ∧ i.bdr = 0) ∨ (i.state = stOf s i.dr i.bdr ∧ (p = 0 → i.dr ≠ s ∧ i.bdr ≠ s)))
theorem told_begin {s p : Int} (hs : 1 ≤ s) : Told s p (stepI ⟨s, p, 0, 0, 0⟩ 0 []) := by
  have e : stepI ⟨s, p, 0, 0, 0⟩ 0 [] = ⟨s, p, if p ≤ 0 then 2 else 1, 0, 0⟩ := by simp [stepI, moveI, beginI]
  rw [e]
  refine ⟨rfl, rfl, ?_⟩
  by_cases hp : p ≤ 0
  · refine .inr ⟨?_, fun _ => ⟨by show (0 : Int) ≠ s; omega, by show (0 : Int) ≠ s; omega⟩⟩
    have h0 : ¬s = 0 := by omega
    simp [hp, stOf, h0]
  · exact .inl ⟨by simp [hp], rfl, rfl⟩
theorem told_vote {s p : Int} (hs : 1 ≤ s) {i : Ifc} {l : List Cand} (hi : i.self = s) (hp : i.prio = p) (hap : apartI i l = true) : Told s p (voteI i l) := by
  subst hi; subst hp
  refine ⟨rfl, rfl, .inr ⟨rfl, fun h0 => ?_⟩⟩
  obtain ⟨m1, m2, _⟩ := elect_may hap (c := i.own) (l := i.own :: l) (by simp)
  have hno : ¬May (i.own :: l) i.self := by
    rintro ⟨c, hc, hid, hcp⟩
    obtain ⟨hd, _⟩ := (apart_iff _).1 hap
    rcases List.mem_cons.1 hc with rfl | hc
    · have : i.own.prio = i.prio := rfl
      omega
    · exact (List.pairwise_cons.1 hd).1 c hc hid.symm
  have e : i.own.id = i.self := rfl
  rw [e] at m1 m2
  constructor
  · intro h
    have h' : (elect i.self (i.own :: l)).1 = i.self := h
    exact hno (h' ▸ m1 (by omega))
  · intro h
    have h' : (elect i.self (i.own :: l)).2 = i.self := h
    exact hno (h' ▸ m2 (by omega))
theorem told_step {s p : Int} (hs : 1 ≤ s) {i : Ifc} {l : List Cand} (h : Told s p i) (hap : apartI i l = true) {ev : Int} (hev : ev = 4 ∨ ev = 2 ∨ ev = 3) : Told s p (stepI i ev l) := by
  have h1 : ev ≠ 1 := by omega
  have hst : moveI i.state ev ≠ 1 := by
    unfold moveI
    rw [if_neg (by omega)]
    split <;> simp
  by_cases h2 : moveI i.state ev = 2
  · have e : stepI i ev l = voteI i l := by simp [stepI, h1, h2]
    rw [e]
    exact told_vote hs h.1 h.2.1 hap
  · have e : stepI i ev l = i := by simp [stepI, h1, hst, h2]
    rw [e]; exact h
theorem told_cases {s p : Int} {i : Ifc} (h : Told s p i) : i = ⟨s, p, 1, 0, 0⟩ ∨
    (∃ d b, i = ⟨s, p, 2, d, b⟩ ∧ (d != s) = true ∧ (d == s) = false ∧ (b == s) = false) ∨
    (∃ d b, i = ⟨s, p, 3, d, b⟩ ∧ (d != s) = true ∧ (d == s) = false ∧ (b == s) = true ∧ (p == 0) = false) ∨
    (∃ d b, i = ⟨s, p, 4, d, b⟩ ∧ (d != s) = false ∧ (d == s) = true ∧ (b == s) = true ∧ (p == 0) = false) ∨
    (∃ d b, i = ⟨s, p, 4, d, b⟩ ∧ (d != s) = false ∧ (d == s) = true ∧ (b == s) = false ∧ (p == 0) = false) := by
  rcases i with ⟨a, b, c, d, e⟩
  obtain ⟨h1, h2, h3⟩ := h
  simp only at h1 h2 h3
  subst h1; subst h2
  rcases h3 with ⟨rfl, rfl, rfl⟩ | ⟨rfl, h0⟩
  · exact .inl rfl
  refine .inr ?_
  unfold stOf
  by_cases hd : d = a
  · subst hd
    have hb : ¬b = 0 := fun e => (h0 e).1 rfl
    have hb' : (b == 0) = false := by simp [hb]
    cases he : (e == d)
    · exact .inr (.inr (.inr ⟨d, e, by simp, by simp, by simp, he, hb'⟩))
    · exact .inr (.inr (.inl ⟨d, e, by simp, by simp, by simp, he, hb'⟩))
  · have hd1 : (d == a) = false := by simp [hd]
    have hd2 : (a == d) = false := by simpa using Ne.symm hd
    by_cases he : e = a
    · subst he
      have hb : ¬b = 0 := fun x => (h0 x).2 rfl
      have hb' : (b == 0) = false := by simp [hb]
      exact .inr (.inl ⟨d, e, by simp [hd2], by simp [hd], hd1, by simp, hb'⟩)
    · have he1 : (e == a) = false := by simp [he]
      have he2 : (a == e) = false := by simpa using Ne.symm he
      exact .inl ⟨d, e, by simp [hd2, he2], by simp [hd], hd1, he1⟩
/-- what is done in round k -/
def evOf (k : Nat) : Int := if k % 3 = 0 then 4 else if k % 3 = 1 then 2 else 3
theorem evOf_is (k : Nat) : evOf k = 4 ∨ evOf k = 2 ∨ evOf k = 3 := by
  unfold evOf
  split
  · exact .inl rfl
  · split
    · exact .inr (.inl rfl)
    · exact .inr (.inr rfl)
theorem evOf_at (k : Nat) : ∃ m : Nat, (k : Int).tmod 3 = (m : Int) ∧ m < 3 ∧ ∀ (w : World) (t : TypeId), (w.alloc (.cells #[.int .i64 4, .int .i64 2, .int .i64 3] t)).cell? ⟨w.heap.size, m, none⟩ = some (.int .i64 (evOf k)) := by
  refine ⟨k % 3, by rw [Int.tmod_eq_emod_of_nonneg (by omega)]; omega, by omega, fun w t => ?_⟩
  rw [(Blk.new w t _).cell]
  unfold evOf
  have h : k % 3 = 0 ∨ k % 3 = 1 ∨ k % 3 = 2 := by omega
  rcases h with h | h | h <;> simp [h]
theorem told_down (i : Ifc) (l : List Cand) : stepI i 1 l = ⟨i.self, i.prio, 0, 0, 0⟩ := by simp [stepI]

end Go.Proofs.Ytkaeedffhmlomaa
