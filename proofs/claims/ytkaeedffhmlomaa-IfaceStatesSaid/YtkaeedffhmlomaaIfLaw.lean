/-
  iface in plain Lean: what the laws say of its steps.
-/
import Derived.Test.YtkaeedffhmlomaaIfB
import Derived.Test.YtkaeedffhmlomaaElAgain
namespace Go.Proofs.Ytkaeedffhmlomaa

theorem unlike_self (i : Ifc) : unlike i i = false := by simp [unlike]
theorem vote_twice {i : Ifc} {l : List Cand} (hap : apartI i l = true) : voteI (voteI i l) l = voteI i l := by
  rcases he : elect i.self (i.own :: l) with ⟨dr, bdr⟩
  have hk : 0 < (i.own :: l).length := by simp
  have ha := (elect_again (l := i.own :: l) hap hk (dr := dr) (bdr := bdr) he).1
  have hv : voteI i l = ⟨i.self, i.prio, stOf i.self dr bdr, dr, bdr⟩ := by unfold voteI; rw [he]
  have ha' : elect i.self ((⟨i.self, i.prio, dr, bdr⟩ : Cand) :: l) = (dr, bdr) := ha
  rw [hv]
  unfold voteI Ifc.own
  simp only [ha']
theorem stOf_move (s d b : Int) : moveI (stOf s d b) 4 = 2 := by
  unfold stOf moveI
  split
  · simp
  · split <;> simp
theorem step_twice {i : Ifc} {l : List Cand} (hap : apartI i l = true) : stepI (stepI i 4 l) 4 l = stepI i 4 l := by
  by_cases h2 : moveI i.state 4 = 2
  · have e1 : stepI i 4 l = voteI i l := by simp [stepI, h2]
    rw [e1]
    have e2 : moveI (voteI i l).state 4 = 2 := stOf_move _ _ _
    have e3 : stepI (voteI i l) 4 l = voteI (voteI i l) l := by simp [stepI, e2]
    rw [e3, vote_twice hap]
  · have h1 : moveI i.state 4 ≠ 1 := by
      unfold moveI
      rw [if_neg (by omega)]
      split <;> simp
    have e1 : stepI i 4 l = i := by simp [stepI, h1, h2]
    rw [e1, e1]

end Go.Proofs.Ytkaeedffhmlomaa
