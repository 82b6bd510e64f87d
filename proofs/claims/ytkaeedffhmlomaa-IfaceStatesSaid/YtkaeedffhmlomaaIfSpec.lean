/-
  A router on a network in plain Lean: what the program's iface and the reference come to.
-/
import Derived.Test.YtkaeedffhmlomaaElAgain
namespace Go.Proofs.Ytkaeedffhmlomaa

structure Ifc where
  self : Int
  prio : Int
  state : Int
  dr : Int
  bdr : Int
deriving DecidableEq

namespace Ifc
def val (i : Ifc) : Value := .agg #[.int .i64 i.self, .int .i64 i.prio, .int .i64 i.state, .int .i64 i.dr, .int .i64 i.bdr]
def row (i : Ifc) : Array Value := #[.int .i64 i.self, .int .i64 i.prio, .int .i64 i.state, .int .i64 i.dr, .int .i64 i.bdr]
def own (i : Ifc) : Cand := ⟨i.self, i.prio, i.dr, i.bdr⟩
end Ifc

def stOf (self dr bdr : Int) : Int := if (self == dr) = true then 4 else if (self == bdr) = true then 3 else 2
def voteI (i : Ifc) (l : List Cand) : Ifc :=
  ⟨i.self, i.prio, stOf i.self (elect i.self (i.own :: l)).1 (elect i.self (i.own :: l)).2, (elect i.self (i.own :: l)).1, (elect i.self (i.own :: l)).2⟩
def beginI (i : Ifc) : Ifc := ⟨i.self, i.prio, if i.prio ≤ 0 then 2 else 1, 0, 0⟩
/-- which move it is: 0: none, 1: it begins, 2: it votes -/
def moveI (state event : Int) : Nat :=
  if state = 0 ∧ event = 0 then 1
  else if (state = 1 ∧ event = 2) ∨ (state = 1 ∧ event = 3) ∨ (state = 2 ∧ event = 4) ∨ (state = 3 ∧ event = 4) ∨ (state = 4 ∧ event = 4) then 2 else 0
def stepI (i : Ifc) (event : Int) (l : List Cand) : Ifc :=
  if event = 1 then ⟨i.self, i.prio, 0, 0, 0⟩ else if moveI i.state event = 1 then beginI i else if moveI i.state event = 2 then voteI i l else i
def apartI (i : Ifc) (l : List Cand) : Bool := apartB (i.own :: l)

/-- the reference's vote: the others first -/
def refVoteI (i : Ifc) (l : List Cand) : Ifc :=
  ⟨i.self, i.prio, if ((refElect i.self (l ++ [i.own])).1 == i.self) = true then 4 else if ((refElect i.self (l ++ [i.own])).2 == i.self) = true then 3 else 2, (refElect i.self (l ++ [i.own])).1, (refElect i.self (l ++ [i.own])).2⟩
def refStepI (i : Ifc) (event : Int) (l : List Cand) : Ifc :=
  if event = 1 then ⟨i.self, i.prio, 0, 0, 0⟩ else if moveI i.state event = 1 then beginI i else if moveI i.state event = 2 then refVoteI i l else i

end Go.Proofs.Ytkaeedffhmlomaa
