/-
  Elections in plain Lean: what the program's elect and the reference's come to.
-/
import Derived.Test.YtfhikkmgclkcdaaBase
namespace Go.Proofs.Ytfhikkmgclkcdaa

def step (q : Cand → Bool) (b c : Cand) : Cand :=
  if 0 < c.prio ∧ q c = true ∧ (b.id = 0 ∨ b.prio < c.prio ∨ (c.prio = b.prio ∧ b.id < c.id)) then c else b
def bestC (q : Cand → Bool) (l : List Cand) : Cand := l.foldl (step q) Cand.zero
def bestK (q : Cand → Bool) (l : List Cand) (k : Nat) : Cand := bestC q (l.take k)
theorem bestK_succ (q : Cand → Bool) (l : List Cand) (k : Nat) (h : k < l.length) : bestK q l (k + 1) = step q (bestK q l k) l[k] := by
  unfold bestK bestC
  rw [List.take_succ_eq_append_getElem h, List.foldl_append]; rfl
theorem step_cases (q : Cand → Bool) (b c : Cand) :
    (¬ 0 < c.prio ∧ step q b c = b) ∨ (0 < c.prio ∧ q c = false ∧ step q b c = b) ∨
    (0 < c.prio ∧ q c = true ∧ (b.id == 0) = true ∧ step q b c = c) ∨
    (0 < c.prio ∧ q c = true ∧ (b.id == 0) = false ∧ b.prio < c.prio ∧ step q b c = c) ∨
    (0 < c.prio ∧ q c = true ∧ (b.id == 0) = false ∧ ¬ b.prio < c.prio ∧ (c.prio == b.prio) = false ∧ step q b c = b) ∨
    (0 < c.prio ∧ q c = true ∧ (b.id == 0) = false ∧ ¬ b.prio < c.prio ∧ (c.prio == b.prio) = true ∧ b.id < c.id ∧ step q b c = c) ∨
    (0 < c.prio ∧ q c = true ∧ (b.id == 0) = false ∧ ¬ b.prio < c.prio ∧ (c.prio == b.prio) = true ∧ ¬ b.id < c.id ∧ step q b c = b) := by
  unfold step
  by_cases h1 : 0 < c.prio <;> by_cases h2 : q c = true <;> by_cases h3 : b.id = 0 <;> by_cases h4 : b.prio < c.prio <;> by_cases h5 : c.prio = b.prio <;> by_cases h6 : b.id < c.id <;> simp_all
  all_goals omega

def q1 (c : Cand) : Bool := c.dr != c.id && c.bdr == c.id
def q2 (c : Cand) : Bool := c.dr != c.id
def q3 (c : Cand) : Bool := c.dr == c.id
def goBdr (l : List Cand) : Int := if ((bestC q1 l).id == 0) = true then (bestC q2 l).id else (bestC q1 l).id
def goDr (l : List Cand) : Int := if ((bestC q3 l).id == 0) = true then goBdr l else (bestC q3 l).id

/-- what the one who elects takes itself for behind one go -/
def mark (self dr bdr : Int) (c : Cand) : Cand :=
  { c with dr := if (dr == self) = true then self else 0, bdr := if (dr == self) = true then 0 else if (bdr == self) = true then self else 0 }
def idx (self : Int) (l : List Cand) : Option Nat := l.findIdx? fun c => c.id == self
def agrees (self dr bdr : Int) (c : Cand) : Bool := ((dr == self) == (c.dr == self)) && ((bdr == self) == (c.bdr == self))
def elect (self : Int) (l : List Cand) : Int × Int :=
  match idx self l with
  | none => (goDr l, goBdr l)
  | some i => match l[i]? with
    | none => (goDr l, goBdr l)
    | some c => if agrees self (goDr l) (goBdr l) c = true then (goDr l, goBdr l) else
      (goDr (l.set i (mark self (goDr l) (goBdr l) c)), goBdr (l.set i (mark self (goDr l) (goBdr l) c)))
def stable (l : List Cand) : Bool := l.all fun c => c.dr == (l.headD Cand.zero).dr && c.bdr == (l.headD Cand.zero).bdr && (elect c.id l).1 == c.dr && (elect c.id l).2 == c.bdr

/-- numbers unlike, from 1 on -/
def apartB : List Cand → Bool
  | l => l.all (fun c => decide (1 ≤ c.id)) && decide ((l.map Cand.id).Nodup)

def betterB (a b : Cand) : Bool := if (a.prio != b.prio) = true then decide (b.prio < a.prio) else decide (b.id < a.id)
/-- the element at place k goes up -/
def sink : Nat → List Cand → List Cand
  | 0, l => l
  | k + 1, l => match l[k + 1]?, l[k]? with
    | some a, some b => if betterB a b = true then sink k ((l.set (k + 1) b).set k a) else l
    | _, _ => l
def sortStep (s : List Cand) (c : Cand) : List Cand := if c.prio ≤ 0 then s else sink s.length (s ++ [c])
def sortedC (l : List Cand) : List Cand := l.foldl sortStep []
def refStep1 (t : Int × Int) (c : Cand) : Int × Int :=
  let dr := if (c.dr == c.id && t.1 == 0) = true then c.id else t.1
  let bdr := if (c.dr != c.id && c.bdr == c.id && t.2 == 0) = true then c.id else t.2
  (dr, bdr)
def refGo1 (s : List Cand) : Int × Int := s.foldl refStep1 (0, 0)
def refStep2 (b : Int) (c : Cand) : Int := if (b == 0 && c.dr != c.id) = true then c.id else b
def refGo2 (b : Int) (s : List Cand) : Int := s.foldl refStep2 b
def refGo (l : List Cand) : Int × Int :=
  let s := sortedC l
  let t := refGo1 s
  let b := refGo2 t.2 s
  (if (t.1 == 0) = true then b else t.1, b)
def refMark (self : Int) (t : Int × Int) (c : Cand) : Cand := if (c.id == self && !agrees self t.1 t.2 c) = true then mark self t.1 t.2 c else c
def refElect (self : Int) (l : List Cand) : Int × Int :=
  let t := refGo l
  if (l.any fun c => c.id == self && !agrees self t.1 t.2 c) = true then refGo (l.map (refMark self t)) else t

end Go.Proofs.Ytfhikkmgclkcdaa
