/-
  No cell of these rows narrows 'for every input' (looked for: loops, veiled, ifaces, maps, wideKeys, modest, calm, conditions, laid).
  DERIVED. THE GIVEN ROWS OF THIS SEAT. 3 by the template 'for every input the law returns true; each argument reads behind the call as it read before'; 0 by the template 'total and deterministic' (their statements: YtahgjfecffcknaaTotals.lean).
  GIVEN WITH THE SEED: the statements are not yours to turn. If you find one false, say at which input.
  Laid BY PROGRAM, IN A SANDBOX (cutbox-rows.mjs): the forced cells as the released guide's own fill.sh prints them over the translation 440eb0ae17830859… (all of the seat's roots in one cut). By AI agents, Wed Nov 11 2026. No macro, syntax, notation, axiom, sorry.
-/
import Derived.Test.YtahgjfecffcknaaChecked
import GoSem.Claim
import GoSem.ClaimJoined
import GoSem.ClaimMapViews
import Derived.JoinedTies
import Derived.KernelRfl
namespace Go.Proofs.Ytahgjfecffcknaa
/- THE CELL 'sum', in the pinned program and in every row, IS THE sha256 OF THE DUMP (.gsa) THAT YtahgjfecffcknaaProg.lean LOADS. Nothing in Lean hashes anything: it is a label: what it is worth is what the hold of that sum in a sandbox is worth. -/
noncomputable def Try.pinned : Pinned := { name := "ytahgjfecffcknaa", sum := "440eb0ae17830859a667cdcdbdb4f473dcda312e04700cc59457f473c8d554f3", checked := Try.checked }
namespace Rows
def none {H : Type} : Left H := { results := [], args := [] }

/-- 'syndiclaw18.FloodLan': WHATEVER THE INPUT: true; the input reads as it did. -/
def floodLanSpec : ChangeSpec := { name := "floodLan", fn := fun _ => fun
  | [d1, d2, d3] => { results := [.lit (.bool true)], args := [d1, d2, d3] }
  | _ => none }
def floodLanRow : OpenClaim := { program := "ytahgjfecffcknaa", sum := "440eb0ae17830859a667cdcdbdb4f473dcda312e04700cc59457f473c8d554f3", func := "syndic/syndiclaw18.FloodLan", spec := "floodLan", apart := false }
def FloodLanSaid : Prop := floodLanRow.holds Try.pinned (OpenSpec.ofChange floodLanSpec)

/-- ITS FALSE NEIGHBOUR: 'it returns false'. Refute it at one input. -/
def floodLanWrong : ChangeSpec := { name := "floodLan", fn := fun _ => fun
  | [d1, d2, d3] => { results := [.lit (.bool false)], args := [d1, d2, d3] }
  | _ => none }
def FloodLanWrongFalsely : Prop := floodLanRow.holds Try.pinned (OpenSpec.ofChange floodLanWrong)

/-- 'syndiclaw18.FloodOver': WHATEVER THE INPUT: true; the input reads as it did. -/
def floodOverSpec : ChangeSpec := { name := "floodOver", fn := fun _ => fun
  | [d1, d2, d3] => { results := [.lit (.bool true)], args := [d1, d2, d3] }
  | _ => none }
def floodOverRow : OpenClaim := { program := "ytahgjfecffcknaa", sum := "440eb0ae17830859a667cdcdbdb4f473dcda312e04700cc59457f473c8d554f3", func := "syndic/syndiclaw18.FloodOver", spec := "floodOver", apart := false }
def FloodOverSaid : Prop := floodOverRow.holds Try.pinned (OpenSpec.ofChange floodOverSpec)

/-- ITS FALSE NEIGHBOUR: 'it returns false'. Refute it at one input. -/
def floodOverWrong : ChangeSpec := { name := "floodOver", fn := fun _ => fun
  | [d1, d2, d3] => { results := [.lit (.bool false)], args := [d1, d2, d3] }
  | _ => none }
def FloodOverWrongFalsely : Prop := floodOverRow.holds Try.pinned (OpenSpec.ofChange floodOverWrong)

/-- 'syndiclaw18.FloodDest': WHATEVER THE INPUT: true; the input reads as it did. -/
def floodDestSpec : ChangeSpec := { name := "floodDest", fn := fun _ => fun
  | [d1, d2] => { results := [.lit (.bool true)], args := [d1, d2] }
  | _ => none }
def floodDestRow : OpenClaim := { program := "ytahgjfecffcknaa", sum := "440eb0ae17830859a667cdcdbdb4f473dcda312e04700cc59457f473c8d554f3", func := "syndic/syndiclaw18.FloodDest", spec := "floodDest", apart := false }
def FloodDestSaid : Prop := floodDestRow.holds Try.pinned (OpenSpec.ofChange floodDestSpec)

/-- ITS FALSE NEIGHBOUR: 'it returns false'. Refute it at one input. -/
def floodDestWrong : ChangeSpec := { name := "floodDest", fn := fun _ => fun
  | [d1, d2] => { results := [.lit (.bool false)], args := [d1, d2] }
  | _ => none }
def FloodDestWrongFalsely : Prop := floodDestRow.holds Try.pinned (OpenSpec.ofChange floodDestWrong)

/- THE SECOND FORM. 'bulk': how many values and letters a reading holds, each counted each time it is reached (what is shared counts as often as it is met; a slice's spare places count too). A statement '..UptoSaid' is the law's where the arguments, and the package variables that the reading takes, are together of bulk at most 1048576: NARROWER than '..Said'. Prove '..Said' where nothing that the law and all that it calls make is longer than what came in: it says more and counts as full. Else prove '..UptoSaid'. A law counts once. -/
mutual
def uptoBulk {H : Type} : DataW H → Nat
  | .lit (.string bytes) => bytes.length + 1
  | .lit _ => 1
  | .nil => 1
  | .ptr d => uptoBulk d + 1
  | .slice elems spare => uptoBulkAll elems + uptoBulkAll spare + 1
  | .agg parts => uptoBulkAll parts + 1
  | .iface _ d => uptoBulk d + 1
  | .map entries => uptoBulkEntries entries + 1
  | .held _ => 1
def uptoBulkAll {H : Type} : List (DataW H) → Nat
  | [] => 0
  | d :: r => uptoBulk d + uptoBulkAll r
def uptoBulkEntries {H : Type} : List (Lit × DataW H) → Nat
  | [] => 0
  | x :: r => uptoBulkEntry x + uptoBulkEntries r
def uptoBulkEntry {H : Type} : Lit × DataW H → Nat
  | (.string bytes, d) => bytes.length + uptoBulk d + 1
  | (_, d) => uptoBulk d + 1
 end
def uptoSmall : (H : Type) → List (DataW H) → Bool := fun _ ds => decide (uptoBulkAll ds ≤ 1048576)
def OpenSpec.upto (s : _root_.Go.ChangeSpec) : _root_.Go.OpenSpec := { _root_.Go.OpenSpec.ofChange s with cond := some uptoSmall }

/-- 'syndiclaw18.FloodLan', WHERE WHAT IT READS IS OF BULK AT MOST 1048576: true; the input reads as it did. -/
def floodLanUptoRow : OpenClaim := { program := "ytahgjfecffcknaa", sum := "440eb0ae17830859a667cdcdbdb4f473dcda312e04700cc59457f473c8d554f3", func := "syndic/syndiclaw18.FloodLan", spec := "floodLan", apart := false, narrowed := true }
def FloodLanUptoSaid : Prop := floodLanUptoRow.holds Try.pinned (OpenSpec.upto floodLanSpec)

/-- 'syndiclaw18.FloodOver', WHERE WHAT IT READS IS OF BULK AT MOST 1048576: true; the input reads as it did. -/
def floodOverUptoRow : OpenClaim := { program := "ytahgjfecffcknaa", sum := "440eb0ae17830859a667cdcdbdb4f473dcda312e04700cc59457f473c8d554f3", func := "syndic/syndiclaw18.FloodOver", spec := "floodOver", apart := false, narrowed := true }
def FloodOverUptoSaid : Prop := floodOverUptoRow.holds Try.pinned (OpenSpec.upto floodOverSpec)

/-- 'syndiclaw18.FloodDest', WHERE WHAT IT READS IS OF BULK AT MOST 1048576: true; the input reads as it did. -/
def floodDestUptoRow : OpenClaim := { program := "ytahgjfecffcknaa", sum := "440eb0ae17830859a667cdcdbdb4f473dcda312e04700cc59457f473c8d554f3", func := "syndic/syndiclaw18.FloodDest", spec := "floodDest", apart := false, narrowed := true }
def FloodDestUptoSaid : Prop := floodDestUptoRow.holds Try.pinned (OpenSpec.upto floodDestSpec)

end Rows
end Go.Proofs.Ytahgjfecffcknaa
