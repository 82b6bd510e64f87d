/-
  No cell of these rows narrows 'for every input' (looked for: loops, veiled, ifaces, maps, wideKeys, modest, calm, conditions, laid).
  DERIVED. THE GIVEN ROWS OF THIS SEAT. 3 by the template 'for every input the law returns true; each argument reads behind the call as it read before'; 0 by the template 'total and deterministic' (their statements: YtfpjkeddcagfcaaTotals.lean).
  GIVEN WITH THE SEED: the statements are not yours to turn. If you find one false, say at which input.
  Laid BY PROGRAM, IN A SANDBOX (cutbox-rows.mjs): the forced cells as the released guide's own fill.sh prints them over the translation d72a7309793de8bd… (all of the seat's roots in one cut). By AI agents, Wed Nov 11 2026. No macro, syntax, notation, axiom, sorry.
-/
import Derived.Test.YtfpjkeddcagfcaaChecked
import GoSem.Claim
import GoSem.ClaimJoined
import GoSem.ClaimMapViews
import Derived.JoinedTies
import Derived.KernelRfl
namespace Go.Proofs.Ytfpjkeddcagfcaa
/- THE CELL 'sum', in the pinned program and in every row, IS THE sha256 OF THE DUMP (.gsa) THAT YtfpjkeddcagfcaaProg.lean LOADS. Nothing in Lean hashes anything: it is a label: what it is worth is what the hold of that sum in a sandbox is worth. -/
noncomputable def Try.pinned : Pinned := { name := "ytfpjkeddcagfcaa", sum := "d72a7309793de8bdff6aa1d7c9b20dca07efe322cdcb5d868af35f0abbee588a", checked := Try.checked }
namespace Rows
def none {H : Type} : Left H := { results := [], args := [] }

/-- 'syndiclaw14.ExchHears': WHATEVER THE INPUT: true; the input reads as it did. -/
def exchHearsSpec : ChangeSpec := { name := "exchHears", fn := fun _ => fun
  | [d1, d2, d3] => { results := [.lit (.bool true)], args := [d1, d2, d3] }
  | _ => none }
def exchHearsRow : OpenClaim := { program := "ytfpjkeddcagfcaa", sum := "d72a7309793de8bdff6aa1d7c9b20dca07efe322cdcb5d868af35f0abbee588a", func := "syndic/syndiclaw14.ExchHears", spec := "exchHears", unfollowed := true, recurses := true, apart := false }
def ExchHearsSaid : Prop := exchHearsRow.holds Try.pinned (OpenSpec.ofChange exchHearsSpec)

/-- ITS FALSE NEIGHBOUR: 'it returns false'. Refute it at one input. -/
def exchHearsWrong : ChangeSpec := { name := "exchHears", fn := fun _ => fun
  | [d1, d2, d3] => { results := [.lit (.bool false)], args := [d1, d2, d3] }
  | _ => none }
def ExchHearsWrongFalsely : Prop := exchHearsRow.holds Try.pinned (OpenSpec.ofChange exchHearsWrong)

/-- 'syndiclaw14.ExchAnyOrder': WHATEVER THE INPUT: true; the input reads as it did. -/
def exchAnyOrderSpec : ChangeSpec := { name := "exchAnyOrder", fn := fun _ => fun
  | [d1, d2, d3] => { results := [.lit (.bool true)], args := [d1, d2, d3] }
  | _ => none }
def exchAnyOrderRow : OpenClaim := { program := "ytfpjkeddcagfcaa", sum := "d72a7309793de8bdff6aa1d7c9b20dca07efe322cdcb5d868af35f0abbee588a", func := "syndic/syndiclaw14.ExchAnyOrder", spec := "exchAnyOrder", unfollowed := true, recurses := true, apart := false }
def ExchAnyOrderSaid : Prop := exchAnyOrderRow.holds Try.pinned (OpenSpec.ofChange exchAnyOrderSpec)

/-- ITS FALSE NEIGHBOUR: 'it returns false'. Refute it at one input. -/
def exchAnyOrderWrong : ChangeSpec := { name := "exchAnyOrder", fn := fun _ => fun
  | [d1, d2, d3] => { results := [.lit (.bool false)], args := [d1, d2, d3] }
  | _ => none }
def ExchAnyOrderWrongFalsely : Prop := exchAnyOrderRow.holds Try.pinned (OpenSpec.ofChange exchAnyOrderWrong)

/-- 'syndiclaw14.ExchEnds': WHATEVER THE INPUT: true; the input reads as it did. -/
def exchEndsSpec : ChangeSpec := { name := "exchEnds", fn := fun _ => fun
  | [d1, d2, d3] => { results := [.lit (.bool true)], args := [d1, d2, d3] }
  | _ => none }
def exchEndsRow : OpenClaim := { program := "ytfpjkeddcagfcaa", sum := "d72a7309793de8bdff6aa1d7c9b20dca07efe322cdcb5d868af35f0abbee588a", func := "syndic/syndiclaw14.ExchEnds", spec := "exchEnds", unfollowed := true, recurses := true, apart := false }
def ExchEndsSaid : Prop := exchEndsRow.holds Try.pinned (OpenSpec.ofChange exchEndsSpec)

/-- ITS FALSE NEIGHBOUR: 'it returns false'. Refute it at one input. -/
def exchEndsWrong : ChangeSpec := { name := "exchEnds", fn := fun _ => fun
  | [d1, d2, d3] => { results := [.lit (.bool false)], args := [d1, d2, d3] }
  | _ => none }
def ExchEndsWrongFalsely : Prop := exchEndsRow.holds Try.pinned (OpenSpec.ofChange exchEndsWrong)

/- THE SECOND FORM. 'bulk': how many values and letters a reading holds, each counted each time it is reached (what is shared counts as often as it is met; a slice's spare places count too). A statement '..UptoSaid' is the law's where the arguments, and the package variables that the reading takes, are together of bulk at most 1048576: NARROWER than '..Said'. Prove '..Said' where nothing that the law and all that it calls make is longer than what came in: it says more and counts as full. Else prove '..UptoSaid'. A law counts once. -/
mutual
def uptoBulk {H : Type} : DataW H → Nat
  | .lit (.string bytes) => bytes.length + 1
  | .lit _ => 1
  | .nil => 1
  | .ptr d => uptoBulk d + 1
  | .slice elems spare => uptoBulkAll elems + uptoBulkAll spare + 1
  | .agg parts => uptoBulkAll parts + 1
  | .iface _ d => uptoBulk d + 1
  | .map entries => uptoBulkEntries entries + 1
  | .held _ => 1
def uptoBulkAll {H : Type} : List (DataW H) → Nat
  | [] => 0
  | d :: r => uptoBulk d + uptoBulkAll r
def uptoBulkEntries {H : Type} : List (Lit × DataW H) → Nat
  | [] => 0
  | x :: r => uptoBulkEntry x + uptoBulkEntries r
def uptoBulkEntry {H : Type} : Lit × DataW H → Nat
  | (.string bytes, d) => bytes.length + uptoBulk d + 1
  | (_, d) => uptoBulk d + 1
 end
def uptoSmall : (H : Type) → List (DataW H) → Bool := fun _ ds => decide (uptoBulkAll ds ≤ 1048576)
def OpenSpec.upto (s : _root_.Go.ChangeSpec) : _root_.Go.OpenSpec := { _root_.Go.OpenSpec.ofChange s with cond := some uptoSmall }

/-- 'syndiclaw14.ExchHears', WHERE WHAT IT READS IS OF BULK AT MOST 1048576: true; the input reads as it did. -/
def exchHearsUptoRow : OpenClaim := { program := "ytfpjkeddcagfcaa", sum := "d72a7309793de8bdff6aa1d7c9b20dca07efe322cdcb5d868af35f0abbee588a", func := "syndic/syndiclaw14.ExchHears", spec := "exchHears", unfollowed := true, recurses := true, apart := false, narrowed := true }
def ExchHearsUptoSaid : Prop := exchHearsUptoRow.holds Try.pinned (OpenSpec.upto exchHearsSpec)

/-- 'syndiclaw14.ExchAnyOrder', WHERE WHAT IT READS IS OF BULK AT MOST 1048576: true; the input reads as it did. -/
def exchAnyOrderUptoRow : OpenClaim := { program := "ytfpjkeddcagfcaa", sum := "d72a7309793de8bdff6aa1d7c9b20dca07efe322cdcb5d868af35f0abbee588a", func := "syndic/syndiclaw14.ExchAnyOrder", spec := "exchAnyOrder", unfollowed := true, recurses := true, apart := false, narrowed := true }
def ExchAnyOrderUptoSaid : Prop := exchAnyOrderUptoRow.holds Try.pinned (OpenSpec.upto exchAnyOrderSpec)

/-- 'syndiclaw14.ExchEnds', WHERE WHAT IT READS IS OF BULK AT MOST 1048576: true; the input reads as it did. -/
def exchEndsUptoRow : OpenClaim := { program := "ytfpjkeddcagfcaa", sum := "d72a7309793de8bdff6aa1d7c9b20dca07efe322cdcb5d868af35f0abbee588a", func := "syndic/syndiclaw14.ExchEnds", spec := "exchEnds", unfollowed := true, recurses := true, apart := false, narrowed := true }
def ExchEndsUptoSaid : Prop := exchEndsUptoRow.holds Try.pinned (OpenSpec.upto exchEndsSpec)

end Rows
end Go.Proofs.Ytfpjkeddcagfcaa
