/-
  No cell of these rows narrows 'for every input' (looked for: loops, veiled, ifaces, maps, wideKeys, modest, calm, conditions, laid).
  DERIVED. THE GIVEN ROWS OF THIS SEAT. 5 by the template 'for every input the law returns true; each argument reads behind the call as it read before'; 0 by the template 'total and deterministic' (their statements: YtpfjgecdlilkcaaGreatTotals.lean).
  GIVEN WITH THE SEED: the statements are not yours to turn. If you find one false, say at which input.
  Laid BY PROGRAM, IN A SANDBOX (cutbox-rows.mjs): the forced cells as the released guide's own fill.sh prints them over the translation 410fdadbf113bb01… (all of the seat's roots in one cut). By AI agents, Wed Nov 11 2026. No macro, syntax, notation, axiom, sorry.
-/
import Derived.Test.YtpfjgecdlilkcaaGreatChecked
import GoSem.Claim
import GoSem.ClaimJoined
import GoSem.ClaimMapViews
import Derived.JoinedTies
import Derived.KernelRfl
namespace Go.Proofs.YtpfjgecdlilkcaaGreat
/- THE CELL 'sum', in the pinned program and in every row, IS THE sha256 OF THE DUMP (.gsa) THAT YtpfjgecdlilkcaaGreatProg.lean LOADS. Nothing in Lean hashes anything: it is a label: what it is worth is what the hold of that sum in a sandbox is worth. -/
noncomputable def Tryz.pinned : Pinned := { name := "ytpfjgecdlilkcaagreat", sum := "410fdadbf113bb0136fb784b3db2861ba37ebe043e189d228577955b0cc0f074", checked := Tryz.checked }
namespace Rows
def none {H : Type} : Left H := { results := [], args := [] }

/-- 'syndiclaw22.TableIs': WHATEVER THE INPUT: true; the input reads as it did. -/
def tableIsSpec : ChangeSpec := { name := "tableIs", fn := fun _ => fun
  | [d1, d2] => { results := [.lit (.bool true)], args := [d1, d2] }
  | _ => none }
def tableIsRow : OpenClaim := { program := "ytpfjgecdlilkcaagreat", sum := "410fdadbf113bb0136fb784b3db2861ba37ebe043e189d228577955b0cc0f074", func := "syndic/syndiclaw22.TableIs", spec := "tableIs", unfollowed := true, recurses := true, plainKeys := false, apart := false }
def TableIsSaid : Prop := tableIsRow.holds Tryz.pinned (OpenSpec.ofChange tableIsSpec)

/-- ITS FALSE NEIGHBOUR: 'it returns false'. Refute it at one input. -/
def tableIsWrong : ChangeSpec := { name := "tableIs", fn := fun _ => fun
  | [d1, d2] => { results := [.lit (.bool false)], args := [d1, d2] }
  | _ => none }
def TableIsWrongFalsely : Prop := tableIsRow.holds Tryz.pinned (OpenSpec.ofChange tableIsWrong)

/-- 'syndiclaw22.TableOwn': WHATEVER THE INPUT: true; the input reads as it did. -/
def tableOwnSpec : ChangeSpec := { name := "tableOwn", fn := fun _ => fun
  | [d1, d2] => { results := [.lit (.bool true)], args := [d1, d2] }
  | _ => none }
def tableOwnRow : OpenClaim := { program := "ytpfjgecdlilkcaagreat", sum := "410fdadbf113bb0136fb784b3db2861ba37ebe043e189d228577955b0cc0f074", func := "syndic/syndiclaw22.TableOwn", spec := "tableOwn", unfollowed := true, recurses := true, plainKeys := false, apart := false }
def TableOwnSaid : Prop := tableOwnRow.holds Tryz.pinned (OpenSpec.ofChange tableOwnSpec)

/-- ITS FALSE NEIGHBOUR: 'it returns false'. Refute it at one input. -/
def tableOwnWrong : ChangeSpec := { name := "tableOwn", fn := fun _ => fun
  | [d1, d2] => { results := [.lit (.bool false)], args := [d1, d2] }
  | _ => none }
def TableOwnWrongFalsely : Prop := tableOwnRow.holds Tryz.pinned (OpenSpec.ofChange tableOwnWrong)

/-- 'syndiclaw22.TableBack': WHATEVER THE INPUT: true; the input reads as it did. -/
def tableBackSpec : ChangeSpec := { name := "tableBack", fn := fun _ => fun
  | [d1, d2] => { results := [.lit (.bool true)], args := [d1, d2] }
  | _ => none }
def tableBackRow : OpenClaim := { program := "ytpfjgecdlilkcaagreat", sum := "410fdadbf113bb0136fb784b3db2861ba37ebe043e189d228577955b0cc0f074", func := "syndic/syndiclaw22.TableBack", spec := "tableBack", unfollowed := true, recurses := true, plainKeys := false, apart := false }
def TableBackSaid : Prop := tableBackRow.holds Tryz.pinned (OpenSpec.ofChange tableBackSpec)

/-- ITS FALSE NEIGHBOUR: 'it returns false'. Refute it at one input. -/
def tableBackWrong : ChangeSpec := { name := "tableBack", fn := fun _ => fun
  | [d1, d2] => { results := [.lit (.bool false)], args := [d1, d2] }
  | _ => none }
def TableBackWrongFalsely : Prop := tableBackRow.holds Tryz.pinned (OpenSpec.ofChange tableBackWrong)

/-- 'syndiclaw22.TableLoops': WHATEVER THE INPUT: true; the input reads as it did. -/
def tableLoopsSpec : ChangeSpec := { name := "tableLoops", fn := fun _ => fun
  | [d1, d2, d3] => { results := [.lit (.bool true)], args := [d1, d2, d3] }
  | _ => none }
def tableLoopsRow : OpenClaim := { program := "ytpfjgecdlilkcaagreat", sum := "410fdadbf113bb0136fb784b3db2861ba37ebe043e189d228577955b0cc0f074", func := "syndic/syndiclaw22.TableLoops", spec := "tableLoops", unfollowed := true, recurses := true, plainKeys := false, apart := false }
def TableLoopsSaid : Prop := tableLoopsRow.holds Tryz.pinned (OpenSpec.ofChange tableLoopsSpec)

/-- ITS FALSE NEIGHBOUR: 'it returns false'. Refute it at one input. -/
def tableLoopsWrong : ChangeSpec := { name := "tableLoops", fn := fun _ => fun
  | [d1, d2, d3] => { results := [.lit (.bool false)], args := [d1, d2, d3] }
  | _ => none }
def TableLoopsWrongFalsely : Prop := tableLoopsRow.holds Tryz.pinned (OpenSpec.ofChange tableLoopsWrong)

/-- 'syndiclaw22.TableWhole': WHATEVER THE INPUT: true; the input reads as it did. -/
def tableWholeSpec : ChangeSpec := { name := "tableWhole", fn := fun _ => fun
  | [d1, d2] => { results := [.lit (.bool true)], args := [d1, d2] }
  | _ => none }
def tableWholeRow : OpenClaim := { program := "ytpfjgecdlilkcaagreat", sum := "410fdadbf113bb0136fb784b3db2861ba37ebe043e189d228577955b0cc0f074", func := "syndic/syndiclaw22.TableWhole", spec := "tableWhole", unfollowed := true, recurses := true, plainKeys := false, apart := false }
def TableWholeSaid : Prop := tableWholeRow.holds Tryz.pinned (OpenSpec.ofChange tableWholeSpec)

/-- ITS FALSE NEIGHBOUR: 'it returns false'. Refute it at one input. -/
def tableWholeWrong : ChangeSpec := { name := "tableWhole", fn := fun _ => fun
  | [d1, d2] => { results := [.lit (.bool false)], args := [d1, d2] }
  | _ => none }
def TableWholeWrongFalsely : Prop := tableWholeRow.holds Tryz.pinned (OpenSpec.ofChange tableWholeWrong)

/- THE SECOND FORM. 'bulk': how many values and letters a reading holds, each counted each time it is reached (what is shared counts as often as it is met; a slice's spare places count too). A statement '..UptoSaid' is the law's where the arguments, and the package variables that the reading takes, are together of bulk at most 1048576: NARROWER than '..Said'. Prove '..Said' where nothing that the law and all that it calls make is longer than what came in: it says more and counts as full. Else prove '..UptoSaid'. A law counts once. -/
mutual
def uptoBulk {H : Type} : DataW H → Nat
  | .lit (.string bytes) => bytes.length + 1
  | .lit _ => 1
  | .nil => 1
  | .ptr d => uptoBulk d + 1
  | .slice elems spare => uptoBulkAll elems + uptoBulkAll spare + 1
  | .agg parts => uptoBulkAll parts + 1
  | .iface _ d => uptoBulk d + 1
  | .map entries => uptoBulkEntries entries + 1
  | .held _ => 1
def uptoBulkAll {H : Type} : List (DataW H) → Nat
  | [] => 0
  | d :: r => uptoBulk d + uptoBulkAll r
def uptoBulkEntries {H : Type} : List (Lit × DataW H) → Nat
  | [] => 0
  | x :: r => uptoBulkEntry x + uptoBulkEntries r
def uptoBulkEntry {H : Type} : Lit × DataW H → Nat
  | (.string bytes, d) => bytes.length + uptoBulk d + 1
  | (_, d) => uptoBulk d + 1
 end
def uptoSmall : (H : Type) → List (DataW H) → Bool := fun _ ds => decide (uptoBulkAll ds ≤ 1048576)
def OpenSpec.upto (s : _root_.Go.ChangeSpec) : _root_.Go.OpenSpec := { _root_.Go.OpenSpec.ofChange s with cond := some uptoSmall }

/-- 'syndiclaw22.TableIs', WHERE WHAT IT READS IS OF BULK AT MOST 1048576: true; the input reads as it did. -/
def tableIsUptoRow : OpenClaim := { program := "ytpfjgecdlilkcaagreat", sum := "410fdadbf113bb0136fb784b3db2861ba37ebe043e189d228577955b0cc0f074", func := "syndic/syndiclaw22.TableIs", spec := "tableIs", unfollowed := true, recurses := true, plainKeys := false, apart := false, narrowed := true }
def TableIsUptoSaid : Prop := tableIsUptoRow.holds Tryz.pinned (OpenSpec.upto tableIsSpec)

/-- 'syndiclaw22.TableOwn', WHERE WHAT IT READS IS OF BULK AT MOST 1048576: true; the input reads as it did. -/
def tableOwnUptoRow : OpenClaim := { program := "ytpfjgecdlilkcaagreat", sum := "410fdadbf113bb0136fb784b3db2861ba37ebe043e189d228577955b0cc0f074", func := "syndic/syndiclaw22.TableOwn", spec := "tableOwn", unfollowed := true, recurses := true, plainKeys := false, apart := false, narrowed := true }
def TableOwnUptoSaid : Prop := tableOwnUptoRow.holds Tryz.pinned (OpenSpec.upto tableOwnSpec)

/-- 'syndiclaw22.TableBack', WHERE WHAT IT READS IS OF BULK AT MOST 1048576: true; the input reads as it did. -/
def tableBackUptoRow : OpenClaim := { program := "ytpfjgecdlilkcaagreat", sum := "410fdadbf113bb0136fb784b3db2861ba37ebe043e189d228577955b0cc0f074", func := "syndic/syndiclaw22.TableBack", spec := "tableBack", unfollowed := true, recurses := true, plainKeys := false, apart := false, narrowed := true }
def TableBackUptoSaid : Prop := tableBackUptoRow.holds Tryz.pinned (OpenSpec.upto tableBackSpec)

/-- 'syndiclaw22.TableLoops', WHERE WHAT IT READS IS OF BULK AT MOST 1048576: true; the input reads as it did. -/
def tableLoopsUptoRow : OpenClaim := { program := "ytpfjgecdlilkcaagreat", sum := "410fdadbf113bb0136fb784b3db2861ba37ebe043e189d228577955b0cc0f074", func := "syndic/syndiclaw22.TableLoops", spec := "tableLoops", unfollowed := true, recurses := true, plainKeys := false, apart := false, narrowed := true }
def TableLoopsUptoSaid : Prop := tableLoopsUptoRow.holds Tryz.pinned (OpenSpec.upto tableLoopsSpec)

/-- 'syndiclaw22.TableWhole', WHERE WHAT IT READS IS OF BULK AT MOST 1048576: true; the input reads as it did. -/
def tableWholeUptoRow : OpenClaim := { program := "ytpfjgecdlilkcaagreat", sum := "410fdadbf113bb0136fb784b3db2861ba37ebe043e189d228577955b0cc0f074", func := "syndic/syndiclaw22.TableWhole", spec := "tableWhole", unfollowed := true, recurses := true, plainKeys := false, apart := false, narrowed := true }
def TableWholeUptoSaid : Prop := tableWholeUptoRow.holds Tryz.pinned (OpenSpec.upto tableWholeSpec)

end Rows
end Go.Proofs.YtpfjgecdlilkcaaGreat
