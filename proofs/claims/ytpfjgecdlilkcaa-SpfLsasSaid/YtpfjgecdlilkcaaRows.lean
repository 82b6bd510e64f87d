/-
  No cell of these rows narrows 'for every input' (looked for: loops, veiled, ifaces, maps, wideKeys, modest, calm, conditions, laid).
  DERIVED. THE GIVEN ROWS OF THIS SEAT. 9 by the template 'for every input the law returns true; each argument reads behind the call as it read before'; 0 by the template 'total and deterministic' (their statements: YtpfjgecdlilkcaaTotals.lean).
  GIVEN WITH THE SEED: the statements are not yours to turn. If you find one false, say at which input.
  Laid BY PROGRAM, IN A SANDBOX (cutbox-rows.mjs): the forced cells as the released guide's own fill.sh prints them over the translation 9bceac8fd7f22e11… (all of the seat's roots in one cut). By AI agents, Wed Nov 11 2026. No macro, syntax, notation, axiom, sorry.
-/
import Derived.Test.YtpfjgecdlilkcaaChecked
import GoSem.Claim
import GoSem.ClaimJoined
import GoSem.ClaimMapViews
import Derived.JoinedTies
import Derived.KernelRfl
namespace Go.Proofs.Ytpfjgecdlilkcaa
/- THE CELL 'sum', in the pinned program and in every row, IS THE sha256 OF THE DUMP (.gsa) THAT YtpfjgecdlilkcaaProg.lean LOADS. Nothing in Lean hashes anything: it is a label: what it is worth is what the hold of that sum in a sandbox is worth. -/
noncomputable def Try.pinned : Pinned := { name := "ytpfjgecdlilkcaa", sum := "9bceac8fd7f22e1130aadc36991156602a496356a980982e0a422370f55ce5db", checked := Try.checked }
namespace Rows
def none {H : Type} : Left H := { results := [], args := [] }

/-- 'syndiclaw20.GraphLost': WHATEVER THE INPUT: true; the input reads as it did. -/
def graphLostSpec : ChangeSpec := { name := "graphLost", fn := fun _ => fun
  | [d1, d2, d3] => { results := [.lit (.bool true)], args := [d1, d2, d3] }
  | _ => none }
def graphLostRow : OpenClaim := { program := "ytpfjgecdlilkcaa", sum := "9bceac8fd7f22e1130aadc36991156602a496356a980982e0a422370f55ce5db", func := "syndic/syndiclaw20.GraphLost", spec := "graphLost", unfollowed := true, recurses := true, plainKeys := false, apart := false }
def GraphLostSaid : Prop := graphLostRow.holds Try.pinned (OpenSpec.ofChange graphLostSpec)

/-- ITS FALSE NEIGHBOUR: 'it returns false'. Refute it at one input. -/
def graphLostWrong : ChangeSpec := { name := "graphLost", fn := fun _ => fun
  | [d1, d2, d3] => { results := [.lit (.bool false)], args := [d1, d2, d3] }
  | _ => none }
def GraphLostWrongFalsely : Prop := graphLostRow.holds Try.pinned (OpenSpec.ofChange graphLostWrong)

/-- 'syndiclaw20.GraphCounts': WHATEVER THE INPUT: true; the input reads as it did. -/
def graphCountsSpec : ChangeSpec := { name := "graphCounts", fn := fun _ => fun
  | [d] => { results := [.lit (.bool true)], args := [d] }
  | _ => none }
def graphCountsRow : OpenClaim := { program := "ytpfjgecdlilkcaa", sum := "9bceac8fd7f22e1130aadc36991156602a496356a980982e0a422370f55ce5db", func := "syndic/syndiclaw20.GraphCounts", spec := "graphCounts", unfollowed := true, recurses := true, plainKeys := false, apart := false }
def GraphCountsSaid : Prop := graphCountsRow.holds Try.pinned (OpenSpec.ofChange graphCountsSpec)

/-- ITS FALSE NEIGHBOUR: 'it returns false'. Refute it at one input. -/
def graphCountsWrong : ChangeSpec := { name := "graphCounts", fn := fun _ => fun
  | [d] => { results := [.lit (.bool false)], args := [d] }
  | _ => none }
def GraphCountsWrongFalsely : Prop := graphCountsRow.holds Try.pinned (OpenSpec.ofChange graphCountsWrong)

/-- 'syndiclaw20.GraphOut': WHATEVER THE INPUT: true; the input reads as it did. -/
def graphOutSpec : ChangeSpec := { name := "graphOut", fn := fun _ => fun
  | [d1, d2] => { results := [.lit (.bool true)], args := [d1, d2] }
  | _ => none }
def graphOutRow : OpenClaim := { program := "ytpfjgecdlilkcaa", sum := "9bceac8fd7f22e1130aadc36991156602a496356a980982e0a422370f55ce5db", func := "syndic/syndiclaw20.GraphOut", spec := "graphOut", unfollowed := true, recurses := true, plainKeys := false, apart := false }
def GraphOutSaid : Prop := graphOutRow.holds Try.pinned (OpenSpec.ofChange graphOutSpec)

/-- ITS FALSE NEIGHBOUR: 'it returns false'. Refute it at one input. -/
def graphOutWrong : ChangeSpec := { name := "graphOut", fn := fun _ => fun
  | [d1, d2] => { results := [.lit (.bool false)], args := [d1, d2] }
  | _ => none }
def GraphOutWrongFalsely : Prop := graphOutRow.holds Try.pinned (OpenSpec.ofChange graphOutWrong)

/-- 'syndiclaw20.GraphEdges': WHATEVER THE INPUT: true; the input reads as it did. -/
def graphEdgesSpec : ChangeSpec := { name := "graphEdges", fn := fun _ => fun
  | [d] => { results := [.lit (.bool true)], args := [d] }
  | _ => none }
def graphEdgesRow : OpenClaim := { program := "ytpfjgecdlilkcaa", sum := "9bceac8fd7f22e1130aadc36991156602a496356a980982e0a422370f55ce5db", func := "syndic/syndiclaw20.GraphEdges", spec := "graphEdges", unfollowed := true, recurses := true, plainKeys := false, apart := false }
def GraphEdgesSaid : Prop := graphEdgesRow.holds Try.pinned (OpenSpec.ofChange graphEdgesSpec)

/-- ITS FALSE NEIGHBOUR: 'it returns false'. Refute it at one input. -/
def graphEdgesWrong : ChangeSpec := { name := "graphEdges", fn := fun _ => fun
  | [d] => { results := [.lit (.bool false)], args := [d] }
  | _ => none }
def GraphEdgesWrongFalsely : Prop := graphEdgesRow.holds Try.pinned (OpenSpec.ofChange graphEdgesWrong)

/-- 'syndiclaw21.SpfIs': WHATEVER THE INPUT: true; the input reads as it did. -/
def spfIsSpec : ChangeSpec := { name := "spfIs", fn := fun _ => fun
  | [d1, d2] => { results := [.lit (.bool true)], args := [d1, d2] }
  | _ => none }
def spfIsRow : OpenClaim := { program := "ytpfjgecdlilkcaa", sum := "9bceac8fd7f22e1130aadc36991156602a496356a980982e0a422370f55ce5db", func := "syndic/syndiclaw21.SpfIs", spec := "spfIs", unfollowed := true, recurses := true, plainKeys := false, apart := false }
def SpfIsSaid : Prop := spfIsRow.holds Try.pinned (OpenSpec.ofChange spfIsSpec)

/-- ITS FALSE NEIGHBOUR: 'it returns false'. Refute it at one input. -/
def spfIsWrong : ChangeSpec := { name := "spfIs", fn := fun _ => fun
  | [d1, d2] => { results := [.lit (.bool false)], args := [d1, d2] }
  | _ => none }
def SpfIsWrongFalsely : Prop := spfIsRow.holds Try.pinned (OpenSpec.ofChange spfIsWrong)

/-- 'syndiclaw21.SpfCheapest': WHATEVER THE INPUT: true; the input reads as it did. -/
def spfCheapestSpec : ChangeSpec := { name := "spfCheapest", fn := fun _ => fun
  | [d1, d2] => { results := [.lit (.bool true)], args := [d1, d2] }
  | _ => none }
def spfCheapestRow : OpenClaim := { program := "ytpfjgecdlilkcaa", sum := "9bceac8fd7f22e1130aadc36991156602a496356a980982e0a422370f55ce5db", func := "syndic/syndiclaw21.SpfCheapest", spec := "spfCheapest", unfollowed := true, recurses := true, plainKeys := false, apart := false }
def SpfCheapestSaid : Prop := spfCheapestRow.holds Try.pinned (OpenSpec.ofChange spfCheapestSpec)

/-- ITS FALSE NEIGHBOUR: 'it returns false'. Refute it at one input. -/
def spfCheapestWrong : ChangeSpec := { name := "spfCheapest", fn := fun _ => fun
  | [d1, d2] => { results := [.lit (.bool false)], args := [d1, d2] }
  | _ => none }
def SpfCheapestWrongFalsely : Prop := spfCheapestRow.holds Try.pinned (OpenSpec.ofChange spfCheapestWrong)

/-- 'syndiclaw21.SpfSteps': WHATEVER THE INPUT: true; the input reads as it did. -/
def spfStepsSpec : ChangeSpec := { name := "spfSteps", fn := fun _ => fun
  | [d1, d2] => { results := [.lit (.bool true)], args := [d1, d2] }
  | _ => none }
def spfStepsRow : OpenClaim := { program := "ytpfjgecdlilkcaa", sum := "9bceac8fd7f22e1130aadc36991156602a496356a980982e0a422370f55ce5db", func := "syndic/syndiclaw21.SpfSteps", spec := "spfSteps", unfollowed := true, recurses := true, plainKeys := false, apart := false }
def SpfStepsSaid : Prop := spfStepsRow.holds Try.pinned (OpenSpec.ofChange spfStepsSpec)

/-- ITS FALSE NEIGHBOUR: 'it returns false'. Refute it at one input. -/
def spfStepsWrong : ChangeSpec := { name := "spfSteps", fn := fun _ => fun
  | [d1, d2] => { results := [.lit (.bool false)], args := [d1, d2] }
  | _ => none }
def SpfStepsWrongFalsely : Prop := spfStepsRow.holds Try.pinned (OpenSpec.ofChange spfStepsWrong)

/-- 'syndiclaw21.SpfOrder': WHATEVER THE INPUT: true; the input reads as it did. -/
def spfOrderSpec : ChangeSpec := { name := "spfOrder", fn := fun _ => fun
  | [d1, d2, d3] => { results := [.lit (.bool true)], args := [d1, d2, d3] }
  | _ => none }
def spfOrderRow : OpenClaim := { program := "ytpfjgecdlilkcaa", sum := "9bceac8fd7f22e1130aadc36991156602a496356a980982e0a422370f55ce5db", func := "syndic/syndiclaw21.SpfOrder", spec := "spfOrder", unfollowed := true, recurses := true, plainKeys := false, apart := false }
def SpfOrderSaid : Prop := spfOrderRow.holds Try.pinned (OpenSpec.ofChange spfOrderSpec)

/-- ITS FALSE NEIGHBOUR: 'it returns false'. Refute it at one input. -/
def spfOrderWrong : ChangeSpec := { name := "spfOrder", fn := fun _ => fun
  | [d1, d2, d3] => { results := [.lit (.bool false)], args := [d1, d2, d3] }
  | _ => none }
def SpfOrderWrongFalsely : Prop := spfOrderRow.holds Try.pinned (OpenSpec.ofChange spfOrderWrong)

/-- 'syndiclaw21.SpfLsas': WHATEVER THE INPUT: true; the input reads as it did. -/
def spfLsasSpec : ChangeSpec := { name := "spfLsas", fn := fun _ => fun
  | [d1, d2] => { results := [.lit (.bool true)], args := [d1, d2] }
  | _ => none }
def spfLsasRow : OpenClaim := { program := "ytpfjgecdlilkcaa", sum := "9bceac8fd7f22e1130aadc36991156602a496356a980982e0a422370f55ce5db", func := "syndic/syndiclaw21.SpfLsas", spec := "spfLsas", unfollowed := true, recurses := true, plainKeys := false, apart := false }
def SpfLsasSaid : Prop := spfLsasRow.holds Try.pinned (OpenSpec.ofChange spfLsasSpec)

/-- ITS FALSE NEIGHBOUR: 'it returns false'. Refute it at one input. -/
def spfLsasWrong : ChangeSpec := { name := "spfLsas", fn := fun _ => fun
  | [d1, d2] => { results := [.lit (.bool false)], args := [d1, d2] }
  | _ => none }
def SpfLsasWrongFalsely : Prop := spfLsasRow.holds Try.pinned (OpenSpec.ofChange spfLsasWrong)

/- THE SECOND FORM. 'bulk': how many values and letters a reading holds, each counted each time it is reached (what is shared counts as often as it is met; a slice's spare places count too). A statement '..UptoSaid' is the law's where the arguments, and the package variables that the reading takes, are together of bulk at most 1048576: NARROWER than '..Said'. Prove '..Said' where nothing that the law and all that it calls make is longer than what came in: it says more and counts as full. Else prove '..UptoSaid'. A law counts once. -/
mutual
def uptoBulk {H : Type} : DataW H → Nat
  | .lit (.string bytes) => bytes.length + 1
  | .lit _ => 1
  | .nil => 1
  | .ptr d => uptoBulk d + 1
  | .slice elems spare => uptoBulkAll elems + uptoBulkAll spare + 1
  | .agg parts => uptoBulkAll parts + 1
  | .iface _ d => uptoBulk d + 1
  | .map entries => uptoBulkEntries entries + 1
  | .held _ => 1
def uptoBulkAll {H : Type} : List (DataW H) → Nat
  | [] => 0
  | d :: r => uptoBulk d + uptoBulkAll r
def uptoBulkEntries {H : Type} : List (Lit × DataW H) → Nat
  | [] => 0
  | x :: r => uptoBulkEntry x + uptoBulkEntries r
def uptoBulkEntry {H : Type} : Lit × DataW H → Nat
  | (.string bytes, d) => bytes.length + uptoBulk d + 1
  | (_, d) => uptoBulk d + 1
 end
def uptoSmall : (H : Type) → List (DataW H) → Bool := fun _ ds => decide (uptoBulkAll ds ≤ 1048576)
def OpenSpec.upto (s : _root_.Go.ChangeSpec) : _root_.Go.OpenSpec := { _root_.Go.OpenSpec.ofChange s with cond := some uptoSmall }

/-- 'syndiclaw20.GraphLost', WHERE WHAT IT READS IS OF BULK AT MOST 1048576: true; the input reads as it did. -/
def graphLostUptoRow : OpenClaim := { program := "ytpfjgecdlilkcaa", sum := "9bceac8fd7f22e1130aadc36991156602a496356a980982e0a422370f55ce5db", func := "syndic/syndiclaw20.GraphLost", spec := "graphLost", unfollowed := true, recurses := true, plainKeys := false, apart := false, narrowed := true }
def GraphLostUptoSaid : Prop := graphLostUptoRow.holds Try.pinned (OpenSpec.upto graphLostSpec)

/-- 'syndiclaw20.GraphCounts', WHERE WHAT IT READS IS OF BULK AT MOST 1048576: true; the input reads as it did. -/
def graphCountsUptoRow : OpenClaim := { program := "ytpfjgecdlilkcaa", sum := "9bceac8fd7f22e1130aadc36991156602a496356a980982e0a422370f55ce5db", func := "syndic/syndiclaw20.GraphCounts", spec := "graphCounts", unfollowed := true, recurses := true, plainKeys := false, apart := false, narrowed := true }
def GraphCountsUptoSaid : Prop := graphCountsUptoRow.holds Try.pinned (OpenSpec.upto graphCountsSpec)

/-- 'syndiclaw20.GraphOut', WHERE WHAT IT READS IS OF BULK AT MOST 1048576: true; the input reads as it did. -/
def graphOutUptoRow : OpenClaim := { program := "ytpfjgecdlilkcaa", sum := "9bceac8fd7f22e1130aadc36991156602a496356a980982e0a422370f55ce5db", func := "syndic/syndiclaw20.GraphOut", spec := "graphOut", unfollowed := true, recurses := true, plainKeys := false, apart := false, narrowed := true }
def GraphOutUptoSaid : Prop := graphOutUptoRow.holds Try.pinned (OpenSpec.upto graphOutSpec)

/-- 'syndiclaw20.GraphEdges', WHERE WHAT IT READS IS OF BULK AT MOST 1048576: true; the input reads as it did. -/
def graphEdgesUptoRow : OpenClaim := { program := "ytpfjgecdlilkcaa", sum := "9bceac8fd7f22e1130aadc36991156602a496356a980982e0a422370f55ce5db", func := "syndic/syndiclaw20.GraphEdges", spec := "graphEdges", unfollowed := true, recurses := true, plainKeys := false, apart := false, narrowed := true }
def GraphEdgesUptoSaid : Prop := graphEdgesUptoRow.holds Try.pinned (OpenSpec.upto graphEdgesSpec)

/-- 'syndiclaw21.SpfIs', WHERE WHAT IT READS IS OF BULK AT MOST 1048576: true; the input reads as it did. -/
def spfIsUptoRow : OpenClaim := { program := "ytpfjgecdlilkcaa", sum := "9bceac8fd7f22e1130aadc36991156602a496356a980982e0a422370f55ce5db", func := "syndic/syndiclaw21.SpfIs", spec := "spfIs", unfollowed := true, recurses := true, plainKeys := false, apart := false, narrowed := true }
def SpfIsUptoSaid : Prop := spfIsUptoRow.holds Try.pinned (OpenSpec.upto spfIsSpec)

/-- 'syndiclaw21.SpfCheapest', WHERE WHAT IT READS IS OF BULK AT MOST 1048576: true; the input reads as it did. -/
def spfCheapestUptoRow : OpenClaim := { program := "ytpfjgecdlilkcaa", sum := "9bceac8fd7f22e1130aadc36991156602a496356a980982e0a422370f55ce5db", func := "syndic/syndiclaw21.SpfCheapest", spec := "spfCheapest", unfollowed := true, recurses := true, plainKeys := false, apart := false, narrowed := true }
def SpfCheapestUptoSaid : Prop := spfCheapestUptoRow.holds Try.pinned (OpenSpec.upto spfCheapestSpec)

/-- 'syndiclaw21.SpfSteps', WHERE WHAT IT READS IS OF BULK AT MOST 1048576: true; the input reads as it did. -/
def spfStepsUptoRow : OpenClaim := { program := "ytpfjgecdlilkcaa", sum := "9bceac8fd7f22e1130aadc36991156602a496356a980982e0a422370f55ce5db", func := "syndic/syndiclaw21.SpfSteps", spec := "spfSteps", unfollowed := true, recurses := true, plainKeys := false, apart := false, narrowed := true }
def SpfStepsUptoSaid : Prop := spfStepsUptoRow.holds Try.pinned (OpenSpec.upto spfStepsSpec)

/-- 'syndiclaw21.SpfOrder', WHERE WHAT IT READS IS OF BULK AT MOST 1048576: true; the input reads as it did. -/
def spfOrderUptoRow : OpenClaim := { program := "ytpfjgecdlilkcaa", sum := "9bceac8fd7f22e1130aadc36991156602a496356a980982e0a422370f55ce5db", func := "syndic/syndiclaw21.SpfOrder", spec := "spfOrder", unfollowed := true, recurses := true, plainKeys := false, apart := false, narrowed := true }
def SpfOrderUptoSaid : Prop := spfOrderUptoRow.holds Try.pinned (OpenSpec.upto spfOrderSpec)

/-- 'syndiclaw21.SpfLsas', WHERE WHAT IT READS IS OF BULK AT MOST 1048576: true; the input reads as it did. -/
def spfLsasUptoRow : OpenClaim := { program := "ytpfjgecdlilkcaa", sum := "9bceac8fd7f22e1130aadc36991156602a496356a980982e0a422370f55ce5db", func := "syndic/syndiclaw21.SpfLsas", spec := "spfLsas", unfollowed := true, recurses := true, plainKeys := false, apart := false, narrowed := true }
def SpfLsasUptoSaid : Prop := spfLsasUptoRow.holds Try.pinned (OpenSpec.upto spfLsasSpec)

end Rows
end Go.Proofs.Ytpfjgecdlilkcaa
