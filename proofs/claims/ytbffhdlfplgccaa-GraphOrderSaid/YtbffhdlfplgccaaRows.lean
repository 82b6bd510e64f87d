/-
  No cell of these rows narrows 'for every input' (looked for: loops, veiled, ifaces, maps, wideKeys, modest, calm, conditions, laid).
  DERIVED. THE GIVEN ROWS OF THIS SEAT. 10 by the template 'for every input the law returns true; each argument reads behind the call as it read before'; 0 by the template 'total and deterministic' (their statements: YtbffhdlfplgccaaTotals.lean).
  GIVEN WITH THE SEED: the statements are not yours to turn. If you find one false, say at which input.
  Laid BY PROGRAM, IN A SANDBOX (cutbox-rows.mjs): the forced cells as the released guide's own fill.sh prints them over the translation 35c8087d43445aa7… (all of the seat's roots in one cut). By AI agents, Wed Nov 11 2026. No macro, syntax, notation, axiom, sorry.
-/
import Derived.Test.YtbffhdlfplgccaaChecked
import GoSem.Claim
import GoSem.ClaimJoined
import GoSem.ClaimMapViews
import Derived.JoinedTies
import Derived.KernelRfl
namespace Go.Proofs.Ytbffhdlfplgccaa
/- THE CELL 'sum', in the pinned program and in every row, IS THE sha256 OF THE DUMP (.gsa) THAT YtbffhdlfplgccaaProg.lean LOADS. Nothing in Lean hashes anything: it is a label: what it is worth is what the hold of that sum in a sandbox is worth. -/
noncomputable def Try.pinned : Pinned := { name := "ytbffhdlfplgccaa", sum := "35c8087d43445aa77fe414c6e03966c30e9c946fdde4597903699c036ecec20a", checked := Try.checked }
namespace Rows
def none {H : Type} : Left H := { results := [], args := [] }

/-- 'syndiclaw15.WantsLoad': WHATEVER THE INPUT: true; the input reads as it did. -/
def wantsLoadSpec : ChangeSpec := { name := "wantsLoad", fn := fun _ => fun
  | [d1, d2] => { results := [.lit (.bool true)], args := [d1, d2] }
  | _ => none }
def wantsLoadRow : OpenClaim := { program := "ytbffhdlfplgccaa", sum := "35c8087d43445aa77fe414c6e03966c30e9c946fdde4597903699c036ecec20a", func := "syndic/syndiclaw15.WantsLoad", spec := "wantsLoad", unfollowed := true, recurses := true, plainKeys := false, apart := false }
def WantsLoadSaid : Prop := wantsLoadRow.holds Try.pinned (OpenSpec.ofChange wantsLoadSpec)

/-- ITS FALSE NEIGHBOUR: 'it returns false'. Refute it at one input. -/
def wantsLoadWrong : ChangeSpec := { name := "wantsLoad", fn := fun _ => fun
  | [d1, d2] => { results := [.lit (.bool false)], args := [d1, d2] }
  | _ => none }
def WantsLoadWrongFalsely : Prop := wantsLoadRow.holds Try.pinned (OpenSpec.ofChange wantsLoadWrong)

/-- 'syndiclaw13.SummTells': WHATEVER THE INPUT: true; the input reads as it did. -/
def summTellsSpec : ChangeSpec := { name := "summTells", fn := fun _ => fun
  | [d] => { results := [.lit (.bool true)], args := [d] }
  | _ => none }
def summTellsRow : OpenClaim := { program := "ytbffhdlfplgccaa", sum := "35c8087d43445aa77fe414c6e03966c30e9c946fdde4597903699c036ecec20a", func := "syndic/syndiclaw13.SummTells", spec := "summTells", unfollowed := true, recurses := true, plainKeys := false, apart := false }
def SummTellsSaid : Prop := summTellsRow.holds Try.pinned (OpenSpec.ofChange summTellsSpec)

/-- ITS FALSE NEIGHBOUR: 'it returns false'. Refute it at one input. -/
def summTellsWrong : ChangeSpec := { name := "summTells", fn := fun _ => fun
  | [d] => { results := [.lit (.bool false)], args := [d] }
  | _ => none }
def SummTellsWrongFalsely : Prop := summTellsRow.holds Try.pinned (OpenSpec.ofChange summTellsWrong)

/-- 'syndiclaw14.ExchSelf': WHATEVER THE INPUT: true; the input reads as it did. -/
def exchSelfSpec : ChangeSpec := { name := "exchSelf", fn := fun _ => fun
  | [d1, d2, d3] => { results := [.lit (.bool true)], args := [d1, d2, d3] }
  | _ => none }
def exchSelfRow : OpenClaim := { program := "ytbffhdlfplgccaa", sum := "35c8087d43445aa77fe414c6e03966c30e9c946fdde4597903699c036ecec20a", func := "syndic/syndiclaw14.ExchSelf", spec := "exchSelf", unfollowed := true, recurses := true, plainKeys := false, apart := false }
def ExchSelfSaid : Prop := exchSelfRow.holds Try.pinned (OpenSpec.ofChange exchSelfSpec)

/-- ITS FALSE NEIGHBOUR: 'it returns false'. Refute it at one input. -/
def exchSelfWrong : ChangeSpec := { name := "exchSelf", fn := fun _ => fun
  | [d1, d2, d3] => { results := [.lit (.bool false)], args := [d1, d2, d3] }
  | _ => none }
def ExchSelfWrongFalsely : Prop := exchSelfRow.holds Try.pinned (OpenSpec.ofChange exchSelfWrong)

/-- 'syndiclaw14.ExchNil': WHATEVER THE INPUT: true; the input reads as it did. -/
def exchNilSpec : ChangeSpec := { name := "exchNil", fn := fun _ => fun
  | [d] => { results := [.lit (.bool true)], args := [d] }
  | _ => none }
def exchNilRow : OpenClaim := { program := "ytbffhdlfplgccaa", sum := "35c8087d43445aa77fe414c6e03966c30e9c946fdde4597903699c036ecec20a", func := "syndic/syndiclaw14.ExchNil", spec := "exchNil", unfollowed := true, recurses := true, plainKeys := false, apart := false }
def ExchNilSaid : Prop := exchNilRow.holds Try.pinned (OpenSpec.ofChange exchNilSpec)

/-- ITS FALSE NEIGHBOUR: 'it returns false'. Refute it at one input. -/
def exchNilWrong : ChangeSpec := { name := "exchNil", fn := fun _ => fun
  | [d] => { results := [.lit (.bool false)], args := [d] }
  | _ => none }
def ExchNilWrongFalsely : Prop := exchNilRow.holds Try.pinned (OpenSpec.ofChange exchNilWrong)

/-- 'syndiclaw20.GraphCounts': WHATEVER THE INPUT: true; the input reads as it did. -/
def graphCountsSpec : ChangeSpec := { name := "graphCounts", fn := fun _ => fun
  | [d] => { results := [.lit (.bool true)], args := [d] }
  | _ => none }
def graphCountsRow : OpenClaim := { program := "ytbffhdlfplgccaa", sum := "35c8087d43445aa77fe414c6e03966c30e9c946fdde4597903699c036ecec20a", func := "syndic/syndiclaw20.GraphCounts", spec := "graphCounts", unfollowed := true, recurses := true, plainKeys := false, apart := false }
def GraphCountsSaid : Prop := graphCountsRow.holds Try.pinned (OpenSpec.ofChange graphCountsSpec)

/-- ITS FALSE NEIGHBOUR: 'it returns false'. Refute it at one input. -/
def graphCountsWrong : ChangeSpec := { name := "graphCounts", fn := fun _ => fun
  | [d] => { results := [.lit (.bool false)], args := [d] }
  | _ => none }
def GraphCountsWrongFalsely : Prop := graphCountsRow.holds Try.pinned (OpenSpec.ofChange graphCountsWrong)

/-- 'syndiclaw20.GraphOut': WHATEVER THE INPUT: true; the input reads as it did. -/
def graphOutSpec : ChangeSpec := { name := "graphOut", fn := fun _ => fun
  | [d1, d2] => { results := [.lit (.bool true)], args := [d1, d2] }
  | _ => none }
def graphOutRow : OpenClaim := { program := "ytbffhdlfplgccaa", sum := "35c8087d43445aa77fe414c6e03966c30e9c946fdde4597903699c036ecec20a", func := "syndic/syndiclaw20.GraphOut", spec := "graphOut", unfollowed := true, recurses := true, plainKeys := false, apart := false }
def GraphOutSaid : Prop := graphOutRow.holds Try.pinned (OpenSpec.ofChange graphOutSpec)

/-- ITS FALSE NEIGHBOUR: 'it returns false'. Refute it at one input. -/
def graphOutWrong : ChangeSpec := { name := "graphOut", fn := fun _ => fun
  | [d1, d2] => { results := [.lit (.bool false)], args := [d1, d2] }
  | _ => none }
def GraphOutWrongFalsely : Prop := graphOutRow.holds Try.pinned (OpenSpec.ofChange graphOutWrong)

/-- 'syndiclaw20.GraphEdges': WHATEVER THE INPUT: true; the input reads as it did. -/
def graphEdgesSpec : ChangeSpec := { name := "graphEdges", fn := fun _ => fun
  | [d] => { results := [.lit (.bool true)], args := [d] }
  | _ => none }
def graphEdgesRow : OpenClaim := { program := "ytbffhdlfplgccaa", sum := "35c8087d43445aa77fe414c6e03966c30e9c946fdde4597903699c036ecec20a", func := "syndic/syndiclaw20.GraphEdges", spec := "graphEdges", unfollowed := true, recurses := true, plainKeys := false, apart := false }
def GraphEdgesSaid : Prop := graphEdgesRow.holds Try.pinned (OpenSpec.ofChange graphEdgesSpec)

/-- ITS FALSE NEIGHBOUR: 'it returns false'. Refute it at one input. -/
def graphEdgesWrong : ChangeSpec := { name := "graphEdges", fn := fun _ => fun
  | [d] => { results := [.lit (.bool false)], args := [d] }
  | _ => none }
def GraphEdgesWrongFalsely : Prop := graphEdgesRow.holds Try.pinned (OpenSpec.ofChange graphEdgesWrong)

/-- 'syndiclaw20.GraphLost': WHATEVER THE INPUT: true; the input reads as it did. -/
def graphLostSpec : ChangeSpec := { name := "graphLost", fn := fun _ => fun
  | [d1, d2, d3] => { results := [.lit (.bool true)], args := [d1, d2, d3] }
  | _ => none }
def graphLostRow : OpenClaim := { program := "ytbffhdlfplgccaa", sum := "35c8087d43445aa77fe414c6e03966c30e9c946fdde4597903699c036ecec20a", func := "syndic/syndiclaw20.GraphLost", spec := "graphLost", unfollowed := true, recurses := true, plainKeys := false, apart := false }
def GraphLostSaid : Prop := graphLostRow.holds Try.pinned (OpenSpec.ofChange graphLostSpec)

/-- ITS FALSE NEIGHBOUR: 'it returns false'. Refute it at one input. -/
def graphLostWrong : ChangeSpec := { name := "graphLost", fn := fun _ => fun
  | [d1, d2, d3] => { results := [.lit (.bool false)], args := [d1, d2, d3] }
  | _ => none }
def GraphLostWrongFalsely : Prop := graphLostRow.holds Try.pinned (OpenSpec.ofChange graphLostWrong)

/-- 'syndiclaw20.GraphBoth': WHATEVER THE INPUT: true; the input reads as it did. -/
def graphBothSpec : ChangeSpec := { name := "graphBoth", fn := fun _ => fun
  | [d] => { results := [.lit (.bool true)], args := [d] }
  | _ => none }
def graphBothRow : OpenClaim := { program := "ytbffhdlfplgccaa", sum := "35c8087d43445aa77fe414c6e03966c30e9c946fdde4597903699c036ecec20a", func := "syndic/syndiclaw20.GraphBoth", spec := "graphBoth", unfollowed := true, recurses := true, plainKeys := false, apart := false }
def GraphBothSaid : Prop := graphBothRow.holds Try.pinned (OpenSpec.ofChange graphBothSpec)

/-- ITS FALSE NEIGHBOUR: 'it returns false'. Refute it at one input. -/
def graphBothWrong : ChangeSpec := { name := "graphBoth", fn := fun _ => fun
  | [d] => { results := [.lit (.bool false)], args := [d] }
  | _ => none }
def GraphBothWrongFalsely : Prop := graphBothRow.holds Try.pinned (OpenSpec.ofChange graphBothWrong)

/-- 'syndiclaw20.GraphOrder': WHATEVER THE INPUT: true; the input reads as it did. -/
def graphOrderSpec : ChangeSpec := { name := "graphOrder", fn := fun _ => fun
  | [d1, d2, d3] => { results := [.lit (.bool true)], args := [d1, d2, d3] }
  | _ => none }
def graphOrderRow : OpenClaim := { program := "ytbffhdlfplgccaa", sum := "35c8087d43445aa77fe414c6e03966c30e9c946fdde4597903699c036ecec20a", func := "syndic/syndiclaw20.GraphOrder", spec := "graphOrder", unfollowed := true, recurses := true, plainKeys := false, apart := false }
def GraphOrderSaid : Prop := graphOrderRow.holds Try.pinned (OpenSpec.ofChange graphOrderSpec)

/-- ITS FALSE NEIGHBOUR: 'it returns false'. Refute it at one input. -/
def graphOrderWrong : ChangeSpec := { name := "graphOrder", fn := fun _ => fun
  | [d1, d2, d3] => { results := [.lit (.bool false)], args := [d1, d2, d3] }
  | _ => none }
def GraphOrderWrongFalsely : Prop := graphOrderRow.holds Try.pinned (OpenSpec.ofChange graphOrderWrong)

/- THE SECOND FORM. 'bulk': how many values and letters a reading holds, each counted each time it is reached (what is shared counts as often as it is met; a slice's spare places count too). A statement '..UptoSaid' is the law's where the arguments, and the package variables that the reading takes, are together of bulk at most 1048576: NARROWER than '..Said'. Prove '..Said' where nothing that the law and all that it calls make is longer than what came in: it says more and counts as full. Else prove '..UptoSaid'. A law counts once. -/
mutual
def uptoBulk {H : Type} : DataW H → Nat
  | .lit (.string bytes) => bytes.length + 1
  | .lit _ => 1
  | .nil => 1
  | .ptr d => uptoBulk d + 1
  | .slice elems spare => uptoBulkAll elems + uptoBulkAll spare + 1
  | .agg parts => uptoBulkAll parts + 1
  | .iface _ d => uptoBulk d + 1
  | .map entries => uptoBulkEntries entries + 1
  | .held _ => 1
def uptoBulkAll {H : Type} : List (DataW H) → Nat
  | [] => 0
  | d :: r => uptoBulk d + uptoBulkAll r
def uptoBulkEntries {H : Type} : List (Lit × DataW H) → Nat
  | [] => 0
  | x :: r => uptoBulkEntry x + uptoBulkEntries r
def uptoBulkEntry {H : Type} : Lit × DataW H → Nat
  | (.string bytes, d) => bytes.length + uptoBulk d + 1
  | (_, d) => uptoBulk d + 1
 end
def uptoSmall : (H : Type) → List (DataW H) → Bool := fun _ ds => decide (uptoBulkAll ds ≤ 1048576)
def OpenSpec.upto (s : _root_.Go.ChangeSpec) : _root_.Go.OpenSpec := { _root_.Go.OpenSpec.ofChange s with cond := some uptoSmall }

/-- 'syndiclaw15.WantsLoad', WHERE WHAT IT READS IS OF BULK AT MOST 1048576: true; the input reads as it did. -/
def wantsLoadUptoRow : OpenClaim := { program := "ytbffhdlfplgccaa", sum := "35c8087d43445aa77fe414c6e03966c30e9c946fdde4597903699c036ecec20a", func := "syndic/syndiclaw15.WantsLoad", spec := "wantsLoad", unfollowed := true, recurses := true, plainKeys := false, apart := false, narrowed := true }
def WantsLoadUptoSaid : Prop := wantsLoadUptoRow.holds Try.pinned (OpenSpec.upto wantsLoadSpec)

/-- 'syndiclaw13.SummTells', WHERE WHAT IT READS IS OF BULK AT MOST 1048576: true; the input reads as it did. -/
def summTellsUptoRow : OpenClaim := { program := "ytbffhdlfplgccaa", sum := "35c8087d43445aa77fe414c6e03966c30e9c946fdde4597903699c036ecec20a", func := "syndic/syndiclaw13.SummTells", spec := "summTells", unfollowed := true, recurses := true, plainKeys := false, apart := false, narrowed := true }
def SummTellsUptoSaid : Prop := summTellsUptoRow.holds Try.pinned (OpenSpec.upto summTellsSpec)

/-- 'syndiclaw14.ExchSelf', WHERE WHAT IT READS IS OF BULK AT MOST 1048576: true; the input reads as it did. -/
def exchSelfUptoRow : OpenClaim := { program := "ytbffhdlfplgccaa", sum := "35c8087d43445aa77fe414c6e03966c30e9c946fdde4597903699c036ecec20a", func := "syndic/syndiclaw14.ExchSelf", spec := "exchSelf", unfollowed := true, recurses := true, plainKeys := false, apart := false, narrowed := true }
def ExchSelfUptoSaid : Prop := exchSelfUptoRow.holds Try.pinned (OpenSpec.upto exchSelfSpec)

/-- 'syndiclaw14.ExchNil', WHERE WHAT IT READS IS OF BULK AT MOST 1048576: true; the input reads as it did. -/
def exchNilUptoRow : OpenClaim := { program := "ytbffhdlfplgccaa", sum := "35c8087d43445aa77fe414c6e03966c30e9c946fdde4597903699c036ecec20a", func := "syndic/syndiclaw14.ExchNil", spec := "exchNil", unfollowed := true, recurses := true, plainKeys := false, apart := false, narrowed := true }
def ExchNilUptoSaid : Prop := exchNilUptoRow.holds Try.pinned (OpenSpec.upto exchNilSpec)

/-- 'syndiclaw20.GraphCounts', WHERE WHAT IT READS IS OF BULK AT MOST 1048576: true; the input reads as it did. -/
def graphCountsUptoRow : OpenClaim := { program := "ytbffhdlfplgccaa", sum := "35c8087d43445aa77fe414c6e03966c30e9c946fdde4597903699c036ecec20a", func := "syndic/syndiclaw20.GraphCounts", spec := "graphCounts", unfollowed := true, recurses := true, plainKeys := false, apart := false, narrowed := true }
def GraphCountsUptoSaid : Prop := graphCountsUptoRow.holds Try.pinned (OpenSpec.upto graphCountsSpec)

/-- 'syndiclaw20.GraphOut', WHERE WHAT IT READS IS OF BULK AT MOST 1048576: true; the input reads as it did. -/
def graphOutUptoRow : OpenClaim := { program := "ytbffhdlfplgccaa", sum := "35c8087d43445aa77fe414c6e03966c30e9c946fdde4597903699c036ecec20a", func := "syndic/syndiclaw20.GraphOut", spec := "graphOut", unfollowed := true, recurses := true, plainKeys := false, apart := false, narrowed := true }
def GraphOutUptoSaid : Prop := graphOutUptoRow.holds Try.pinned (OpenSpec.upto graphOutSpec)

/-- 'syndiclaw20.GraphEdges', WHERE WHAT IT READS IS OF BULK AT MOST 1048576: true; the input reads as it did. -/
def graphEdgesUptoRow : OpenClaim := { program := "ytbffhdlfplgccaa", sum := "35c8087d43445aa77fe414c6e03966c30e9c946fdde4597903699c036ecec20a", func := "syndic/syndiclaw20.GraphEdges", spec := "graphEdges", unfollowed := true, recurses := true, plainKeys := false, apart := false, narrowed := true }
def GraphEdgesUptoSaid : Prop := graphEdgesUptoRow.holds Try.pinned (OpenSpec.upto graphEdgesSpec)

/-- 'syndiclaw20.GraphLost', WHERE WHAT IT READS IS OF BULK AT MOST 1048576: true; the input reads as it did. -/
def graphLostUptoRow : OpenClaim := { program := "ytbffhdlfplgccaa", sum := "35c8087d43445aa77fe414c6e03966c30e9c946fdde4597903699c036ecec20a", func := "syndic/syndiclaw20.GraphLost", spec := "graphLost", unfollowed := true, recurses := true, plainKeys := false, apart := false, narrowed := true }
def GraphLostUptoSaid : Prop := graphLostUptoRow.holds Try.pinned (OpenSpec.upto graphLostSpec)

/-- 'syndiclaw20.GraphBoth', WHERE WHAT IT READS IS OF BULK AT MOST 1048576: true; the input reads as it did. -/
def graphBothUptoRow : OpenClaim := { program := "ytbffhdlfplgccaa", sum := "35c8087d43445aa77fe414c6e03966c30e9c946fdde4597903699c036ecec20a", func := "syndic/syndiclaw20.GraphBoth", spec := "graphBoth", unfollowed := true, recurses := true, plainKeys := false, apart := false, narrowed := true }
def GraphBothUptoSaid : Prop := graphBothUptoRow.holds Try.pinned (OpenSpec.upto graphBothSpec)

/-- 'syndiclaw20.GraphOrder', WHERE WHAT IT READS IS OF BULK AT MOST 1048576: true; the input reads as it did. -/
def graphOrderUptoRow : OpenClaim := { program := "ytbffhdlfplgccaa", sum := "35c8087d43445aa77fe414c6e03966c30e9c946fdde4597903699c036ecec20a", func := "syndic/syndiclaw20.GraphOrder", spec := "graphOrder", unfollowed := true, recurses := true, plainKeys := false, apart := false, narrowed := true }
def GraphOrderUptoSaid : Prop := graphOrderUptoRow.holds Try.pinned (OpenSpec.upto graphOrderSpec)

end Rows
end Go.Proofs.Ytbffhdlfplgccaa
