/-
  No cell of these rows narrows 'for every input' (looked for: loops, veiled, ifaces, maps, wideKeys, modest, calm, conditions, laid).
  DERIVED. THE GIVEN ROWS OF THIS SEAT. 11 by the template 'for every input the law returns true; each argument reads behind the call as it read before'; 0 by the template 'total and deterministic' (their statements: YtmjjmkdjjfmhhaaTotals.lean).
  GIVEN WITH THE SEED: the statements are not yours to turn. If you find one false, say at which input.
  Laid BY PROGRAM, IN A SANDBOX (cutbox-rows.mjs): the forced cells as the released guide's own fill.sh prints them over the translation e4f6e8a1e9a9db54… (all of the seat's roots in one cut). By AI agents, Wed Nov 11 2026. No macro, syntax, notation, axiom, sorry.
-/
import Derived.Test.YtmjjmkdjjfmhhaaChecked
import GoSem.Claim
import GoSem.ClaimJoined
import GoSem.ClaimMapViews
import Derived.JoinedTies
import Derived.KernelRfl
namespace Go.Proofs.Ytmjjmkdjjfmhhaa
/- THE CELL 'sum', in the pinned program and in every row, IS THE sha256 OF THE DUMP (.gsa) THAT YtmjjmkdjjfmhhaaProg.lean LOADS. Nothing in Lean hashes anything: it is a label: what it is worth is what the hold of that sum in a sandbox is worth. -/
noncomputable def Try.pinned : Pinned := { name := "ytmjjmkdjjfmhhaa", sum := "e4f6e8a1e9a9db54e62a9db33cd831dea8f9e69fd3893f06bcee521c798a409c", checked := Try.checked }
namespace Rows
def none {H : Type} : Left H := { results := [], args := [] }

/-- 'syndiclaw18.FloodTwice': WHATEVER THE INPUT: true; the input reads as it did. -/
def floodTwiceSpec : ChangeSpec := { name := "floodTwice", fn := fun _ => fun
  | [d1, d2] => { results := [.lit (.bool true)], args := [d1, d2] }
  | _ => none }
def floodTwiceRow : OpenClaim := { program := "ytmjjmkdjjfmhhaa", sum := "e4f6e8a1e9a9db54e62a9db33cd831dea8f9e69fd3893f06bcee521c798a409c", func := "syndic/syndiclaw18.FloodTwice", spec := "floodTwice", plainKeys := false, apart := false }
def FloodTwiceSaid : Prop := floodTwiceRow.holds Try.pinned (OpenSpec.ofChange floodTwiceSpec)

/-- ITS FALSE NEIGHBOUR: 'it returns false'. Refute it at one input. -/
def floodTwiceWrong : ChangeSpec := { name := "floodTwice", fn := fun _ => fun
  | [d1, d2] => { results := [.lit (.bool false)], args := [d1, d2] }
  | _ => none }
def FloodTwiceWrongFalsely : Prop := floodTwiceRow.holds Try.pinned (OpenSpec.ofChange floodTwiceWrong)

/-- 'syndiclaw18.FloodKeeps': WHATEVER THE INPUT: true; the input reads as it did. -/
def floodKeepsSpec : ChangeSpec := { name := "floodKeeps", fn := fun _ => fun
  | [d1, d2] => { results := [.lit (.bool true)], args := [d1, d2] }
  | _ => none }
def floodKeepsRow : OpenClaim := { program := "ytmjjmkdjjfmhhaa", sum := "e4f6e8a1e9a9db54e62a9db33cd831dea8f9e69fd3893f06bcee521c798a409c", func := "syndic/syndiclaw18.FloodKeeps", spec := "floodKeeps", plainKeys := false, apart := false }
def FloodKeepsSaid : Prop := floodKeepsRow.holds Try.pinned (OpenSpec.ofChange floodKeepsSpec)

/-- ITS FALSE NEIGHBOUR: 'it returns false'. Refute it at one input. -/
def floodKeepsWrong : ChangeSpec := { name := "floodKeeps", fn := fun _ => fun
  | [d1, d2] => { results := [.lit (.bool false)], args := [d1, d2] }
  | _ => none }
def FloodKeepsWrongFalsely : Prop := floodKeepsRow.holds Try.pinned (OpenSpec.ofChange floodKeepsWrong)

/-- 'syndiclaw18.FloodTakes': WHATEVER THE INPUT: true; the input reads as it did. -/
def floodTakesSpec : ChangeSpec := { name := "floodTakes", fn := fun _ => fun
  | [d1, d2, d3] => { results := [.lit (.bool true)], args := [d1, d2, d3] }
  | _ => none }
def floodTakesRow : OpenClaim := { program := "ytmjjmkdjjfmhhaa", sum := "e4f6e8a1e9a9db54e62a9db33cd831dea8f9e69fd3893f06bcee521c798a409c", func := "syndic/syndiclaw18.FloodTakes", spec := "floodTakes", unfollowed := true, recurses := true, plainKeys := false, apart := false }
def FloodTakesSaid : Prop := floodTakesRow.holds Try.pinned (OpenSpec.ofChange floodTakesSpec)

/-- ITS FALSE NEIGHBOUR: 'it returns false'. Refute it at one input. -/
def floodTakesWrong : ChangeSpec := { name := "floodTakes", fn := fun _ => fun
  | [d1, d2, d3] => { results := [.lit (.bool false)], args := [d1, d2, d3] }
  | _ => none }
def FloodTakesWrongFalsely : Prop := floodTakesRow.holds Try.pinned (OpenSpec.ofChange floodTakesWrong)

/-- 'syndiclaw15.WantsNewer': WHATEVER THE INPUT: true; the input reads as it did. -/
def wantsNewerSpec : ChangeSpec := { name := "wantsNewer", fn := fun _ => fun
  | [d1, d2, d3] => { results := [.lit (.bool true)], args := [d1, d2, d3] }
  | _ => none }
def wantsNewerRow : OpenClaim := { program := "ytmjjmkdjjfmhhaa", sum := "e4f6e8a1e9a9db54e62a9db33cd831dea8f9e69fd3893f06bcee521c798a409c", func := "syndic/syndiclaw15.WantsNewer", spec := "wantsNewer", unfollowed := true, recurses := true, plainKeys := false, apart := false }
def WantsNewerSaid : Prop := wantsNewerRow.holds Try.pinned (OpenSpec.ofChange wantsNewerSpec)

/-- ITS FALSE NEIGHBOUR: 'it returns false'. Refute it at one input. -/
def wantsNewerWrong : ChangeSpec := { name := "wantsNewer", fn := fun _ => fun
  | [d1, d2, d3] => { results := [.lit (.bool false)], args := [d1, d2, d3] }
  | _ => none }
def WantsNewerWrongFalsely : Prop := wantsNewerRow.holds Try.pinned (OpenSpec.ofChange wantsNewerWrong)

/-- 'syndiclaw15.WantsAnswer': WHATEVER THE INPUT: true; the input reads as it did. -/
def wantsAnswerSpec : ChangeSpec := { name := "wantsAnswer", fn := fun _ => fun
  | [d1, d2] => { results := [.lit (.bool true)], args := [d1, d2] }
  | _ => none }
def wantsAnswerRow : OpenClaim := { program := "ytmjjmkdjjfmhhaa", sum := "e4f6e8a1e9a9db54e62a9db33cd831dea8f9e69fd3893f06bcee521c798a409c", func := "syndic/syndiclaw15.WantsAnswer", spec := "wantsAnswer", unfollowed := true, recurses := true, plainKeys := false, apart := false }
def WantsAnswerSaid : Prop := wantsAnswerRow.holds Try.pinned (OpenSpec.ofChange wantsAnswerSpec)

/-- ITS FALSE NEIGHBOUR: 'it returns false'. Refute it at one input. -/
def wantsAnswerWrong : ChangeSpec := { name := "wantsAnswer", fn := fun _ => fun
  | [d1, d2] => { results := [.lit (.bool false)], args := [d1, d2] }
  | _ => none }
def WantsAnswerWrongFalsely : Prop := wantsAnswerRow.holds Try.pinned (OpenSpec.ofChange wantsAnswerWrong)

/-- 'syndiclaw15.WantsLoad': WHATEVER THE INPUT: true; the input reads as it did. -/
def wantsLoadSpec : ChangeSpec := { name := "wantsLoad", fn := fun _ => fun
  | [d1, d2] => { results := [.lit (.bool true)], args := [d1, d2] }
  | _ => none }
def wantsLoadRow : OpenClaim := { program := "ytmjjmkdjjfmhhaa", sum := "e4f6e8a1e9a9db54e62a9db33cd831dea8f9e69fd3893f06bcee521c798a409c", func := "syndic/syndiclaw15.WantsLoad", spec := "wantsLoad", unfollowed := true, recurses := true, plainKeys := false, apart := false }
def WantsLoadSaid : Prop := wantsLoadRow.holds Try.pinned (OpenSpec.ofChange wantsLoadSpec)

/-- ITS FALSE NEIGHBOUR: 'it returns false'. Refute it at one input. -/
def wantsLoadWrong : ChangeSpec := { name := "wantsLoad", fn := fun _ => fun
  | [d1, d2] => { results := [.lit (.bool false)], args := [d1, d2] }
  | _ => none }
def WantsLoadWrongFalsely : Prop := wantsLoadRow.holds Try.pinned (OpenSpec.ofChange wantsLoadWrong)

/-- 'syndiclaw13.SummLacks': WHATEVER THE INPUT: true; the input reads as it did. -/
def summLacksSpec : ChangeSpec := { name := "summLacks", fn := fun _ => fun
  | [d1, d2] => { results := [.lit (.bool true)], args := [d1, d2] }
  | _ => none }
def summLacksRow : OpenClaim := { program := "ytmjjmkdjjfmhhaa", sum := "e4f6e8a1e9a9db54e62a9db33cd831dea8f9e69fd3893f06bcee521c798a409c", func := "syndic/syndiclaw13.SummLacks", spec := "summLacks", unfollowed := true, recurses := true, plainKeys := false, apart := false }
def SummLacksSaid : Prop := summLacksRow.holds Try.pinned (OpenSpec.ofChange summLacksSpec)

/-- ITS FALSE NEIGHBOUR: 'it returns false'. Refute it at one input. -/
def summLacksWrong : ChangeSpec := { name := "summLacks", fn := fun _ => fun
  | [d1, d2] => { results := [.lit (.bool false)], args := [d1, d2] }
  | _ => none }
def SummLacksWrongFalsely : Prop := summLacksRow.holds Try.pinned (OpenSpec.ofChange summLacksWrong)

/-- 'syndiclaw13.SummNil': WHATEVER THE INPUT: true; the input reads as it did. -/
def summNilSpec : ChangeSpec := { name := "summNil", fn := fun _ => fun
  | [d] => { results := [.lit (.bool true)], args := [d] }
  | _ => none }
def summNilRow : OpenClaim := { program := "ytmjjmkdjjfmhhaa", sum := "e4f6e8a1e9a9db54e62a9db33cd831dea8f9e69fd3893f06bcee521c798a409c", func := "syndic/syndiclaw13.SummNil", spec := "summNil", unfollowed := true, recurses := true, plainKeys := false, apart := false }
def SummNilSaid : Prop := summNilRow.holds Try.pinned (OpenSpec.ofChange summNilSpec)

/-- ITS FALSE NEIGHBOUR: 'it returns false'. Refute it at one input. -/
def summNilWrong : ChangeSpec := { name := "summNil", fn := fun _ => fun
  | [d] => { results := [.lit (.bool false)], args := [d] }
  | _ => none }
def SummNilWrongFalsely : Prop := summNilRow.holds Try.pinned (OpenSpec.ofChange summNilWrong)

/-- 'syndiclaw20.GraphCounts': WHATEVER THE INPUT: true; the input reads as it did. -/
def graphCountsSpec : ChangeSpec := { name := "graphCounts", fn := fun _ => fun
  | [d] => { results := [.lit (.bool true)], args := [d] }
  | _ => none }
def graphCountsRow : OpenClaim := { program := "ytmjjmkdjjfmhhaa", sum := "e4f6e8a1e9a9db54e62a9db33cd831dea8f9e69fd3893f06bcee521c798a409c", func := "syndic/syndiclaw20.GraphCounts", spec := "graphCounts", unfollowed := true, recurses := true, plainKeys := false, apart := false }
def GraphCountsSaid : Prop := graphCountsRow.holds Try.pinned (OpenSpec.ofChange graphCountsSpec)

/-- ITS FALSE NEIGHBOUR: 'it returns false'. Refute it at one input. -/
def graphCountsWrong : ChangeSpec := { name := "graphCounts", fn := fun _ => fun
  | [d] => { results := [.lit (.bool false)], args := [d] }
  | _ => none }
def GraphCountsWrongFalsely : Prop := graphCountsRow.holds Try.pinned (OpenSpec.ofChange graphCountsWrong)

/-- 'syndiclaw20.GraphOut': WHATEVER THE INPUT: true; the input reads as it did. -/
def graphOutSpec : ChangeSpec := { name := "graphOut", fn := fun _ => fun
  | [d1, d2] => { results := [.lit (.bool true)], args := [d1, d2] }
  | _ => none }
def graphOutRow : OpenClaim := { program := "ytmjjmkdjjfmhhaa", sum := "e4f6e8a1e9a9db54e62a9db33cd831dea8f9e69fd3893f06bcee521c798a409c", func := "syndic/syndiclaw20.GraphOut", spec := "graphOut", unfollowed := true, recurses := true, plainKeys := false, apart := false }
def GraphOutSaid : Prop := graphOutRow.holds Try.pinned (OpenSpec.ofChange graphOutSpec)

/-- ITS FALSE NEIGHBOUR: 'it returns false'. Refute it at one input. -/
def graphOutWrong : ChangeSpec := { name := "graphOut", fn := fun _ => fun
  | [d1, d2] => { results := [.lit (.bool false)], args := [d1, d2] }
  | _ => none }
def GraphOutWrongFalsely : Prop := graphOutRow.holds Try.pinned (OpenSpec.ofChange graphOutWrong)

/-- 'syndiclaw20.GraphEdges': WHATEVER THE INPUT: true; the input reads as it did. -/
def graphEdgesSpec : ChangeSpec := { name := "graphEdges", fn := fun _ => fun
  | [d] => { results := [.lit (.bool true)], args := [d] }
  | _ => none }
def graphEdgesRow : OpenClaim := { program := "ytmjjmkdjjfmhhaa", sum := "e4f6e8a1e9a9db54e62a9db33cd831dea8f9e69fd3893f06bcee521c798a409c", func := "syndic/syndiclaw20.GraphEdges", spec := "graphEdges", unfollowed := true, recurses := true, plainKeys := false, apart := false }
def GraphEdgesSaid : Prop := graphEdgesRow.holds Try.pinned (OpenSpec.ofChange graphEdgesSpec)

/-- ITS FALSE NEIGHBOUR: 'it returns false'. Refute it at one input. -/
def graphEdgesWrong : ChangeSpec := { name := "graphEdges", fn := fun _ => fun
  | [d] => { results := [.lit (.bool false)], args := [d] }
  | _ => none }
def GraphEdgesWrongFalsely : Prop := graphEdgesRow.holds Try.pinned (OpenSpec.ofChange graphEdgesWrong)

/- THE SECOND FORM. 'bulk': how many values and letters a reading holds, each counted each time it is reached (what is shared counts as often as it is met; a slice's spare places count too). A statement '..UptoSaid' is the law's where the arguments, and the package variables that the reading takes, are together of bulk at most 1048576: NARROWER than '..Said'. Prove '..Said' where nothing that the law and all that it calls make is longer than what came in: it says more and counts as full. Else prove '..UptoSaid'. A law counts once. -/
mutual
def uptoBulk {H : Type} : DataW H → Nat
  | .lit (.string bytes) => bytes.length + 1
  | .lit _ => 1
  | .nil => 1
  | .ptr d => uptoBulk d + 1
  | .slice elems spare => uptoBulkAll elems + uptoBulkAll spare + 1
  | .agg parts => uptoBulkAll parts + 1
  | .iface _ d => uptoBulk d + 1
  | .map entries => uptoBulkEntries entries + 1
  | .held _ => 1
def uptoBulkAll {H : Type} : List (DataW H) → Nat
  | [] => 0
  | d :: r => uptoBulk d + uptoBulkAll r
def uptoBulkEntries {H : Type} : List (Lit × DataW H) → Nat
  | [] => 0
  | x :: r => uptoBulkEntry x + uptoBulkEntries r
def uptoBulkEntry {H : Type} : Lit × DataW H → Nat
  | (.string bytes, d) => bytes.length + uptoBulk d + 1
  | (_, d) => uptoBulk d + 1
 end
def uptoSmall : (H : Type) → List (DataW H) → Bool := fun _ ds => decide (uptoBulkAll ds ≤ 1048576)
def OpenSpec.upto (s : _root_.Go.ChangeSpec) : _root_.Go.OpenSpec := { _root_.Go.OpenSpec.ofChange s with cond := some uptoSmall }

/-- 'syndiclaw18.FloodTwice', WHERE WHAT IT READS IS OF BULK AT MOST 1048576: true; the input reads as it did. -/
def floodTwiceUptoRow : OpenClaim := { program := "ytmjjmkdjjfmhhaa", sum := "e4f6e8a1e9a9db54e62a9db33cd831dea8f9e69fd3893f06bcee521c798a409c", func := "syndic/syndiclaw18.FloodTwice", spec := "floodTwice", plainKeys := false, apart := false, narrowed := true }
def FloodTwiceUptoSaid : Prop := floodTwiceUptoRow.holds Try.pinned (OpenSpec.upto floodTwiceSpec)

/-- 'syndiclaw18.FloodKeeps', WHERE WHAT IT READS IS OF BULK AT MOST 1048576: true; the input reads as it did. -/
def floodKeepsUptoRow : OpenClaim := { program := "ytmjjmkdjjfmhhaa", sum := "e4f6e8a1e9a9db54e62a9db33cd831dea8f9e69fd3893f06bcee521c798a409c", func := "syndic/syndiclaw18.FloodKeeps", spec := "floodKeeps", plainKeys := false, apart := false, narrowed := true }
def FloodKeepsUptoSaid : Prop := floodKeepsUptoRow.holds Try.pinned (OpenSpec.upto floodKeepsSpec)

/-- 'syndiclaw18.FloodTakes', WHERE WHAT IT READS IS OF BULK AT MOST 1048576: true; the input reads as it did. -/
def floodTakesUptoRow : OpenClaim := { program := "ytmjjmkdjjfmhhaa", sum := "e4f6e8a1e9a9db54e62a9db33cd831dea8f9e69fd3893f06bcee521c798a409c", func := "syndic/syndiclaw18.FloodTakes", spec := "floodTakes", unfollowed := true, recurses := true, plainKeys := false, apart := false, narrowed := true }
def FloodTakesUptoSaid : Prop := floodTakesUptoRow.holds Try.pinned (OpenSpec.upto floodTakesSpec)

/-- 'syndiclaw15.WantsNewer', WHERE WHAT IT READS IS OF BULK AT MOST 1048576: true; the input reads as it did. -/
def wantsNewerUptoRow : OpenClaim := { program := "ytmjjmkdjjfmhhaa", sum := "e4f6e8a1e9a9db54e62a9db33cd831dea8f9e69fd3893f06bcee521c798a409c", func := "syndic/syndiclaw15.WantsNewer", spec := "wantsNewer", unfollowed := true, recurses := true, plainKeys := false, apart := false, narrowed := true }
def WantsNewerUptoSaid : Prop := wantsNewerUptoRow.holds Try.pinned (OpenSpec.upto wantsNewerSpec)

/-- 'syndiclaw15.WantsAnswer', WHERE WHAT IT READS IS OF BULK AT MOST 1048576: true; the input reads as it did. -/
def wantsAnswerUptoRow : OpenClaim := { program := "ytmjjmkdjjfmhhaa", sum := "e4f6e8a1e9a9db54e62a9db33cd831dea8f9e69fd3893f06bcee521c798a409c", func := "syndic/syndiclaw15.WantsAnswer", spec := "wantsAnswer", unfollowed := true, recurses := true, plainKeys := false, apart := false, narrowed := true }
def WantsAnswerUptoSaid : Prop := wantsAnswerUptoRow.holds Try.pinned (OpenSpec.upto wantsAnswerSpec)

/-- 'syndiclaw15.WantsLoad', WHERE WHAT IT READS IS OF BULK AT MOST 1048576: true; the input reads as it did. -/
def wantsLoadUptoRow : OpenClaim := { program := "ytmjjmkdjjfmhhaa", sum := "e4f6e8a1e9a9db54e62a9db33cd831dea8f9e69fd3893f06bcee521c798a409c", func := "syndic/syndiclaw15.WantsLoad", spec := "wantsLoad", unfollowed := true, recurses := true, plainKeys := false, apart := false, narrowed := true }
def WantsLoadUptoSaid : Prop := wantsLoadUptoRow.holds Try.pinned (OpenSpec.upto wantsLoadSpec)

/-- 'syndiclaw13.SummLacks', WHERE WHAT IT READS IS OF BULK AT MOST 1048576: true; the input reads as it did. -/
def summLacksUptoRow : OpenClaim := { program := "ytmjjmkdjjfmhhaa", sum := "e4f6e8a1e9a9db54e62a9db33cd831dea8f9e69fd3893f06bcee521c798a409c", func := "syndic/syndiclaw13.SummLacks", spec := "summLacks", unfollowed := true, recurses := true, plainKeys := false, apart := false, narrowed := true }
def SummLacksUptoSaid : Prop := summLacksUptoRow.holds Try.pinned (OpenSpec.upto summLacksSpec)

/-- 'syndiclaw13.SummNil', WHERE WHAT IT READS IS OF BULK AT MOST 1048576: true; the input reads as it did. -/
def summNilUptoRow : OpenClaim := { program := "ytmjjmkdjjfmhhaa", sum := "e4f6e8a1e9a9db54e62a9db33cd831dea8f9e69fd3893f06bcee521c798a409c", func := "syndic/syndiclaw13.SummNil", spec := "summNil", unfollowed := true, recurses := true, plainKeys := false, apart := false, narrowed := true }
def SummNilUptoSaid : Prop := summNilUptoRow.holds Try.pinned (OpenSpec.upto summNilSpec)

/-- 'syndiclaw20.GraphCounts', WHERE WHAT IT READS IS OF BULK AT MOST 1048576: true; the input reads as it did. -/
def graphCountsUptoRow : OpenClaim := { program := "ytmjjmkdjjfmhhaa", sum := "e4f6e8a1e9a9db54e62a9db33cd831dea8f9e69fd3893f06bcee521c798a409c", func := "syndic/syndiclaw20.GraphCounts", spec := "graphCounts", unfollowed := true, recurses := true, plainKeys := false, apart := false, narrowed := true }
def GraphCountsUptoSaid : Prop := graphCountsUptoRow.holds Try.pinned (OpenSpec.upto graphCountsSpec)

/-- 'syndiclaw20.GraphOut', WHERE WHAT IT READS IS OF BULK AT MOST 1048576: true; the input reads as it did. -/
def graphOutUptoRow : OpenClaim := { program := "ytmjjmkdjjfmhhaa", sum := "e4f6e8a1e9a9db54e62a9db33cd831dea8f9e69fd3893f06bcee521c798a409c", func := "syndic/syndiclaw20.GraphOut", spec := "graphOut", unfollowed := true, recurses := true, plainKeys := false, apart := false, narrowed := true }
def GraphOutUptoSaid : Prop := graphOutUptoRow.holds Try.pinned (OpenSpec.upto graphOutSpec)

/-- 'syndiclaw20.GraphEdges', WHERE WHAT IT READS IS OF BULK AT MOST 1048576: true; the input reads as it did. -/
def graphEdgesUptoRow : OpenClaim := { program := "ytmjjmkdjjfmhhaa", sum := "e4f6e8a1e9a9db54e62a9db33cd831dea8f9e69fd3893f06bcee521c798a409c", func := "syndic/syndiclaw20.GraphEdges", spec := "graphEdges", unfollowed := true, recurses := true, plainKeys := false, apart := false, narrowed := true }
def GraphEdgesUptoSaid : Prop := graphEdgesUptoRow.holds Try.pinned (OpenSpec.upto graphEdgesSpec)

end Rows
end Go.Proofs.Ytmjjmkdjjfmhhaa
