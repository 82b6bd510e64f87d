/-
  No cell of these rows narrows 'for every input' (looked for: loops, veiled, ifaces, maps, wideKeys, modest, calm, conditions, laid).
  DERIVED. THE GIVEN ROWS OF THIS SEAT. 12 by the template 'for every input the law returns true; each argument reads behind the call as it read before'; 0 by the template 'total and deterministic' (their statements: YtannngcdphafdaaTotals.lean).
  GIVEN WITH THE SEED: the statements are not yours to turn. If you find one false, say at which input.
  Laid BY PROGRAM, IN A SANDBOX (cutbox-rows.mjs): the forced cells as the released guide's own fill.sh prints them over the translation 069f5fad7dc12a7d… (all of the seat's roots in one cut). By AI agents, Wed Nov 11 2026. No macro, syntax, notation, axiom, sorry.
-/
import Derived.Test.YtannngcdphafdaaChecked
import GoSem.Claim
import GoSem.ClaimJoined
import GoSem.ClaimMapViews
import Derived.JoinedTies
import Derived.KernelRfl
namespace Go.Proofs.Ytannngcdphafdaa
/- THE CELL 'sum', in the pinned program and in every row, IS THE sha256 OF THE DUMP (.gsa) THAT YtannngcdphafdaaProg.lean LOADS. Nothing in Lean hashes anything: it is a label: what it is worth is what the hold of that sum in a sandbox is worth. -/
noncomputable def Try.pinned : Pinned := { name := "ytannngcdphafdaa", sum := "069f5fad7dc12a7d2e0f7b4b247c7497adb886e09713f0b68b878ac186600e04", checked := Try.checked }
namespace Rows
def none {H : Type} : Left H := { results := [], args := [] }

/-- 'syndiclaw14.ExchSelf': WHATEVER THE INPUT: true; the input reads as it did. -/
def exchSelfSpec : ChangeSpec := { name := "exchSelf", fn := fun _ => fun
  | [d1, d2, d3] => { results := [.lit (.bool true)], args := [d1, d2, d3] }
  | _ => none }
def exchSelfRow : OpenClaim := { program := "ytannngcdphafdaa", sum := "069f5fad7dc12a7d2e0f7b4b247c7497adb886e09713f0b68b878ac186600e04", func := "syndic/syndiclaw14.ExchSelf", spec := "exchSelf", unfollowed := true, recurses := true, plainKeys := false, apart := false }
def ExchSelfSaid : Prop := exchSelfRow.holds Try.pinned (OpenSpec.ofChange exchSelfSpec)

/-- ITS FALSE NEIGHBOUR: 'it returns false'. Refute it at one input. -/
def exchSelfWrong : ChangeSpec := { name := "exchSelf", fn := fun _ => fun
  | [d1, d2, d3] => { results := [.lit (.bool false)], args := [d1, d2, d3] }
  | _ => none }
def ExchSelfWrongFalsely : Prop := exchSelfRow.holds Try.pinned (OpenSpec.ofChange exchSelfWrong)

/-- 'syndiclaw14.ExchNil': WHATEVER THE INPUT: true; the input reads as it did. -/
def exchNilSpec : ChangeSpec := { name := "exchNil", fn := fun _ => fun
  | [d] => { results := [.lit (.bool true)], args := [d] }
  | _ => none }
def exchNilRow : OpenClaim := { program := "ytannngcdphafdaa", sum := "069f5fad7dc12a7d2e0f7b4b247c7497adb886e09713f0b68b878ac186600e04", func := "syndic/syndiclaw14.ExchNil", spec := "exchNil", unfollowed := true, recurses := true, plainKeys := false, apart := false }
def ExchNilSaid : Prop := exchNilRow.holds Try.pinned (OpenSpec.ofChange exchNilSpec)

/-- ITS FALSE NEIGHBOUR: 'it returns false'. Refute it at one input. -/
def exchNilWrong : ChangeSpec := { name := "exchNil", fn := fun _ => fun
  | [d] => { results := [.lit (.bool false)], args := [d] }
  | _ => none }
def ExchNilWrongFalsely : Prop := exchNilRow.holds Try.pinned (OpenSpec.ofChange exchNilWrong)

/-- 'syndiclaw14.ExchHears': WHATEVER THE INPUT: true; the input reads as it did. -/
def exchHearsSpec : ChangeSpec := { name := "exchHears", fn := fun _ => fun
  | [d1, d2, d3] => { results := [.lit (.bool true)], args := [d1, d2, d3] }
  | _ => none }
def exchHearsRow : OpenClaim := { program := "ytannngcdphafdaa", sum := "069f5fad7dc12a7d2e0f7b4b247c7497adb886e09713f0b68b878ac186600e04", func := "syndic/syndiclaw14.ExchHears", spec := "exchHears", unfollowed := true, recurses := true, plainKeys := false, apart := false }
def ExchHearsSaid : Prop := exchHearsRow.holds Try.pinned (OpenSpec.ofChange exchHearsSpec)

/-- ITS FALSE NEIGHBOUR: 'it returns false'. Refute it at one input. -/
def exchHearsWrong : ChangeSpec := { name := "exchHears", fn := fun _ => fun
  | [d1, d2, d3] => { results := [.lit (.bool false)], args := [d1, d2, d3] }
  | _ => none }
def ExchHearsWrongFalsely : Prop := exchHearsRow.holds Try.pinned (OpenSpec.ofChange exchHearsWrong)

/-- 'syndiclaw14.ExchAnyOrder': WHATEVER THE INPUT: true; the input reads as it did. -/
def exchAnyOrderSpec : ChangeSpec := { name := "exchAnyOrder", fn := fun _ => fun
  | [d1, d2, d3] => { results := [.lit (.bool true)], args := [d1, d2, d3] }
  | _ => none }
def exchAnyOrderRow : OpenClaim := { program := "ytannngcdphafdaa", sum := "069f5fad7dc12a7d2e0f7b4b247c7497adb886e09713f0b68b878ac186600e04", func := "syndic/syndiclaw14.ExchAnyOrder", spec := "exchAnyOrder", unfollowed := true, recurses := true, plainKeys := false, apart := false }
def ExchAnyOrderSaid : Prop := exchAnyOrderRow.holds Try.pinned (OpenSpec.ofChange exchAnyOrderSpec)

/-- ITS FALSE NEIGHBOUR: 'it returns false'. Refute it at one input. -/
def exchAnyOrderWrong : ChangeSpec := { name := "exchAnyOrder", fn := fun _ => fun
  | [d1, d2, d3] => { results := [.lit (.bool false)], args := [d1, d2, d3] }
  | _ => none }
def ExchAnyOrderWrongFalsely : Prop := exchAnyOrderRow.holds Try.pinned (OpenSpec.ofChange exchAnyOrderWrong)

/-- 'syndiclaw14.ExchEnds': WHATEVER THE INPUT: true; the input reads as it did. -/
def exchEndsSpec : ChangeSpec := { name := "exchEnds", fn := fun _ => fun
  | [d1, d2, d3] => { results := [.lit (.bool true)], args := [d1, d2, d3] }
  | _ => none }
def exchEndsRow : OpenClaim := { program := "ytannngcdphafdaa", sum := "069f5fad7dc12a7d2e0f7b4b247c7497adb886e09713f0b68b878ac186600e04", func := "syndic/syndiclaw14.ExchEnds", spec := "exchEnds", unfollowed := true, recurses := true, plainKeys := false, apart := false }
def ExchEndsSaid : Prop := exchEndsRow.holds Try.pinned (OpenSpec.ofChange exchEndsSpec)

/-- ITS FALSE NEIGHBOUR: 'it returns false'. Refute it at one input. -/
def exchEndsWrong : ChangeSpec := { name := "exchEnds", fn := fun _ => fun
  | [d1, d2, d3] => { results := [.lit (.bool false)], args := [d1, d2, d3] }
  | _ => none }
def ExchEndsWrongFalsely : Prop := exchEndsRow.holds Try.pinned (OpenSpec.ofChange exchEndsWrong)

/-- 'syndiclaw15.WantsNil': WHATEVER THE INPUT: true; the input reads as it did. -/
def wantsNilSpec : ChangeSpec := { name := "wantsNil", fn := fun _ => fun
  | [d] => { results := [.lit (.bool true)], args := [d] }
  | _ => none }
def wantsNilRow : OpenClaim := { program := "ytannngcdphafdaa", sum := "069f5fad7dc12a7d2e0f7b4b247c7497adb886e09713f0b68b878ac186600e04", func := "syndic/syndiclaw15.WantsNil", spec := "wantsNil", unfollowed := true, recurses := true, plainKeys := false, apart := false }
def WantsNilSaid : Prop := wantsNilRow.holds Try.pinned (OpenSpec.ofChange wantsNilSpec)

/-- ITS FALSE NEIGHBOUR: 'it returns false'. Refute it at one input. -/
def wantsNilWrong : ChangeSpec := { name := "wantsNil", fn := fun _ => fun
  | [d] => { results := [.lit (.bool false)], args := [d] }
  | _ => none }
def WantsNilWrongFalsely : Prop := wantsNilRow.holds Try.pinned (OpenSpec.ofChange wantsNilWrong)

/-- 'syndiclaw15.WantsActs': WHATEVER THE INPUT: true; the input reads as it did. -/
def wantsActsSpec : ChangeSpec := { name := "wantsActs", fn := fun _ => fun
  | [d] => { results := [.lit (.bool true)], args := [d] }
  | _ => none }
def wantsActsRow : OpenClaim := { program := "ytannngcdphafdaa", sum := "069f5fad7dc12a7d2e0f7b4b247c7497adb886e09713f0b68b878ac186600e04", func := "syndic/syndiclaw15.WantsActs", spec := "wantsActs", unfollowed := true, recurses := true, plainKeys := false, apart := false }
def WantsActsSaid : Prop := wantsActsRow.holds Try.pinned (OpenSpec.ofChange wantsActsSpec)

/-- ITS FALSE NEIGHBOUR: 'it returns false'. Refute it at one input. -/
def wantsActsWrong : ChangeSpec := { name := "wantsActs", fn := fun _ => fun
  | [d] => { results := [.lit (.bool false)], args := [d] }
  | _ => none }
def WantsActsWrongFalsely : Prop := wantsActsRow.holds Try.pinned (OpenSpec.ofChange wantsActsWrong)

/-- 'syndiclaw15.WantsNewer': WHATEVER THE INPUT: true; the input reads as it did. -/
def wantsNewerSpec : ChangeSpec := { name := "wantsNewer", fn := fun _ => fun
  | [d1, d2, d3] => { results := [.lit (.bool true)], args := [d1, d2, d3] }
  | _ => none }
def wantsNewerRow : OpenClaim := { program := "ytannngcdphafdaa", sum := "069f5fad7dc12a7d2e0f7b4b247c7497adb886e09713f0b68b878ac186600e04", func := "syndic/syndiclaw15.WantsNewer", spec := "wantsNewer", unfollowed := true, recurses := true, plainKeys := false, apart := false }
def WantsNewerSaid : Prop := wantsNewerRow.holds Try.pinned (OpenSpec.ofChange wantsNewerSpec)

/-- ITS FALSE NEIGHBOUR: 'it returns false'. Refute it at one input. -/
def wantsNewerWrong : ChangeSpec := { name := "wantsNewer", fn := fun _ => fun
  | [d1, d2, d3] => { results := [.lit (.bool false)], args := [d1, d2, d3] }
  | _ => none }
def WantsNewerWrongFalsely : Prop := wantsNewerRow.holds Try.pinned (OpenSpec.ofChange wantsNewerWrong)

/-- 'syndiclaw13.SummNil': WHATEVER THE INPUT: true; the input reads as it did. -/
def summNilSpec : ChangeSpec := { name := "summNil", fn := fun _ => fun
  | [d] => { results := [.lit (.bool true)], args := [d] }
  | _ => none }
def summNilRow : OpenClaim := { program := "ytannngcdphafdaa", sum := "069f5fad7dc12a7d2e0f7b4b247c7497adb886e09713f0b68b878ac186600e04", func := "syndic/syndiclaw13.SummNil", spec := "summNil", unfollowed := true, recurses := true, plainKeys := false, apart := false }
def SummNilSaid : Prop := summNilRow.holds Try.pinned (OpenSpec.ofChange summNilSpec)

/-- ITS FALSE NEIGHBOUR: 'it returns false'. Refute it at one input. -/
def summNilWrong : ChangeSpec := { name := "summNil", fn := fun _ => fun
  | [d] => { results := [.lit (.bool false)], args := [d] }
  | _ => none }
def SummNilWrongFalsely : Prop := summNilRow.holds Try.pinned (OpenSpec.ofChange summNilWrong)

/-- 'syndiclaw13.SummTells': WHATEVER THE INPUT: true; the input reads as it did. -/
def summTellsSpec : ChangeSpec := { name := "summTells", fn := fun _ => fun
  | [d] => { results := [.lit (.bool true)], args := [d] }
  | _ => none }
def summTellsRow : OpenClaim := { program := "ytannngcdphafdaa", sum := "069f5fad7dc12a7d2e0f7b4b247c7497adb886e09713f0b68b878ac186600e04", func := "syndic/syndiclaw13.SummTells", spec := "summTells", unfollowed := true, recurses := true, plainKeys := false, apart := false }
def SummTellsSaid : Prop := summTellsRow.holds Try.pinned (OpenSpec.ofChange summTellsSpec)

/-- ITS FALSE NEIGHBOUR: 'it returns false'. Refute it at one input. -/
def summTellsWrong : ChangeSpec := { name := "summTells", fn := fun _ => fun
  | [d] => { results := [.lit (.bool false)], args := [d] }
  | _ => none }
def SummTellsWrongFalsely : Prop := summTellsRow.holds Try.pinned (OpenSpec.ofChange summTellsWrong)

/-- 'syndiclaw20.GraphOut': WHATEVER THE INPUT: true; the input reads as it did. -/
def graphOutSpec : ChangeSpec := { name := "graphOut", fn := fun _ => fun
  | [d1, d2] => { results := [.lit (.bool true)], args := [d1, d2] }
  | _ => none }
def graphOutRow : OpenClaim := { program := "ytannngcdphafdaa", sum := "069f5fad7dc12a7d2e0f7b4b247c7497adb886e09713f0b68b878ac186600e04", func := "syndic/syndiclaw20.GraphOut", spec := "graphOut", unfollowed := true, recurses := true, plainKeys := false, apart := false }
def GraphOutSaid : Prop := graphOutRow.holds Try.pinned (OpenSpec.ofChange graphOutSpec)

/-- ITS FALSE NEIGHBOUR: 'it returns false'. Refute it at one input. -/
def graphOutWrong : ChangeSpec := { name := "graphOut", fn := fun _ => fun
  | [d1, d2] => { results := [.lit (.bool false)], args := [d1, d2] }
  | _ => none }
def GraphOutWrongFalsely : Prop := graphOutRow.holds Try.pinned (OpenSpec.ofChange graphOutWrong)

/-- 'syndiclaw20.GraphCounts': WHATEVER THE INPUT: true; the input reads as it did. -/
def graphCountsSpec : ChangeSpec := { name := "graphCounts", fn := fun _ => fun
  | [d] => { results := [.lit (.bool true)], args := [d] }
  | _ => none }
def graphCountsRow : OpenClaim := { program := "ytannngcdphafdaa", sum := "069f5fad7dc12a7d2e0f7b4b247c7497adb886e09713f0b68b878ac186600e04", func := "syndic/syndiclaw20.GraphCounts", spec := "graphCounts", unfollowed := true, recurses := true, plainKeys := false, apart := false }
def GraphCountsSaid : Prop := graphCountsRow.holds Try.pinned (OpenSpec.ofChange graphCountsSpec)

/-- ITS FALSE NEIGHBOUR: 'it returns false'. Refute it at one input. -/
def graphCountsWrong : ChangeSpec := { name := "graphCounts", fn := fun _ => fun
  | [d] => { results := [.lit (.bool false)], args := [d] }
  | _ => none }
def GraphCountsWrongFalsely : Prop := graphCountsRow.holds Try.pinned (OpenSpec.ofChange graphCountsWrong)

/- THE SECOND FORM. 'bulk': how many values and letters a reading holds, each counted each time it is reached (what is shared counts as often as it is met; a slice's spare places count too). A statement '..UptoSaid' is the law's where the arguments, and the package variables that the reading takes, are together of bulk at most 1048576: NARROWER than '..Said'. Prove '..Said' where nothing that the law and all that it calls make is longer than what came in: it says more and counts as full. Else prove '..UptoSaid'. A law counts once. -/
mutual
def uptoBulk {H : Type} : DataW H → Nat
  | .lit (.string bytes) => bytes.length + 1
  | .lit _ => 1
  | .nil => 1
  | .ptr d => uptoBulk d + 1
  | .slice elems spare => uptoBulkAll elems + uptoBulkAll spare + 1
  | .agg parts => uptoBulkAll parts + 1
  | .iface _ d => uptoBulk d + 1
  | .map entries => uptoBulkEntries entries + 1
  | .held _ => 1
def uptoBulkAll {H : Type} : List (DataW H) → Nat
  | [] => 0
  | d :: r => uptoBulk d + uptoBulkAll r
def uptoBulkEntries {H : Type} : List (Lit × DataW H) → Nat
  | [] => 0
  | x :: r => uptoBulkEntry x + uptoBulkEntries r
def uptoBulkEntry {H : Type} : Lit × DataW H → Nat
  | (.string bytes, d) => bytes.length + uptoBulk d + 1
  | (_, d) => uptoBulk d + 1
 end
def uptoSmall : (H : Type) → List (DataW H) → Bool := fun _ ds => decide (uptoBulkAll ds ≤ 1048576)
def OpenSpec.upto (s : _root_.Go.ChangeSpec) : _root_.Go.OpenSpec := { _root_.Go.OpenSpec.ofChange s with cond := some uptoSmall }

/-- 'syndiclaw14.ExchSelf', WHERE WHAT IT READS IS OF BULK AT MOST 1048576: true; the input reads as it did. -/
def exchSelfUptoRow : OpenClaim := { program := "ytannngcdphafdaa", sum := "069f5fad7dc12a7d2e0f7b4b247c7497adb886e09713f0b68b878ac186600e04", func := "syndic/syndiclaw14.ExchSelf", spec := "exchSelf", unfollowed := true, recurses := true, plainKeys := false, apart := false, narrowed := true }
def ExchSelfUptoSaid : Prop := exchSelfUptoRow.holds Try.pinned (OpenSpec.upto exchSelfSpec)

/-- 'syndiclaw14.ExchNil', WHERE WHAT IT READS IS OF BULK AT MOST 1048576: true; the input reads as it did. -/
def exchNilUptoRow : OpenClaim := { program := "ytannngcdphafdaa", sum := "069f5fad7dc12a7d2e0f7b4b247c7497adb886e09713f0b68b878ac186600e04", func := "syndic/syndiclaw14.ExchNil", spec := "exchNil", unfollowed := true, recurses := true, plainKeys := false, apart := false, narrowed := true }
def ExchNilUptoSaid : Prop := exchNilUptoRow.holds Try.pinned (OpenSpec.upto exchNilSpec)

/-- 'syndiclaw14.ExchHears', WHERE WHAT IT READS IS OF BULK AT MOST 1048576: true; the input reads as it did. -/
def exchHearsUptoRow : OpenClaim := { program := "ytannngcdphafdaa", sum := "069f5fad7dc12a7d2e0f7b4b247c7497adb886e09713f0b68b878ac186600e04", func := "syndic/syndiclaw14.ExchHears", spec := "exchHears", unfollowed := true, recurses := true, plainKeys := false, apart := false, narrowed := true }
def ExchHearsUptoSaid : Prop := exchHearsUptoRow.holds Try.pinned (OpenSpec.upto exchHearsSpec)

/-- 'syndiclaw14.ExchAnyOrder', WHERE WHAT IT READS IS OF BULK AT MOST 1048576: true; the input reads as it did. -/
def exchAnyOrderUptoRow : OpenClaim := { program := "ytannngcdphafdaa", sum := "069f5fad7dc12a7d2e0f7b4b247c7497adb886e09713f0b68b878ac186600e04", func := "syndic/syndiclaw14.ExchAnyOrder", spec := "exchAnyOrder", unfollowed := true, recurses := true, plainKeys := false, apart := false, narrowed := true }
def ExchAnyOrderUptoSaid : Prop := exchAnyOrderUptoRow.holds Try.pinned (OpenSpec.upto exchAnyOrderSpec)

/-- 'syndiclaw14.ExchEnds', WHERE WHAT IT READS IS OF BULK AT MOST 1048576: true; the input reads as it did. -/
def exchEndsUptoRow : OpenClaim := { program := "ytannngcdphafdaa", sum := "069f5fad7dc12a7d2e0f7b4b247c7497adb886e09713f0b68b878ac186600e04", func := "syndic/syndiclaw14.ExchEnds", spec := "exchEnds", unfollowed := true, recurses := true, plainKeys := false, apart := false, narrowed := true }
def ExchEndsUptoSaid : Prop := exchEndsUptoRow.holds Try.pinned (OpenSpec.upto exchEndsSpec)

/-- 'syndiclaw15.WantsNil', WHERE WHAT IT READS IS OF BULK AT MOST 1048576: true; the input reads as it did. -/
def wantsNilUptoRow : OpenClaim := { program := "ytannngcdphafdaa", sum := "069f5fad7dc12a7d2e0f7b4b247c7497adb886e09713f0b68b878ac186600e04", func := "syndic/syndiclaw15.WantsNil", spec := "wantsNil", unfollowed := true, recurses := true, plainKeys := false, apart := false, narrowed := true }
def WantsNilUptoSaid : Prop := wantsNilUptoRow.holds Try.pinned (OpenSpec.upto wantsNilSpec)

/-- 'syndiclaw15.WantsActs', WHERE WHAT IT READS IS OF BULK AT MOST 1048576: true; the input reads as it did. -/
def wantsActsUptoRow : OpenClaim := { program := "ytannngcdphafdaa", sum := "069f5fad7dc12a7d2e0f7b4b247c7497adb886e09713f0b68b878ac186600e04", func := "syndic/syndiclaw15.WantsActs", spec := "wantsActs", unfollowed := true, recurses := true, plainKeys := false, apart := false, narrowed := true }
def WantsActsUptoSaid : Prop := wantsActsUptoRow.holds Try.pinned (OpenSpec.upto wantsActsSpec)

/-- 'syndiclaw15.WantsNewer', WHERE WHAT IT READS IS OF BULK AT MOST 1048576: true; the input reads as it did. -/
def wantsNewerUptoRow : OpenClaim := { program := "ytannngcdphafdaa", sum := "069f5fad7dc12a7d2e0f7b4b247c7497adb886e09713f0b68b878ac186600e04", func := "syndic/syndiclaw15.WantsNewer", spec := "wantsNewer", unfollowed := true, recurses := true, plainKeys := false, apart := false, narrowed := true }
def WantsNewerUptoSaid : Prop := wantsNewerUptoRow.holds Try.pinned (OpenSpec.upto wantsNewerSpec)

/-- 'syndiclaw13.SummNil', WHERE WHAT IT READS IS OF BULK AT MOST 1048576: true; the input reads as it did. -/
def summNilUptoRow : OpenClaim := { program := "ytannngcdphafdaa", sum := "069f5fad7dc12a7d2e0f7b4b247c7497adb886e09713f0b68b878ac186600e04", func := "syndic/syndiclaw13.SummNil", spec := "summNil", unfollowed := true, recurses := true, plainKeys := false, apart := false, narrowed := true }
def SummNilUptoSaid : Prop := summNilUptoRow.holds Try.pinned (OpenSpec.upto summNilSpec)

/-- 'syndiclaw13.SummTells', WHERE WHAT IT READS IS OF BULK AT MOST 1048576: true; the input reads as it did. -/
def summTellsUptoRow : OpenClaim := { program := "ytannngcdphafdaa", sum := "069f5fad7dc12a7d2e0f7b4b247c7497adb886e09713f0b68b878ac186600e04", func := "syndic/syndiclaw13.SummTells", spec := "summTells", unfollowed := true, recurses := true, plainKeys := false, apart := false, narrowed := true }
def SummTellsUptoSaid : Prop := summTellsUptoRow.holds Try.pinned (OpenSpec.upto summTellsSpec)

/-- 'syndiclaw20.GraphOut', WHERE WHAT IT READS IS OF BULK AT MOST 1048576: true; the input reads as it did. -/
def graphOutUptoRow : OpenClaim := { program := "ytannngcdphafdaa", sum := "069f5fad7dc12a7d2e0f7b4b247c7497adb886e09713f0b68b878ac186600e04", func := "syndic/syndiclaw20.GraphOut", spec := "graphOut", unfollowed := true, recurses := true, plainKeys := false, apart := false, narrowed := true }
def GraphOutUptoSaid : Prop := graphOutUptoRow.holds Try.pinned (OpenSpec.upto graphOutSpec)

/-- 'syndiclaw20.GraphCounts', WHERE WHAT IT READS IS OF BULK AT MOST 1048576: true; the input reads as it did. -/
def graphCountsUptoRow : OpenClaim := { program := "ytannngcdphafdaa", sum := "069f5fad7dc12a7d2e0f7b4b247c7497adb886e09713f0b68b878ac186600e04", func := "syndic/syndiclaw20.GraphCounts", spec := "graphCounts", unfollowed := true, recurses := true, plainKeys := false, apart := false, narrowed := true }
def GraphCountsUptoSaid : Prop := graphCountsUptoRow.holds Try.pinned (OpenSpec.upto graphCountsSpec)

end Rows
end Go.Proofs.Ytannngcdphafdaa
