/-
  No cell of these rows narrows 'for every input' (looked for: loops, veiled, ifaces, maps, wideKeys, modest, calm, conditions, laid).
  DERIVED. THE GIVEN ROWS OF THIS SEAT. 12 by the template 'for every input the law returns true; each argument reads behind the call as it read before'; 0 by the template 'total and deterministic' (their statements: YtfhikkmgclkcdaaTotals.lean).
  GIVEN WITH THE SEED: the statements are not yours to turn. If you find one false, say at which input.
  Laid BY PROGRAM, IN A SANDBOX (cutbox-rows.mjs): the forced cells as the released guide's own fill.sh prints them over the translation d1158ab1ce15d03c… (all of the seat's roots in one cut). By AI agents, Wed Nov 11 2026. No macro, syntax, notation, axiom, sorry.
-/
import Derived.Test.YtfhikkmgclkcdaaChecked
import GoSem.Claim
import GoSem.ClaimJoined
import GoSem.ClaimMapViews
import Derived.JoinedTies
import Derived.KernelRfl
namespace Go.Proofs.Ytfhikkmgclkcdaa
/- THE CELL 'sum', in the pinned program and in every row, IS THE sha256 OF THE DUMP (.gsa) THAT YtfhikkmgclkcdaaProg.lean LOADS. Nothing in Lean hashes anything: it is a label: what it is worth is what the hold of that sum in a sandbox is worth. -/
noncomputable def Try.pinned : Pinned := { name := "ytfhikkmgclkcdaa", sum := "d1158ab1ce15d03c74f82e0484da8422ae2a88c3bf717ac869ef67b568018d47", checked := Try.checked }
namespace Rows
def none {H : Type} : Left H := { results := [], args := [] }

/-- 'syndiclaw18.FloodLan': WHATEVER THE INPUT: true; the input reads as it did. -/
def floodLanSpec : ChangeSpec := { name := "floodLan", fn := fun _ => fun
  | [d1, d2, d3] => { results := [.lit (.bool true)], args := [d1, d2, d3] }
  | _ => none }
def floodLanRow : OpenClaim := { program := "ytfhikkmgclkcdaa", sum := "d1158ab1ce15d03c74f82e0484da8422ae2a88c3bf717ac869ef67b568018d47", func := "syndic/syndiclaw18.FloodLan", spec := "floodLan", plainKeys := false, apart := false }
def FloodLanSaid : Prop := floodLanRow.holds Try.pinned (OpenSpec.ofChange floodLanSpec)

/-- ITS FALSE NEIGHBOUR: 'it returns false'. Refute it at one input. -/
def floodLanWrong : ChangeSpec := { name := "floodLan", fn := fun _ => fun
  | [d1, d2, d3] => { results := [.lit (.bool false)], args := [d1, d2, d3] }
  | _ => none }
def FloodLanWrongFalsely : Prop := floodLanRow.holds Try.pinned (OpenSpec.ofChange floodLanWrong)

/-- 'syndiclaw27.AuditAgreed': WHATEVER THE INPUT: true; the input reads as it did. -/
def auditAgreedSpec : ChangeSpec := { name := "auditAgreed", fn := fun _ => fun
  | [d1, d2] => { results := [.lit (.bool true)], args := [d1, d2] }
  | _ => none }
def auditAgreedRow : OpenClaim := { program := "ytfhikkmgclkcdaa", sum := "d1158ab1ce15d03c74f82e0484da8422ae2a88c3bf717ac869ef67b568018d47", func := "syndic/syndiclaw27.AuditAgreed", spec := "auditAgreed", unfollowed := true, recurses := true, plainKeys := false, apart := false }
def AuditAgreedSaid : Prop := auditAgreedRow.holds Try.pinned (OpenSpec.ofChange auditAgreedSpec)

/-- ITS FALSE NEIGHBOUR: 'it returns false'. Refute it at one input. -/
def auditAgreedWrong : ChangeSpec := { name := "auditAgreed", fn := fun _ => fun
  | [d1, d2] => { results := [.lit (.bool false)], args := [d1, d2] }
  | _ => none }
def AuditAgreedWrongFalsely : Prop := auditAgreedRow.holds Try.pinned (OpenSpec.ofChange auditAgreedWrong)

/-- 'syndiclaw27.AuditOn': WHATEVER THE INPUT: true; the input reads as it did. -/
def auditOnSpec : ChangeSpec := { name := "auditOn", fn := fun _ => fun
  | [d1, d2] => { results := [.lit (.bool true)], args := [d1, d2] }
  | _ => none }
def auditOnRow : OpenClaim := { program := "ytfhikkmgclkcdaa", sum := "d1158ab1ce15d03c74f82e0484da8422ae2a88c3bf717ac869ef67b568018d47", func := "syndic/syndiclaw27.AuditOn", spec := "auditOn", unfollowed := true, recurses := true, plainKeys := false, apart := false }
def AuditOnSaid : Prop := auditOnRow.holds Try.pinned (OpenSpec.ofChange auditOnSpec)

/-- ITS FALSE NEIGHBOUR: 'it returns false'. Refute it at one input. -/
def auditOnWrong : ChangeSpec := { name := "auditOn", fn := fun _ => fun
  | [d1, d2] => { results := [.lit (.bool false)], args := [d1, d2] }
  | _ => none }
def AuditOnWrongFalsely : Prop := auditOnRow.holds Try.pinned (OpenSpec.ofChange auditOnWrong)

/-- 'syndiclaw27.AuditParts': WHATEVER THE INPUT: true; the input reads as it did. -/
def auditPartsSpec : ChangeSpec := { name := "auditParts", fn := fun _ => fun
  | [d] => { results := [.lit (.bool true)], args := [d] }
  | _ => none }
def auditPartsRow : OpenClaim := { program := "ytfhikkmgclkcdaa", sum := "d1158ab1ce15d03c74f82e0484da8422ae2a88c3bf717ac869ef67b568018d47", func := "syndic/syndiclaw27.AuditParts", spec := "auditParts", unfollowed := true, recurses := true, plainKeys := false, apart := false }
def AuditPartsSaid : Prop := auditPartsRow.holds Try.pinned (OpenSpec.ofChange auditPartsSpec)

/-- ITS FALSE NEIGHBOUR: 'it returns false'. Refute it at one input. -/
def auditPartsWrong : ChangeSpec := { name := "auditParts", fn := fun _ => fun
  | [d] => { results := [.lit (.bool false)], args := [d] }
  | _ => none }
def AuditPartsWrongFalsely : Prop := auditPartsRow.holds Try.pinned (OpenSpec.ofChange auditPartsWrong)

/-- 'syndiclaw18.FloodKeeps': WHATEVER THE INPUT: true; the input reads as it did. -/
def floodKeepsSpec : ChangeSpec := { name := "floodKeeps", fn := fun _ => fun
  | [d1, d2] => { results := [.lit (.bool true)], args := [d1, d2] }
  | _ => none }
def floodKeepsRow : OpenClaim := { program := "ytfhikkmgclkcdaa", sum := "d1158ab1ce15d03c74f82e0484da8422ae2a88c3bf717ac869ef67b568018d47", func := "syndic/syndiclaw18.FloodKeeps", spec := "floodKeeps", plainKeys := false, apart := false }
def FloodKeepsSaid : Prop := floodKeepsRow.holds Try.pinned (OpenSpec.ofChange floodKeepsSpec)

/-- ITS FALSE NEIGHBOUR: 'it returns false'. Refute it at one input. -/
def floodKeepsWrong : ChangeSpec := { name := "floodKeeps", fn := fun _ => fun
  | [d1, d2] => { results := [.lit (.bool false)], args := [d1, d2] }
  | _ => none }
def FloodKeepsWrongFalsely : Prop := floodKeepsRow.holds Try.pinned (OpenSpec.ofChange floodKeepsWrong)

/-- 'syndiclaw18.FloodTwice': WHATEVER THE INPUT: true; the input reads as it did. -/
def floodTwiceSpec : ChangeSpec := { name := "floodTwice", fn := fun _ => fun
  | [d1, d2] => { results := [.lit (.bool true)], args := [d1, d2] }
  | _ => none }
def floodTwiceRow : OpenClaim := { program := "ytfhikkmgclkcdaa", sum := "d1158ab1ce15d03c74f82e0484da8422ae2a88c3bf717ac869ef67b568018d47", func := "syndic/syndiclaw18.FloodTwice", spec := "floodTwice", plainKeys := false, apart := false }
def FloodTwiceSaid : Prop := floodTwiceRow.holds Try.pinned (OpenSpec.ofChange floodTwiceSpec)

/-- ITS FALSE NEIGHBOUR: 'it returns false'. Refute it at one input. -/
def floodTwiceWrong : ChangeSpec := { name := "floodTwice", fn := fun _ => fun
  | [d1, d2] => { results := [.lit (.bool false)], args := [d1, d2] }
  | _ => none }
def FloodTwiceWrongFalsely : Prop := floodTwiceRow.holds Try.pinned (OpenSpec.ofChange floodTwiceWrong)

/-- 'syndiclaw18.FloodTakes': WHATEVER THE INPUT: true; the input reads as it did. -/
def floodTakesSpec : ChangeSpec := { name := "floodTakes", fn := fun _ => fun
  | [d1, d2, d3] => { results := [.lit (.bool true)], args := [d1, d2, d3] }
  | _ => none }
def floodTakesRow : OpenClaim := { program := "ytfhikkmgclkcdaa", sum := "d1158ab1ce15d03c74f82e0484da8422ae2a88c3bf717ac869ef67b568018d47", func := "syndic/syndiclaw18.FloodTakes", spec := "floodTakes", unfollowed := true, recurses := true, plainKeys := false, apart := false }
def FloodTakesSaid : Prop := floodTakesRow.holds Try.pinned (OpenSpec.ofChange floodTakesSpec)

/-- ITS FALSE NEIGHBOUR: 'it returns false'. Refute it at one input. -/
def floodTakesWrong : ChangeSpec := { name := "floodTakes", fn := fun _ => fun
  | [d1, d2, d3] => { results := [.lit (.bool false)], args := [d1, d2, d3] }
  | _ => none }
def FloodTakesWrongFalsely : Prop := floodTakesRow.holds Try.pinned (OpenSpec.ofChange floodTakesWrong)

/-- 'syndiclaw16.RxmtRounds': WHATEVER THE INPUT: true; the input reads as it did. -/
def rxmtRoundsSpec : ChangeSpec := { name := "rxmtRounds", fn := fun _ => fun
  | [d1, d2, d3] => { results := [.lit (.bool true)], args := [d1, d2, d3] }
  | _ => none }
def rxmtRoundsRow : OpenClaim := { program := "ytfhikkmgclkcdaa", sum := "d1158ab1ce15d03c74f82e0484da8422ae2a88c3bf717ac869ef67b568018d47", func := "syndic/syndiclaw16.RxmtRounds", spec := "rxmtRounds", unfollowed := true, recurses := true, plainKeys := false, apart := false }
def RxmtRoundsSaid : Prop := rxmtRoundsRow.holds Try.pinned (OpenSpec.ofChange rxmtRoundsSpec)

/-- ITS FALSE NEIGHBOUR: 'it returns false'. Refute it at one input. -/
def rxmtRoundsWrong : ChangeSpec := { name := "rxmtRounds", fn := fun _ => fun
  | [d1, d2, d3] => { results := [.lit (.bool false)], args := [d1, d2, d3] }
  | _ => none }
def RxmtRoundsWrongFalsely : Prop := rxmtRoundsRow.holds Try.pinned (OpenSpec.ofChange rxmtRoundsWrong)

/-- 'syndiclaw16.RxmtOthers': WHATEVER THE INPUT: true; the input reads as it did. -/
def rxmtOthersSpec : ChangeSpec := { name := "rxmtOthers", fn := fun _ => fun
  | [d1, d2, d3] => { results := [.lit (.bool true)], args := [d1, d2, d3] }
  | _ => none }
def rxmtOthersRow : OpenClaim := { program := "ytfhikkmgclkcdaa", sum := "d1158ab1ce15d03c74f82e0484da8422ae2a88c3bf717ac869ef67b568018d47", func := "syndic/syndiclaw16.RxmtOthers", spec := "rxmtOthers", unfollowed := true, recurses := true, plainKeys := false, apart := false }
def RxmtOthersSaid : Prop := rxmtOthersRow.holds Try.pinned (OpenSpec.ofChange rxmtOthersSpec)

/-- ITS FALSE NEIGHBOUR: 'it returns false'. Refute it at one input. -/
def rxmtOthersWrong : ChangeSpec := { name := "rxmtOthers", fn := fun _ => fun
  | [d1, d2, d3] => { results := [.lit (.bool false)], args := [d1, d2, d3] }
  | _ => none }
def RxmtOthersWrongFalsely : Prop := rxmtOthersRow.holds Try.pinned (OpenSpec.ofChange rxmtOthersWrong)

/-- 'syndiclaw16.RxmtDrops': WHATEVER THE INPUT: true; the input reads as it did. -/
def rxmtDropsSpec : ChangeSpec := { name := "rxmtDrops", fn := fun _ => fun
  | [d1, d2, d3] => { results := [.lit (.bool true)], args := [d1, d2, d3] }
  | _ => none }
def rxmtDropsRow : OpenClaim := { program := "ytfhikkmgclkcdaa", sum := "d1158ab1ce15d03c74f82e0484da8422ae2a88c3bf717ac869ef67b568018d47", func := "syndic/syndiclaw16.RxmtDrops", spec := "rxmtDrops", unfollowed := true, recurses := true, plainKeys := false, apart := false }
def RxmtDropsSaid : Prop := rxmtDropsRow.holds Try.pinned (OpenSpec.ofChange rxmtDropsSpec)

/-- ITS FALSE NEIGHBOUR: 'it returns false'. Refute it at one input. -/
def rxmtDropsWrong : ChangeSpec := { name := "rxmtDrops", fn := fun _ => fun
  | [d1, d2, d3] => { results := [.lit (.bool false)], args := [d1, d2, d3] }
  | _ => none }
def RxmtDropsWrongFalsely : Prop := rxmtDropsRow.holds Try.pinned (OpenSpec.ofChange rxmtDropsWrong)

/-- 'syndiclaw16.RxmtActs': WHATEVER THE INPUT: true; the input reads as it did. -/
def rxmtActsSpec : ChangeSpec := { name := "rxmtActs", fn := fun _ => fun
  | [d] => { results := [.lit (.bool true)], args := [d] }
  | _ => none }
def rxmtActsRow : OpenClaim := { program := "ytfhikkmgclkcdaa", sum := "d1158ab1ce15d03c74f82e0484da8422ae2a88c3bf717ac869ef67b568018d47", func := "syndic/syndiclaw16.RxmtActs", spec := "rxmtActs", unfollowed := true, recurses := true, plainKeys := false, apart := false }
def RxmtActsSaid : Prop := rxmtActsRow.holds Try.pinned (OpenSpec.ofChange rxmtActsSpec)

/-- ITS FALSE NEIGHBOUR: 'it returns false'. Refute it at one input. -/
def rxmtActsWrong : ChangeSpec := { name := "rxmtActs", fn := fun _ => fun
  | [d] => { results := [.lit (.bool false)], args := [d] }
  | _ => none }
def RxmtActsWrongFalsely : Prop := rxmtActsRow.holds Try.pinned (OpenSpec.ofChange rxmtActsWrong)

/-- 'syndiclaw16.RxmtNil': WHATEVER THE INPUT: true; the input reads as it did. -/
def rxmtNilSpec : ChangeSpec := { name := "rxmtNil", fn := fun _ => fun
  | [d1, d2, d3] => { results := [.lit (.bool true)], args := [d1, d2, d3] }
  | _ => none }
def rxmtNilRow : OpenClaim := { program := "ytfhikkmgclkcdaa", sum := "d1158ab1ce15d03c74f82e0484da8422ae2a88c3bf717ac869ef67b568018d47", func := "syndic/syndiclaw16.RxmtNil", spec := "rxmtNil", unfollowed := true, recurses := true, plainKeys := false, apart := false }
def RxmtNilSaid : Prop := rxmtNilRow.holds Try.pinned (OpenSpec.ofChange rxmtNilSpec)

/-- ITS FALSE NEIGHBOUR: 'it returns false'. Refute it at one input. -/
def rxmtNilWrong : ChangeSpec := { name := "rxmtNil", fn := fun _ => fun
  | [d1, d2, d3] => { results := [.lit (.bool false)], args := [d1, d2, d3] }
  | _ => none }
def RxmtNilWrongFalsely : Prop := rxmtNilRow.holds Try.pinned (OpenSpec.ofChange rxmtNilWrong)

/- THE SECOND FORM. 'bulk': how many values and letters a reading holds, each counted each time it is reached (what is shared counts as often as it is met; a slice's spare places count too). A statement '..UptoSaid' is the law's where the arguments, and the package variables that the reading takes, are together of bulk at most 1048576: NARROWER than '..Said'. Prove '..Said' where nothing that the law and all that it calls make is longer than what came in: it says more and counts as full. Else prove '..UptoSaid'. A law counts once. -/
mutual
def uptoBulk {H : Type} : DataW H → Nat
  | .lit (.string bytes) => bytes.length + 1
  | .lit _ => 1
  | .nil => 1
  | .ptr d => uptoBulk d + 1
  | .slice elems spare => uptoBulkAll elems + uptoBulkAll spare + 1
  | .agg parts => uptoBulkAll parts + 1
  | .iface _ d => uptoBulk d + 1
  | .map entries => uptoBulkEntries entries + 1
  | .held _ => 1
def uptoBulkAll {H : Type} : List (DataW H) → Nat
  | [] => 0
  | d :: r => uptoBulk d + uptoBulkAll r
def uptoBulkEntries {H : Type} : List (Lit × DataW H) → Nat
  | [] => 0
  | x :: r => uptoBulkEntry x + uptoBulkEntries r
def uptoBulkEntry {H : Type} : Lit × DataW H → Nat
  | (.string bytes, d) => bytes.length + uptoBulk d + 1
  | (_, d) => uptoBulk d + 1
 end
def uptoSmall : (H : Type) → List (DataW H) → Bool := fun _ ds => decide (uptoBulkAll ds ≤ 1048576)
def OpenSpec.upto (s : _root_.Go.ChangeSpec) : _root_.Go.OpenSpec := { _root_.Go.OpenSpec.ofChange s with cond := some uptoSmall }

/-- 'syndiclaw18.FloodLan', WHERE WHAT IT READS IS OF BULK AT MOST 1048576: true; the input reads as it did. -/
def floodLanUptoRow : OpenClaim := { program := "ytfhikkmgclkcdaa", sum := "d1158ab1ce15d03c74f82e0484da8422ae2a88c3bf717ac869ef67b568018d47", func := "syndic/syndiclaw18.FloodLan", spec := "floodLan", plainKeys := false, apart := false, narrowed := true }
def FloodLanUptoSaid : Prop := floodLanUptoRow.holds Try.pinned (OpenSpec.upto floodLanSpec)

/-- 'syndiclaw27.AuditAgreed', WHERE WHAT IT READS IS OF BULK AT MOST 1048576: true; the input reads as it did. -/
def auditAgreedUptoRow : OpenClaim := { program := "ytfhikkmgclkcdaa", sum := "d1158ab1ce15d03c74f82e0484da8422ae2a88c3bf717ac869ef67b568018d47", func := "syndic/syndiclaw27.AuditAgreed", spec := "auditAgreed", unfollowed := true, recurses := true, plainKeys := false, apart := false, narrowed := true }
def AuditAgreedUptoSaid : Prop := auditAgreedUptoRow.holds Try.pinned (OpenSpec.upto auditAgreedSpec)

/-- 'syndiclaw27.AuditOn', WHERE WHAT IT READS IS OF BULK AT MOST 1048576: true; the input reads as it did. -/
def auditOnUptoRow : OpenClaim := { program := "ytfhikkmgclkcdaa", sum := "d1158ab1ce15d03c74f82e0484da8422ae2a88c3bf717ac869ef67b568018d47", func := "syndic/syndiclaw27.AuditOn", spec := "auditOn", unfollowed := true, recurses := true, plainKeys := false, apart := false, narrowed := true }
def AuditOnUptoSaid : Prop := auditOnUptoRow.holds Try.pinned (OpenSpec.upto auditOnSpec)

/-- 'syndiclaw27.AuditParts', WHERE WHAT IT READS IS OF BULK AT MOST 1048576: true; the input reads as it did. -/
def auditPartsUptoRow : OpenClaim := { program := "ytfhikkmgclkcdaa", sum := "d1158ab1ce15d03c74f82e0484da8422ae2a88c3bf717ac869ef67b568018d47", func := "syndic/syndiclaw27.AuditParts", spec := "auditParts", unfollowed := true, recurses := true, plainKeys := false, apart := false, narrowed := true }
def AuditPartsUptoSaid : Prop := auditPartsUptoRow.holds Try.pinned (OpenSpec.upto auditPartsSpec)

/-- 'syndiclaw18.FloodKeeps', WHERE WHAT IT READS IS OF BULK AT MOST 1048576: true; the input reads as it did. -/
def floodKeepsUptoRow : OpenClaim := { program := "ytfhikkmgclkcdaa", sum := "d1158ab1ce15d03c74f82e0484da8422ae2a88c3bf717ac869ef67b568018d47", func := "syndic/syndiclaw18.FloodKeeps", spec := "floodKeeps", plainKeys := false, apart := false, narrowed := true }
def FloodKeepsUptoSaid : Prop := floodKeepsUptoRow.holds Try.pinned (OpenSpec.upto floodKeepsSpec)

/-- 'syndiclaw18.FloodTwice', WHERE WHAT IT READS IS OF BULK AT MOST 1048576: true; the input reads as it did. -/
def floodTwiceUptoRow : OpenClaim := { program := "ytfhikkmgclkcdaa", sum := "d1158ab1ce15d03c74f82e0484da8422ae2a88c3bf717ac869ef67b568018d47", func := "syndic/syndiclaw18.FloodTwice", spec := "floodTwice", plainKeys := false, apart := false, narrowed := true }
def FloodTwiceUptoSaid : Prop := floodTwiceUptoRow.holds Try.pinned (OpenSpec.upto floodTwiceSpec)

/-- 'syndiclaw18.FloodTakes', WHERE WHAT IT READS IS OF BULK AT MOST 1048576: true; the input reads as it did. -/
def floodTakesUptoRow : OpenClaim := { program := "ytfhikkmgclkcdaa", sum := "d1158ab1ce15d03c74f82e0484da8422ae2a88c3bf717ac869ef67b568018d47", func := "syndic/syndiclaw18.FloodTakes", spec := "floodTakes", unfollowed := true, recurses := true, plainKeys := false, apart := false, narrowed := true }
def FloodTakesUptoSaid : Prop := floodTakesUptoRow.holds Try.pinned (OpenSpec.upto floodTakesSpec)

/-- 'syndiclaw16.RxmtRounds', WHERE WHAT IT READS IS OF BULK AT MOST 1048576: true; the input reads as it did. -/
def rxmtRoundsUptoRow : OpenClaim := { program := "ytfhikkmgclkcdaa", sum := "d1158ab1ce15d03c74f82e0484da8422ae2a88c3bf717ac869ef67b568018d47", func := "syndic/syndiclaw16.RxmtRounds", spec := "rxmtRounds", unfollowed := true, recurses := true, plainKeys := false, apart := false, narrowed := true }
def RxmtRoundsUptoSaid : Prop := rxmtRoundsUptoRow.holds Try.pinned (OpenSpec.upto rxmtRoundsSpec)

/-- 'syndiclaw16.RxmtOthers', WHERE WHAT IT READS IS OF BULK AT MOST 1048576: true; the input reads as it did. -/
def rxmtOthersUptoRow : OpenClaim := { program := "ytfhikkmgclkcdaa", sum := "d1158ab1ce15d03c74f82e0484da8422ae2a88c3bf717ac869ef67b568018d47", func := "syndic/syndiclaw16.RxmtOthers", spec := "rxmtOthers", unfollowed := true, recurses := true, plainKeys := false, apart := false, narrowed := true }
def RxmtOthersUptoSaid : Prop := rxmtOthersUptoRow.holds Try.pinned (OpenSpec.upto rxmtOthersSpec)

/-- 'syndiclaw16.RxmtDrops', WHERE WHAT IT READS IS OF BULK AT MOST 1048576: true; the input reads as it did. -/
def rxmtDropsUptoRow : OpenClaim := { program := "ytfhikkmgclkcdaa", sum := "d1158ab1ce15d03c74f82e0484da8422ae2a88c3bf717ac869ef67b568018d47", func := "syndic/syndiclaw16.RxmtDrops", spec := "rxmtDrops", unfollowed := true, recurses := true, plainKeys := false, apart := false, narrowed := true }
def RxmtDropsUptoSaid : Prop := rxmtDropsUptoRow.holds Try.pinned (OpenSpec.upto rxmtDropsSpec)

/-- 'syndiclaw16.RxmtActs', WHERE WHAT IT READS IS OF BULK AT MOST 1048576: true; the input reads as it did. -/
def rxmtActsUptoRow : OpenClaim := { program := "ytfhikkmgclkcdaa", sum := "d1158ab1ce15d03c74f82e0484da8422ae2a88c3bf717ac869ef67b568018d47", func := "syndic/syndiclaw16.RxmtActs", spec := "rxmtActs", unfollowed := true, recurses := true, plainKeys := false, apart := false, narrowed := true }
def RxmtActsUptoSaid : Prop := rxmtActsUptoRow.holds Try.pinned (OpenSpec.upto rxmtActsSpec)

/-- 'syndiclaw16.RxmtNil', WHERE WHAT IT READS IS OF BULK AT MOST 1048576: true; the input reads as it did. -/
def rxmtNilUptoRow : OpenClaim := { program := "ytfhikkmgclkcdaa", sum := "d1158ab1ce15d03c74f82e0484da8422ae2a88c3bf717ac869ef67b568018d47", func := "syndic/syndiclaw16.RxmtNil", spec := "rxmtNil", unfollowed := true, recurses := true, plainKeys := false, apart := false, narrowed := true }
def RxmtNilUptoSaid : Prop := rxmtNilUptoRow.holds Try.pinned (OpenSpec.upto rxmtNilSpec)

end Rows
end Go.Proofs.Ytfhikkmgclkcdaa
