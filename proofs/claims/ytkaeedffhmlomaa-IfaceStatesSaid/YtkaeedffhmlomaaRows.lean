/-
  No cell of these rows narrows 'for every input' (looked for: loops, veiled, ifaces, maps, wideKeys, modest, calm, conditions, laid).
  DERIVED. THE GIVEN ROWS OF THIS SEAT. 12 by the template 'for every input the law returns true; each argument reads behind the call as it read before'; 0 by the template 'total and deterministic' (their statements: YtkaeedffhmlomaaTotals.lean).
  GIVEN WITH THE SEED: the statements are not yours to turn. If you find one false, say at which input.
  Laid BY PROGRAM, IN A SANDBOX (cutbox-rows.mjs): the forced cells as the released guide's own fill.sh prints them over the translation 8da9bf571453c1c4… (all of the seat's roots in one cut). By AI agents, Wed Nov 11 2026. No macro, syntax, notation, axiom, sorry.
-/
import Derived.Test.YtkaeedffhmlomaaChecked
import GoSem.Claim
import GoSem.ClaimJoined
import GoSem.ClaimMapViews
import Derived.JoinedTies
import Derived.KernelRfl
namespace Go.Proofs.Ytkaeedffhmlomaa
/- THE CELL 'sum', in the pinned program and in every row, IS THE sha256 OF THE DUMP (.gsa) THAT YtkaeedffhmlomaaProg.lean LOADS. Nothing in Lean hashes anything: it is a label: what it is worth is what the hold of that sum in a sandbox is worth. -/
noncomputable def Try.pinned : Pinned := { name := "ytkaeedffhmlomaa", sum := "8da9bf571453c1c40169ee8b556a52d88e91110d31fdca25b02e155cbb1a3192", checked := Try.checked }
namespace Rows
def none {H : Type} : Left H := { results := [], args := [] }

/-- 'syndiclaw09.ElectIs': WHATEVER THE INPUT: true; the input reads as it did. -/
def electIsSpec : ChangeSpec := { name := "electIs", fn := fun _ => fun
  | [d1, d2] => { results := [.lit (.bool true)], args := [d1, d2] }
  | _ => none }
def electIsRow : OpenClaim := { program := "ytkaeedffhmlomaa", sum := "8da9bf571453c1c40169ee8b556a52d88e91110d31fdca25b02e155cbb1a3192", func := "syndic/syndiclaw09.ElectIs", spec := "electIs", unfollowed := true, recurses := true, plainKeys := false, apart := false }
def ElectIsSaid : Prop := electIsRow.holds Try.pinned (OpenSpec.ofChange electIsSpec)

/-- ITS FALSE NEIGHBOUR: 'it returns false'. Refute it at one input. -/
def electIsWrong : ChangeSpec := { name := "electIs", fn := fun _ => fun
  | [d1, d2] => { results := [.lit (.bool false)], args := [d1, d2] }
  | _ => none }
def ElectIsWrongFalsely : Prop := electIsRow.holds Try.pinned (OpenSpec.ofChange electIsWrong)

/-- 'syndiclaw09.ElectMay': WHATEVER THE INPUT: true; the input reads as it did. -/
def electMaySpec : ChangeSpec := { name := "electMay", fn := fun _ => fun
  | [d1, d2] => { results := [.lit (.bool true)], args := [d1, d2] }
  | _ => none }
def electMayRow : OpenClaim := { program := "ytkaeedffhmlomaa", sum := "8da9bf571453c1c40169ee8b556a52d88e91110d31fdca25b02e155cbb1a3192", func := "syndic/syndiclaw09.ElectMay", spec := "electMay", unfollowed := true, recurses := true, plainKeys := false, apart := false }
def ElectMaySaid : Prop := electMayRow.holds Try.pinned (OpenSpec.ofChange electMaySpec)

/-- ITS FALSE NEIGHBOUR: 'it returns false'. Refute it at one input. -/
def electMayWrong : ChangeSpec := { name := "electMay", fn := fun _ => fun
  | [d1, d2] => { results := [.lit (.bool false)], args := [d1, d2] }
  | _ => none }
def ElectMayWrongFalsely : Prop := electMayRow.holds Try.pinned (OpenSpec.ofChange electMayWrong)

/-- 'syndiclaw09.ElectAgain': WHATEVER THE INPUT: true; the input reads as it did. -/
def electAgainSpec : ChangeSpec := { name := "electAgain", fn := fun _ => fun
  | [d1, d2] => { results := [.lit (.bool true)], args := [d1, d2] }
  | _ => none }
def electAgainRow : OpenClaim := { program := "ytkaeedffhmlomaa", sum := "8da9bf571453c1c40169ee8b556a52d88e91110d31fdca25b02e155cbb1a3192", func := "syndic/syndiclaw09.ElectAgain", spec := "electAgain", unfollowed := true, recurses := true, plainKeys := false, apart := false }
def ElectAgainSaid : Prop := electAgainRow.holds Try.pinned (OpenSpec.ofChange electAgainSpec)

/-- ITS FALSE NEIGHBOUR: 'it returns false'. Refute it at one input. -/
def electAgainWrong : ChangeSpec := { name := "electAgain", fn := fun _ => fun
  | [d1, d2] => { results := [.lit (.bool false)], args := [d1, d2] }
  | _ => none }
def ElectAgainWrongFalsely : Prop := electAgainRow.holds Try.pinned (OpenSpec.ofChange electAgainWrong)

/-- 'syndiclaw09.ElectStable': WHATEVER THE INPUT: true; the input reads as it did. -/
def electStableSpec : ChangeSpec := { name := "electStable", fn := fun _ => fun
  | [d1, d2] => { results := [.lit (.bool true)], args := [d1, d2] }
  | _ => none }
def electStableRow : OpenClaim := { program := "ytkaeedffhmlomaa", sum := "8da9bf571453c1c40169ee8b556a52d88e91110d31fdca25b02e155cbb1a3192", func := "syndic/syndiclaw09.ElectStable", spec := "electStable", unfollowed := true, recurses := true, plainKeys := false, apart := false }
def ElectStableSaid : Prop := electStableRow.holds Try.pinned (OpenSpec.ofChange electStableSpec)

/-- ITS FALSE NEIGHBOUR: 'it returns false'. Refute it at one input. -/
def electStableWrong : ChangeSpec := { name := "electStable", fn := fun _ => fun
  | [d1, d2] => { results := [.lit (.bool false)], args := [d1, d2] }
  | _ => none }
def ElectStableWrongFalsely : Prop := electStableRow.holds Try.pinned (OpenSpec.ofChange electStableWrong)

/-- 'syndiclaw09.ElectSettles': WHATEVER THE INPUT: true; the input reads as it did. -/
def electSettlesSpec : ChangeSpec := { name := "electSettles", fn := fun _ => fun
  | [d] => { results := [.lit (.bool true)], args := [d] }
  | _ => none }
def electSettlesRow : OpenClaim := { program := "ytkaeedffhmlomaa", sum := "8da9bf571453c1c40169ee8b556a52d88e91110d31fdca25b02e155cbb1a3192", func := "syndic/syndiclaw09.ElectSettles", spec := "electSettles", unfollowed := true, recurses := true, plainKeys := false, apart := false }
def ElectSettlesSaid : Prop := electSettlesRow.holds Try.pinned (OpenSpec.ofChange electSettlesSpec)

/-- ITS FALSE NEIGHBOUR: 'it returns false'. Refute it at one input. -/
def electSettlesWrong : ChangeSpec := { name := "electSettles", fn := fun _ => fun
  | [d] => { results := [.lit (.bool false)], args := [d] }
  | _ => none }
def ElectSettlesWrongFalsely : Prop := electSettlesRow.holds Try.pinned (OpenSpec.ofChange electSettlesWrong)

/-- 'syndiclaw10.IfaceSteps': WHATEVER THE INPUT: true; the input reads as it did. -/
def ifaceStepsSpec : ChangeSpec := { name := "ifaceSteps", fn := fun _ => fun
  | [d1, d2, d3] => { results := [.lit (.bool true)], args := [d1, d2, d3] }
  | _ => none }
def ifaceStepsRow : OpenClaim := { program := "ytkaeedffhmlomaa", sum := "8da9bf571453c1c40169ee8b556a52d88e91110d31fdca25b02e155cbb1a3192", func := "syndic/syndiclaw10.IfaceSteps", spec := "ifaceSteps", unfollowed := true, recurses := true, plainKeys := false, apart := false }
def IfaceStepsSaid : Prop := ifaceStepsRow.holds Try.pinned (OpenSpec.ofChange ifaceStepsSpec)

/-- ITS FALSE NEIGHBOUR: 'it returns false'. Refute it at one input. -/
def ifaceStepsWrong : ChangeSpec := { name := "ifaceSteps", fn := fun _ => fun
  | [d1, d2, d3] => { results := [.lit (.bool false)], args := [d1, d2, d3] }
  | _ => none }
def IfaceStepsWrongFalsely : Prop := ifaceStepsRow.holds Try.pinned (OpenSpec.ofChange ifaceStepsWrong)

/-- 'syndiclaw10.IfaceStates': WHATEVER THE INPUT: true; the input reads as it did. -/
def ifaceStatesSpec : ChangeSpec := { name := "ifaceStates", fn := fun _ => fun
  | [d1, d2, d3] => { results := [.lit (.bool true)], args := [d1, d2, d3] }
  | _ => none }
def ifaceStatesRow : OpenClaim := { program := "ytkaeedffhmlomaa", sum := "8da9bf571453c1c40169ee8b556a52d88e91110d31fdca25b02e155cbb1a3192", func := "syndic/syndiclaw10.IfaceStates", spec := "ifaceStates", unfollowed := true, recurses := true, plainKeys := false, apart := false }
def IfaceStatesSaid : Prop := ifaceStatesRow.holds Try.pinned (OpenSpec.ofChange ifaceStatesSpec)

/-- ITS FALSE NEIGHBOUR: 'it returns false'. Refute it at one input. -/
def ifaceStatesWrong : ChangeSpec := { name := "ifaceStates", fn := fun _ => fun
  | [d1, d2, d3] => { results := [.lit (.bool false)], args := [d1, d2, d3] }
  | _ => none }
def IfaceStatesWrongFalsely : Prop := ifaceStatesRow.holds Try.pinned (OpenSpec.ofChange ifaceStatesWrong)

/-- 'syndiclaw10.IfaceAgain': WHATEVER THE INPUT: true; the input reads as it did. -/
def ifaceAgainSpec : ChangeSpec := { name := "ifaceAgain", fn := fun _ => fun
  | [d1, d2] => { results := [.lit (.bool true)], args := [d1, d2] }
  | _ => none }
def ifaceAgainRow : OpenClaim := { program := "ytkaeedffhmlomaa", sum := "8da9bf571453c1c40169ee8b556a52d88e91110d31fdca25b02e155cbb1a3192", func := "syndic/syndiclaw10.IfaceAgain", spec := "ifaceAgain", unfollowed := true, recurses := true, plainKeys := false, apart := false }
def IfaceAgainSaid : Prop := ifaceAgainRow.holds Try.pinned (OpenSpec.ofChange ifaceAgainSpec)

/-- ITS FALSE NEIGHBOUR: 'it returns false'. Refute it at one input. -/
def ifaceAgainWrong : ChangeSpec := { name := "ifaceAgain", fn := fun _ => fun
  | [d1, d2] => { results := [.lit (.bool false)], args := [d1, d2] }
  | _ => none }
def IfaceAgainWrongFalsely : Prop := ifaceAgainRow.holds Try.pinned (OpenSpec.ofChange ifaceAgainWrong)

/-- 'syndiclaw10.IfaceSees': WHATEVER THE INPUT: true; the input reads as it did. -/
def ifaceSeesSpec : ChangeSpec := { name := "ifaceSees", fn := fun _ => fun
  | [d1, d2] => { results := [.lit (.bool true)], args := [d1, d2] }
  | _ => none }
def ifaceSeesRow : OpenClaim := { program := "ytkaeedffhmlomaa", sum := "8da9bf571453c1c40169ee8b556a52d88e91110d31fdca25b02e155cbb1a3192", func := "syndic/syndiclaw10.IfaceSees", spec := "ifaceSees", unfollowed := true, recurses := true, plainKeys := false, apart := false }
def IfaceSeesSaid : Prop := ifaceSeesRow.holds Try.pinned (OpenSpec.ofChange ifaceSeesSpec)

/-- ITS FALSE NEIGHBOUR: 'it returns false'. Refute it at one input. -/
def ifaceSeesWrong : ChangeSpec := { name := "ifaceSees", fn := fun _ => fun
  | [d1, d2] => { results := [.lit (.bool false)], args := [d1, d2] }
  | _ => none }
def IfaceSeesWrongFalsely : Prop := ifaceSeesRow.holds Try.pinned (OpenSpec.ofChange ifaceSeesWrong)

/-- 'syndiclaw27.AuditAgreed': WHATEVER THE INPUT: true; the input reads as it did. -/
def auditAgreedSpec : ChangeSpec := { name := "auditAgreed", fn := fun _ => fun
  | [d1, d2] => { results := [.lit (.bool true)], args := [d1, d2] }
  | _ => none }
def auditAgreedRow : OpenClaim := { program := "ytkaeedffhmlomaa", sum := "8da9bf571453c1c40169ee8b556a52d88e91110d31fdca25b02e155cbb1a3192", func := "syndic/syndiclaw27.AuditAgreed", spec := "auditAgreed", unfollowed := true, recurses := true, plainKeys := false, apart := false }
def AuditAgreedSaid : Prop := auditAgreedRow.holds Try.pinned (OpenSpec.ofChange auditAgreedSpec)

/-- ITS FALSE NEIGHBOUR: 'it returns false'. Refute it at one input. -/
def auditAgreedWrong : ChangeSpec := { name := "auditAgreed", fn := fun _ => fun
  | [d1, d2] => { results := [.lit (.bool false)], args := [d1, d2] }
  | _ => none }
def AuditAgreedWrongFalsely : Prop := auditAgreedRow.holds Try.pinned (OpenSpec.ofChange auditAgreedWrong)

/-- 'syndiclaw27.AuditOn': WHATEVER THE INPUT: true; the input reads as it did. -/
def auditOnSpec : ChangeSpec := { name := "auditOn", fn := fun _ => fun
  | [d1, d2] => { results := [.lit (.bool true)], args := [d1, d2] }
  | _ => none }
def auditOnRow : OpenClaim := { program := "ytkaeedffhmlomaa", sum := "8da9bf571453c1c40169ee8b556a52d88e91110d31fdca25b02e155cbb1a3192", func := "syndic/syndiclaw27.AuditOn", spec := "auditOn", unfollowed := true, recurses := true, plainKeys := false, apart := false }
def AuditOnSaid : Prop := auditOnRow.holds Try.pinned (OpenSpec.ofChange auditOnSpec)

/-- ITS FALSE NEIGHBOUR: 'it returns false'. Refute it at one input. -/
def auditOnWrong : ChangeSpec := { name := "auditOn", fn := fun _ => fun
  | [d1, d2] => { results := [.lit (.bool false)], args := [d1, d2] }
  | _ => none }
def AuditOnWrongFalsely : Prop := auditOnRow.holds Try.pinned (OpenSpec.ofChange auditOnWrong)

/-- 'syndiclaw27.AuditParts': WHATEVER THE INPUT: true; the input reads as it did. -/
def auditPartsSpec : ChangeSpec := { name := "auditParts", fn := fun _ => fun
  | [d] => { results := [.lit (.bool true)], args := [d] }
  | _ => none }
def auditPartsRow : OpenClaim := { program := "ytkaeedffhmlomaa", sum := "8da9bf571453c1c40169ee8b556a52d88e91110d31fdca25b02e155cbb1a3192", func := "syndic/syndiclaw27.AuditParts", spec := "auditParts", unfollowed := true, recurses := true, plainKeys := false, apart := false }
def AuditPartsSaid : Prop := auditPartsRow.holds Try.pinned (OpenSpec.ofChange auditPartsSpec)

/-- ITS FALSE NEIGHBOUR: 'it returns false'. Refute it at one input. -/
def auditPartsWrong : ChangeSpec := { name := "auditParts", fn := fun _ => fun
  | [d] => { results := [.lit (.bool false)], args := [d] }
  | _ => none }
def AuditPartsWrongFalsely : Prop := auditPartsRow.holds Try.pinned (OpenSpec.ofChange auditPartsWrong)

/- THE SECOND FORM. 'bulk': how many values and letters a reading holds, each counted each time it is reached (what is shared counts as often as it is met; a slice's spare places count too). A statement '..UptoSaid' is the law's where the arguments, and the package variables that the reading takes, are together of bulk at most 1048576: NARROWER than '..Said'. Prove '..Said' where nothing that the law and all that it calls make is longer than what came in: it says more and counts as full. Else prove '..UptoSaid'. A law counts once. -/
mutual
def uptoBulk {H : Type} : DataW H → Nat
  | .lit (.string bytes) => bytes.length + 1
  | .lit _ => 1
  | .nil => 1
  | .ptr d => uptoBulk d + 1
  | .slice elems spare => uptoBulkAll elems + uptoBulkAll spare + 1
  | .agg parts => uptoBulkAll parts + 1
  | .iface _ d => uptoBulk d + 1
  | .map entries => uptoBulkEntries entries + 1
  | .held _ => 1
def uptoBulkAll {H : Type} : List (DataW H) → Nat
  | [] => 0
  | d :: r => uptoBulk d + uptoBulkAll r
def uptoBulkEntries {H : Type} : List (Lit × DataW H) → Nat
  | [] => 0
  | x :: r => uptoBulkEntry x + uptoBulkEntries r
def uptoBulkEntry {H : Type} : Lit × DataW H → Nat
  | (.string bytes, d) => bytes.length + uptoBulk d + 1
  | (_, d) => uptoBulk d + 1
 end
def uptoSmall : (H : Type) → List (DataW H) → Bool := fun _ ds => decide (uptoBulkAll ds ≤ 1048576)
def OpenSpec.upto (s : _root_.Go.ChangeSpec) : _root_.Go.OpenSpec := { _root_.Go.OpenSpec.ofChange s with cond := some uptoSmall }

/-- 'syndiclaw09.ElectIs', WHERE WHAT IT READS IS OF BULK AT MOST 1048576: true; the input reads as it did. -/
def electIsUptoRow : OpenClaim := { program := "ytkaeedffhmlomaa", sum := "8da9bf571453c1c40169ee8b556a52d88e91110d31fdca25b02e155cbb1a3192", func := "syndic/syndiclaw09.ElectIs", spec := "electIs", unfollowed := true, recurses := true, plainKeys := false, apart := false, narrowed := true }
def ElectIsUptoSaid : Prop := electIsUptoRow.holds Try.pinned (OpenSpec.upto electIsSpec)

/-- 'syndiclaw09.ElectMay', WHERE WHAT IT READS IS OF BULK AT MOST 1048576: true; the input reads as it did. -/
def electMayUptoRow : OpenClaim := { program := "ytkaeedffhmlomaa", sum := "8da9bf571453c1c40169ee8b556a52d88e91110d31fdca25b02e155cbb1a3192", func := "syndic/syndiclaw09.ElectMay", spec := "electMay", unfollowed := true, recurses := true, plainKeys := false, apart := false, narrowed := true }
def ElectMayUptoSaid : Prop := electMayUptoRow.holds Try.pinned (OpenSpec.upto electMaySpec)

/-- 'syndiclaw09.ElectAgain', WHERE WHAT IT READS IS OF BULK AT MOST 1048576: true; the input reads as it did. -/
def electAgainUptoRow : OpenClaim := { program := "ytkaeedffhmlomaa", sum := "8da9bf571453c1c40169ee8b556a52d88e91110d31fdca25b02e155cbb1a3192", func := "syndic/syndiclaw09.ElectAgain", spec := "electAgain", unfollowed := true, recurses := true, plainKeys := false, apart := false, narrowed := true }
def ElectAgainUptoSaid : Prop := electAgainUptoRow.holds Try.pinned (OpenSpec.upto electAgainSpec)

/-- 'syndiclaw09.ElectStable', WHERE WHAT IT READS IS OF BULK AT MOST 1048576: true; the input reads as it did. -/
def electStableUptoRow : OpenClaim := { program := "ytkaeedffhmlomaa", sum := "8da9bf571453c1c40169ee8b556a52d88e91110d31fdca25b02e155cbb1a3192", func := "syndic/syndiclaw09.ElectStable", spec := "electStable", unfollowed := true, recurses := true, plainKeys := false, apart := false, narrowed := true }
def ElectStableUptoSaid : Prop := electStableUptoRow.holds Try.pinned (OpenSpec.upto electStableSpec)

/-- 'syndiclaw09.ElectSettles', WHERE WHAT IT READS IS OF BULK AT MOST 1048576: true; the input reads as it did. -/
def electSettlesUptoRow : OpenClaim := { program := "ytkaeedffhmlomaa", sum := "8da9bf571453c1c40169ee8b556a52d88e91110d31fdca25b02e155cbb1a3192", func := "syndic/syndiclaw09.ElectSettles", spec := "electSettles", unfollowed := true, recurses := true, plainKeys := false, apart := false, narrowed := true }
def ElectSettlesUptoSaid : Prop := electSettlesUptoRow.holds Try.pinned (OpenSpec.upto electSettlesSpec)

/-- 'syndiclaw10.IfaceSteps', WHERE WHAT IT READS IS OF BULK AT MOST 1048576: true; the input reads as it did. -/
def ifaceStepsUptoRow : OpenClaim := { program := "ytkaeedffhmlomaa", sum := "8da9bf571453c1c40169ee8b556a52d88e91110d31fdca25b02e155cbb1a3192", func := "syndic/syndiclaw10.IfaceSteps", spec := "ifaceSteps", unfollowed := true, recurses := true, plainKeys := false, apart := false, narrowed := true }
def IfaceStepsUptoSaid : Prop := ifaceStepsUptoRow.holds Try.pinned (OpenSpec.upto ifaceStepsSpec)

/-- 'syndiclaw10.IfaceStates', WHERE WHAT IT READS IS OF BULK AT MOST 1048576: true; the input reads as it did. -/
def ifaceStatesUptoRow : OpenClaim := { program := "ytkaeedffhmlomaa", sum := "8da9bf571453c1c40169ee8b556a52d88e91110d31fdca25b02e155cbb1a3192", func := "syndic/syndiclaw10.IfaceStates", spec := "ifaceStates", unfollowed := true, recurses := true, plainKeys := false, apart := false, narrowed := true }
def IfaceStatesUptoSaid : Prop := ifaceStatesUptoRow.holds Try.pinned (OpenSpec.upto ifaceStatesSpec)

/-- 'syndiclaw10.IfaceAgain', WHERE WHAT IT READS IS OF BULK AT MOST 1048576: true; the input reads as it did. -/
def ifaceAgainUptoRow : OpenClaim := { program := "ytkaeedffhmlomaa", sum := "8da9bf571453c1c40169ee8b556a52d88e91110d31fdca25b02e155cbb1a3192", func := "syndic/syndiclaw10.IfaceAgain", spec := "ifaceAgain", unfollowed := true, recurses := true, plainKeys := false, apart := false, narrowed := true }
def IfaceAgainUptoSaid : Prop := ifaceAgainUptoRow.holds Try.pinned (OpenSpec.upto ifaceAgainSpec)

/-- 'syndiclaw10.IfaceSees', WHERE WHAT IT READS IS OF BULK AT MOST 1048576: true; the input reads as it did. -/
def ifaceSeesUptoRow : OpenClaim := { program := "ytkaeedffhmlomaa", sum := "8da9bf571453c1c40169ee8b556a52d88e91110d31fdca25b02e155cbb1a3192", func := "syndic/syndiclaw10.IfaceSees", spec := "ifaceSees", unfollowed := true, recurses := true, plainKeys := false, apart := false, narrowed := true }
def IfaceSeesUptoSaid : Prop := ifaceSeesUptoRow.holds Try.pinned (OpenSpec.upto ifaceSeesSpec)

/-- 'syndiclaw27.AuditAgreed', WHERE WHAT IT READS IS OF BULK AT MOST 1048576: true; the input reads as it did. -/
def auditAgreedUptoRow : OpenClaim := { program := "ytkaeedffhmlomaa", sum := "8da9bf571453c1c40169ee8b556a52d88e91110d31fdca25b02e155cbb1a3192", func := "syndic/syndiclaw27.AuditAgreed", spec := "auditAgreed", unfollowed := true, recurses := true, plainKeys := false, apart := false, narrowed := true }
def AuditAgreedUptoSaid : Prop := auditAgreedUptoRow.holds Try.pinned (OpenSpec.upto auditAgreedSpec)

/-- 'syndiclaw27.AuditOn', WHERE WHAT IT READS IS OF BULK AT MOST 1048576: true; the input reads as it did. -/
def auditOnUptoRow : OpenClaim := { program := "ytkaeedffhmlomaa", sum := "8da9bf571453c1c40169ee8b556a52d88e91110d31fdca25b02e155cbb1a3192", func := "syndic/syndiclaw27.AuditOn", spec := "auditOn", unfollowed := true, recurses := true, plainKeys := false, apart := false, narrowed := true }
def AuditOnUptoSaid : Prop := auditOnUptoRow.holds Try.pinned (OpenSpec.upto auditOnSpec)

/-- 'syndiclaw27.AuditParts', WHERE WHAT IT READS IS OF BULK AT MOST 1048576: true; the input reads as it did. -/
def auditPartsUptoRow : OpenClaim := { program := "ytkaeedffhmlomaa", sum := "8da9bf571453c1c40169ee8b556a52d88e91110d31fdca25b02e155cbb1a3192", func := "syndic/syndiclaw27.AuditParts", spec := "auditParts", unfollowed := true, recurses := true, plainKeys := false, apart := false, narrowed := true }
def AuditPartsUptoSaid : Prop := auditPartsUptoRow.holds Try.pinned (OpenSpec.upto auditPartsSpec)

end Rows
end Go.Proofs.Ytkaeedffhmlomaa
