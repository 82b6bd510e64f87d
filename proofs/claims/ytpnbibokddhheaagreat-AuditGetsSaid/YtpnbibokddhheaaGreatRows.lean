/-
  No cell of these rows narrows 'for every input' (looked for: loops, veiled, ifaces, maps, wideKeys, modest, calm, conditions, laid).
  DERIVED. THE GIVEN ROWS OF THIS SEAT. 3 by the template 'for every input the law returns true; each argument reads behind the call as it read before'; 0 by the template 'total and deterministic' (their statements: YtpnbibokddhheaaGreatTotals.lean).
  GIVEN WITH THE SEED: the statements are not yours to turn. If you find one false, say at which input.
  Laid BY PROGRAM, IN A SANDBOX (cutbox-rows.mjs): the forced cells as the released guide's own fill.sh prints them over the translation f382a9a8deb38dab… (all of the seat's roots in one cut). By AI agents, Wed Nov 11 2026. No macro, syntax, notation, axiom, sorry.
-/
import Derived.Test.YtpnbibokddhheaaGreatChecked
import GoSem.Claim
import GoSem.ClaimJoined
import GoSem.ClaimMapViews
import Derived.JoinedTies
import Derived.KernelRfl
namespace Go.Proofs.YtpnbibokddhheaaGreat
/- THE CELL 'sum', in the pinned program and in every row, IS THE sha256 OF THE DUMP (.gsa) THAT YtpnbibokddhheaaGreatProg.lean LOADS. Nothing in Lean hashes anything: it is a label: what it is worth is what the hold of that sum in a sandbox is worth. -/
noncomputable def Tryz.pinned : Pinned := { name := "ytpnbibokddhheaagreat", sum := "f382a9a8deb38dab6a529648f1ac503b78e4e08b02619a58b84a545bf420fe1f", checked := Tryz.checked }
namespace Rows
def none {H : Type} : Left H := { results := [], args := [] }

/-- 'syndiclaw27.AuditGets': WHATEVER THE INPUT: true; the input reads as it did. -/
def auditGetsSpec : ChangeSpec := { name := "auditGets", fn := fun _ => fun
  | [d1, d2, d3] => { results := [.lit (.bool true)], args := [d1, d2, d3] }
  | _ => none }
def auditGetsRow : OpenClaim := { program := "ytpnbibokddhheaagreat", sum := "f382a9a8deb38dab6a529648f1ac503b78e4e08b02619a58b84a545bf420fe1f", func := "syndic/syndiclaw27.AuditGets", spec := "auditGets", unfollowed := true, recurses := true, plainKeys := false, apart := false }
def AuditGetsSaid : Prop := auditGetsRow.holds Tryz.pinned (OpenSpec.ofChange auditGetsSpec)

/-- ITS FALSE NEIGHBOUR: 'it returns false'. Refute it at one input. -/
def auditGetsWrong : ChangeSpec := { name := "auditGets", fn := fun _ => fun
  | [d1, d2, d3] => { results := [.lit (.bool false)], args := [d1, d2, d3] }
  | _ => none }
def AuditGetsWrongFalsely : Prop := auditGetsRow.holds Tryz.pinned (OpenSpec.ofChange auditGetsWrong)

/-- 'syndiclaw13.SummGone': WHATEVER THE INPUT: true; the input reads as it did. -/
def summGoneSpec : ChangeSpec := { name := "summGone", fn := fun _ => fun
  | [d] => { results := [.lit (.bool true)], args := [d] }
  | _ => none }
def summGoneRow : OpenClaim := { program := "ytpnbibokddhheaagreat", sum := "f382a9a8deb38dab6a529648f1ac503b78e4e08b02619a58b84a545bf420fe1f", func := "syndic/syndiclaw13.SummGone", spec := "summGone", unfollowed := true, recurses := true, plainKeys := false, apart := false }
def SummGoneSaid : Prop := summGoneRow.holds Tryz.pinned (OpenSpec.ofChange summGoneSpec)

/-- ITS FALSE NEIGHBOUR: 'it returns false'. Refute it at one input. -/
def summGoneWrong : ChangeSpec := { name := "summGone", fn := fun _ => fun
  | [d] => { results := [.lit (.bool false)], args := [d] }
  | _ => none }
def SummGoneWrongFalsely : Prop := summGoneRow.holds Tryz.pinned (OpenSpec.ofChange summGoneWrong)

/-- 'syndiclaw13.SummSync': WHATEVER THE INPUT: true; the input reads as it did. -/
def summSyncSpec : ChangeSpec := { name := "summSync", fn := fun _ => fun
  | [d1, d2] => { results := [.lit (.bool true)], args := [d1, d2] }
  | _ => none }
def summSyncRow : OpenClaim := { program := "ytpnbibokddhheaagreat", sum := "f382a9a8deb38dab6a529648f1ac503b78e4e08b02619a58b84a545bf420fe1f", func := "syndic/syndiclaw13.SummSync", spec := "summSync", unfollowed := true, recurses := true, plainKeys := false, apart := false }
def SummSyncSaid : Prop := summSyncRow.holds Tryz.pinned (OpenSpec.ofChange summSyncSpec)

/-- ITS FALSE NEIGHBOUR: 'it returns false'. Refute it at one input. -/
def summSyncWrong : ChangeSpec := { name := "summSync", fn := fun _ => fun
  | [d1, d2] => { results := [.lit (.bool false)], args := [d1, d2] }
  | _ => none }
def SummSyncWrongFalsely : Prop := summSyncRow.holds Tryz.pinned (OpenSpec.ofChange summSyncWrong)

/- THE SECOND FORM. 'bulk': how many values and letters a reading holds, each counted each time it is reached (what is shared counts as often as it is met; a slice's spare places count too). A statement '..UptoSaid' is the law's where the arguments, and the package variables that the reading takes, are together of bulk at most 1048576: NARROWER than '..Said'. Prove '..Said' where nothing that the law and all that it calls make is longer than what came in: it says more and counts as full. Else prove '..UptoSaid'. A law counts once. -/
mutual
def uptoBulk {H : Type} : DataW H → Nat
  | .lit (.string bytes) => bytes.length + 1
  | .lit _ => 1
  | .nil => 1
  | .ptr d => uptoBulk d + 1
  | .slice elems spare => uptoBulkAll elems + uptoBulkAll spare + 1
  | .agg parts => uptoBulkAll parts + 1
  | .iface _ d => uptoBulk d + 1
  | .map entries => uptoBulkEntries entries + 1
  | .held _ => 1
def uptoBulkAll {H : Type} : List (DataW H) → Nat
  | [] => 0
  | d :: r => uptoBulk d + uptoBulkAll r
def uptoBulkEntries {H : Type} : List (Lit × DataW H) → Nat
  | [] => 0
  | x :: r => uptoBulkEntry x + uptoBulkEntries r
def uptoBulkEntry {H : Type} : Lit × DataW H → Nat
  | (.string bytes, d) => bytes.length + uptoBulk d + 1
  | (_, d) => uptoBulk d + 1
 end
def uptoSmall : (H : Type) → List (DataW H) → Bool := fun _ ds => decide (uptoBulkAll ds ≤ 1048576)
def OpenSpec.upto (s : _root_.Go.ChangeSpec) : _root_.Go.OpenSpec := { _root_.Go.OpenSpec.ofChange s with cond := some uptoSmall }

/-- 'syndiclaw27.AuditGets', WHERE WHAT IT READS IS OF BULK AT MOST 1048576: true; the input reads as it did. -/
def auditGetsUptoRow : OpenClaim := { program := "ytpnbibokddhheaagreat", sum := "f382a9a8deb38dab6a529648f1ac503b78e4e08b02619a58b84a545bf420fe1f", func := "syndic/syndiclaw27.AuditGets", spec := "auditGets", unfollowed := true, recurses := true, plainKeys := false, apart := false, narrowed := true }
def AuditGetsUptoSaid : Prop := auditGetsUptoRow.holds Tryz.pinned (OpenSpec.upto auditGetsSpec)

/-- 'syndiclaw13.SummGone', WHERE WHAT IT READS IS OF BULK AT MOST 1048576: true; the input reads as it did. -/
def summGoneUptoRow : OpenClaim := { program := "ytpnbibokddhheaagreat", sum := "f382a9a8deb38dab6a529648f1ac503b78e4e08b02619a58b84a545bf420fe1f", func := "syndic/syndiclaw13.SummGone", spec := "summGone", unfollowed := true, recurses := true, plainKeys := false, apart := false, narrowed := true }
def SummGoneUptoSaid : Prop := summGoneUptoRow.holds Tryz.pinned (OpenSpec.upto summGoneSpec)

/-- 'syndiclaw13.SummSync', WHERE WHAT IT READS IS OF BULK AT MOST 1048576: true; the input reads as it did. -/
def summSyncUptoRow : OpenClaim := { program := "ytpnbibokddhheaagreat", sum := "f382a9a8deb38dab6a529648f1ac503b78e4e08b02619a58b84a545bf420fe1f", func := "syndic/syndiclaw13.SummSync", spec := "summSync", unfollowed := true, recurses := true, plainKeys := false, apart := false, narrowed := true }
def SummSyncUptoSaid : Prop := summSyncUptoRow.holds Tryz.pinned (OpenSpec.upto summSyncSpec)

end Rows
end Go.Proofs.YtpnbibokddhheaaGreat
