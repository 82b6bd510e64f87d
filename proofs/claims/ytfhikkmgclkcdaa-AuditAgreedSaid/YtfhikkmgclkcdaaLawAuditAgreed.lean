/-
  The law AuditAgreed: its walk.
-/
import Derived.Test.YtfhikkmgclkcdaaLawAuditOn
import Derived.Test.YtfhikkmgclkcdaaAuRefAgreed
namespace Go.Proofs.Ytfhikkmgclkcdaa
open Go.RowKit

set_option maxHeartbeats 2000000 in
set_option maxRecDepth 100000 in
theorem auditAgreed_any (lan : Int) (A : Option Addr) (cap : Nat) (l : List Stt) (w : World) (hl : StatesAt w w.heap.size A l) (hm : l.length ≤ maxLen) :
    Calls Try.prog 4 #[.int .i64 lan, .slice A l.length cap] w fun r w' => r = .returned (.bool true) ∧ Below w.heap.size w w' := by
  have Hl := Lib.hid hl
  have Hm := Lib.hid hm
  have hcl := counted_len l
  obtain ⟨r, hr⟩ : ∃ r, agreedC (candsOf (countedL l) lan) = r := ⟨_, rfl⟩
  rcases r with ⟨r1, r2, r3⟩
  have hr2 := (agreed_is (cands_apart l lan)).trans hr
  have Hr := Lib.hid hr
  have Hr2 := Lib.hid hr2
  clear hl hm hr hr2
  cases hg : greatT l
  all_goals
    have Hg := Lib.hid hg
    clear hg
    go_enter Try.func4, Try.ntmps4
    go_wp2_with (first
      | (go_at_call 18; (with_reducible refine Calls.mono (wakes27 _) ?_); rintro r w1 ⟨rfl, hb1⟩; have Hb := Lib.hid hb1; clear hb1)
      | (go_at_call 19; (with_reducible refine Calls.mono (greatT_any A cap l _ _ (Hl.out.below Hb.out) Hb.out.size Hm.out Hg.out) ?_); rintro r w2 ⟨rfl, hb2⟩; have Hb := Lib.hid (Hb.out.trans (hb2.mono Hb.out.size)); clear hb2)
      | (go_at_call 20; (with_reducible refine Calls.mono (agreed_any lan _ A cap l _ _ (Hl.out.below Hb.out) Hb.out.size Hm.out rfl Hr.out) ?_); rintro r w3 ⟨rfl, hb3⟩; have Hb := Lib.hid (Hb.out.trans (hb3.mono Hb.out.size)); clear hb3)
      | (go_at_call 22; (with_reducible refine Calls.mono (refCounted_any A cap l _ _ (Hl.out.below Hb.out) Hb.out.size Hm.out) ?_); rintro r w4 ⟨A4, cap4, rfl, hst4, hb4⟩; have Hst := Lib.hid hst4; have Hb := Lib.hid (Hb.out.trans (hb4.mono Hb.out.size)); clear hst4 hb4)
      | (go_at_call 21; (with_reducible refine Calls.mono (refAgreed_any _ _ _ (countedL l) lan _ _ Hst.out (Nat.le_refl _) (by omega) rfl Hr2.out) ?_); rintro r w5 ⟨rfl, hb5⟩; have Hb := Lib.hid (Hb.out.trans (hb5.mono Hb.out.size)); clear hb5))
    go_ret
    first
      | exact ⟨rfl, Hb.out⟩
      | exact ⟨by simp, Hb.out.alloc Hb.out.size _⟩
      | exact ⟨rfl, Hb.out.alloc Hb.out.size _⟩

end Go.Proofs.Ytfhikkmgclkcdaa
