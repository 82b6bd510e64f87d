/-
  The law AuditOn: its walk.
-/
import Derived.Test.YtfhikkmgclkcdaaAuRefOn
import Derived.Test.YtfhikkmgclkcdaaAuGreat
import Derived.Test.YtfhikkmgclkcdaaAuWakes
import Derived.Test.YtfhikkmgclkcdaaInts
namespace Go.Proofs.Ytfhikkmgclkcdaa
open Go.RowKit

theorem counted_len (l : List Stt) : (countedL l).length ≤ 16 := by
  unfold countedL
  have := List.length_filterMap_le (fun id => (tblI l id).map fun i => l.getD i default) (List.range 16)
  rwa [List.length_range] at this
theorem onOf_len (l : List Stt) (lan : Int) : (onOf (countedL l) lan).length ≤ 16 := by
  unfold onOf
  rw [List.length_map]
  exact candsOf_len l lan

set_option maxHeartbeats 2000000 in
set_option maxRecDepth 100000 in
theorem auditOn_any (lan : Int) (A : Option Addr) (cap : Nat) (l : List Stt) (w : World) (hl : StatesAt w w.heap.size A l) (hm : l.length ≤ maxLen) :
    Calls Try.prog 5 #[.int .i64 lan, .slice A l.length cap] w fun r w' => r = .returned (.bool true) ∧ Below w.heap.size w w' := by
  have Hl := Lib.hid hl
  have Hm := Lib.hid hm
  have hol := onOf_len l lan
  have hcl := counted_len l
  clear hl hm
  cases hg : greatT l
  all_goals
    have Hg := Lib.hid hg
    clear hg
    go_enter Try.func5, Try.ntmps5
    go_wp2_with (first
      | (go_at_call 18; (with_reducible refine Calls.mono (wakes27 _) ?_); rintro r w1 ⟨rfl, hb1⟩; have Hb := Lib.hid hb1; clear hb1)
      | (go_at_call 19; (with_reducible refine Calls.mono (greatT_any A cap l _ _ (Hl.out.below Hb.out) Hb.out.size Hm.out Hg.out) ?_); rintro r w2 ⟨rfl, hb2⟩; have Hb := Lib.hid (Hb.out.trans (hb2.mono Hb.out.size)); clear hb2)
      | (go_at_call 24; (with_reducible refine Calls.mono (On_any lan _ A cap l _ _ (Hl.out.below Hb.out) Hb.out.size Hm.out rfl) ?_); rintro r w3 ⟨v3, rfl, hown3, hb3⟩; have Hown := Lib.hid hown3; have Hb := Lib.hid (Hb.out.trans (hb3.mono Hb.out.size)); clear hown3 hb3)
      | (go_at_call 22; (with_reducible refine Calls.mono (refCounted_any A cap l _ _ (Hl.out.below Hb.out) Hb.out.size Hm.out) ?_); rintro r w4 ⟨A4, cap4, rfl, hst4, hb4⟩; have Hst := Lib.hid hst4; have Hown := Lib.hid (Hown.out.below hb4); have Hb := Lib.hid (Hb.out.trans (hb4.mono Hb.out.size)); clear hst4 hb4)
      | (go_at_call 25; (with_reducible refine Calls.mono (refOn_any _ _ _ (countedL l) lan _ _ Hst.out (Nat.le_refl _) (by omega) rfl) ?_); rintro r w5 ⟨v5, rfl, hown5, hb5⟩; have Hown5 := Lib.hid hown5; have Hown := Lib.hid (Hown.out.below hb5); have Hb := Lib.hid (Hb.out.trans (hb5.mono Hb.out.size)); clear hown5 hb5)
      | (go_at_call 23; (with_reducible refine Calls.mono (ints_same (onOf (countedL l) lan) (by omega) _ _ _ _ _ Hown.out Hown5.out) ?_); rintro r w6 ⟨rfl, hb6⟩; have Hb := Lib.hid (Hb.out.trans (hb6.mono Hb.out.size)); clear hb6))
    go_ret
    exact ⟨rfl, Hb.out⟩

end Go.Proofs.Ytfhikkmgclkcdaa
