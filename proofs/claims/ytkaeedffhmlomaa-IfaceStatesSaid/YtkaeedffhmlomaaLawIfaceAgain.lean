/-
  The law IfaceAgain: its walk.
-/
import Derived.Test.YtkaeedffhmlomaaIfC
import Derived.Test.YtkaeedffhmlomaaIfLaw
namespace Go.Proofs.Ytkaeedffhmlomaa
open Go.RowKit

theorem apart10_v {a b c d e : Int} {A : Option Addr} {cap : Nat} {l : List Cand} {w : World} {B : Nat} (hl : CandsAt w B A l) (hB : B ≤ w.heap.size) (hn : l.length ≤ 2 ^ 30) {r0 : Bool} (hr : apartI ⟨a, b, c, d, e⟩ l = r0) :
    Calls Try.prog 23 #[.agg #[.int .i64 a, .int .i64 b, .int .i64 c, .int .i64 d, .int .i64 e], .slice A l.length cap] w fun r w' => r = .returned (.bool r0) ∧ Below w.heap.size w w' := by
  subst hr; exact apart10 a b c d e A cap l w B hl hB hn

set_option maxHeartbeats 4000000 in
set_option maxRecDepth 100000 in
theorem ifaceAgain_any (a b c d e : Int) (A : Option Addr) (cap : Nat) (l : List Cand) (w : World) (hl : CandsAt w w.heap.size A l) (hm : l.length ≤ maxLen) :
    Calls Try.prog 10 #[.agg #[.int .i64 a, .int .i64 b, .int .i64 c, .int .i64 d, .int .i64 e], .slice A l.length cap] w fun r w' => r = .returned (.bool true) ∧ Below w.heap.size w w' := by
  unfold maxLen at hm
  have hl1 : ∀ o, CandsAt (w.alloc o) w.heap.size A l := fun o => CandsAt.below hl ((Below.refl _ _).alloc (Nat.le_refl _) o)
  have Hl := Lib.hid hl1
  have hE := eqIface
  clear hl hl1
  by_cases h20 : 20 < l.length
  · go_enter Try.func10, Try.ntmps10
    go_wp2_with (go_at_call 22; (with_reducible refine Calls.mono (wakes10 _) ?_); rintro r w1 ⟨rfl, hb1⟩; have Hb := Lib.hid (((Below.refl _ _).alloc (Nat.le_refl _) _).trans (hb1.mono (by simp))); clear hb1)
    go_ret
    exact ⟨rfl, Hb.out⟩
  · have hn : l.length ≤ 2 ^ 30 := by omega
    have Hn := Lib.hid hn
    clear hn
    cases hap : apartI ⟨a, b, c, d, e⟩ l
    · have Hap := Lib.hid hap
      clear hap
      go_enter Try.func10, Try.ntmps10
      go_wp2_with (first
        | (go_at_call 22; (with_reducible refine Calls.mono (wakes10 _) ?_); rintro r w1 ⟨rfl, hb1⟩; obtain ⟨c0, c1, c2, c3, c4, _⟩ := Blk.cells5 ((Blk.new w _ _).below hb1 (by simp)); have Hb := Lib.hid (((Below.refl _ _).alloc (Nat.le_refl _) _).trans (hb1.mono (by simp))); have HL := Lib.hid (CandsAt.below (Hl.out _) (hb1.mono (by simp))); clear hb1)
        | (go_at_call 23; (with_reducible refine Calls.mono (apart10_v HL.out Hb.out.size Hn.out Hap.out) ?_); rintro r w2 ⟨rfl, hb2⟩))
      go_ret
      exact ⟨rfl, Hb.out.trans (hb2.mono Hb.out.size)⟩
    · have h2 := step_twice hap
      rcases hx : stepI ⟨a, b, c, d, e⟩ 4 l with ⟨a', b', c', d', e'⟩
      rw [hx] at h2
      have hu : unlike ⟨a', b', c', d', e'⟩ ⟨a', b', c', d', e'⟩ = false := unlike_self _
      have Hap := Lib.hid hap
      have Hx := Lib.hid hx
      have H2 := Lib.hid h2
      have Hu := Lib.hid hu
      clear hap hx h2 hu
      go_enter Try.func10, Try.ntmps10
      go_wp2_with (first
        | (go_at_call 22; (with_reducible refine Calls.mono (wakes10 _) ?_); rintro r w1 ⟨rfl, hb1⟩; have hB := (Blk.new w _ _).below hb1 (by simp); obtain ⟨c0, c1, c2, c3, c4, _⟩ := Blk.cells5 hB; have hb : Below w.heap.size w w1 := ((Below.refl _ _).alloc (Nat.le_refl _) _).trans (hb1.mono (by simp)); have HL := Lib.hid (CandsAt.below (Hl.out _) (hb1.mono (by simp))); have HB := Lib.hid hB; clear hb1 hB)
        | (go_at_call 23; (with_reducible refine Calls.mono (apart10_v HL.out hb.size Hn.out Hap.out) ?_); rintro r w2 ⟨rfl, hb2⟩; have hB := HB.out.below hb2 HB.out.lt; obtain ⟨c0, c1, c2, c3, c4, _⟩ := Blk.cells5 hB; have HL := Lib.hid (CandsAt.below HL.out (hb2.mono hb.size)); have hb := hb.trans (hb2.mono hb.size); clear hb2 hB)
        | (go_at_call 24; (with_reducible refine Calls.mono (step_v HL.out hb.size Hn.out rfl Hx.out) ?_); rintro r w3 ⟨rfl, hb3⟩; have HL := Lib.hid (CandsAt.below HL.out ((hb3.alloc hb3.size (.cells #[.int .i64 a', .int .i64 b', .int .i64 c', .int .i64 d', .int .i64 e'] 41)).mono hb.size)); have hb := (hb.trans (hb3.mono hb.size)); have hb := hb.alloc hb.size (.cells #[.int .i64 a', .int .i64 b', .int .i64 c', .int .i64 d', .int .i64 e'] 41); have HB2 := Lib.hid (Blk.new w3 41 #[.int .i64 a', .int .i64 b', .int .i64 c', .int .i64 d', .int .i64 e']); clear hb3)
        | (go_at_call 24; (with_reducible refine Calls.mono (step_v HL.out hb.size Hn.out rfl H2.out) ?_); rw [Hu.out]; rintro r w4 ⟨rfl, hb4⟩; obtain ⟨x0, x1, x2, x3, x4, _⟩ := Blk.cells5 ((HB2.out.below hb4 HB2.out.lt).alloc (.cells #[.int .i64 a', .int .i64 b', .int .i64 c', .int .i64 d', .int .i64 e'] 41)); have hb := (hb.trans (hb4.mono hb.size)).alloc ((hb.trans (hb4.mono hb.size))).size (.cells #[.int .i64 a', .int .i64 b', .int .i64 c', .int .i64 d', .int .i64 e'] 41); clear hb4))
      go_ret
      exact ⟨rfl, hb⟩

end Go.Proofs.Ytkaeedffhmlomaa
