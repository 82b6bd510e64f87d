/-
  The law ElectIs: its walk.
-/
import Derived.Test.YtkaeedffhmlomaaProg
import Derived.Test.YtkaeedffhmlomaaElStable
import Derived.Test.YtkaeedffhmlomaaRefElect
import Derived.Test.YtkaeedffhmlomaaElLaw
namespace Go.Proofs.Ytkaeedffhmlomaa
open Go.RowKit

theorem go_v {A : Option Addr} {cap : Nat} {l : List Cand} {w : World} {B : Nat} (hl : CandsAt w B A l) (hB : B ≤ w.heap.size) (hn : l.length ≤ 2 ^ 40) {x y : Int} (hx : goDr l = x) (hy : goBdr l = y) :
    Calls Try.prog 17 #[.slice A l.length cap] w fun e w' => e = .returned (.tuple #[.int .i64 x, .int .i64 y]) ∧ Below w.heap.size w w' := by
  subst hx hy; exact go_any A cap l w B hl hB (by unfold maxLen; omega)
theorem refGo_v {A : Option Addr} {cap : Nat} {l : List Cand} {w : World} {B : Nat} (hl : CandsAt w B A l) (hB : B ≤ w.heap.size) (hn : l.length ≤ 2 ^ 40) {x y : Int} (hx : refGo l = (x, y)) :
    Calls Try.prog 18 #[.slice A l.length cap] w fun e w' => e = .returned (.agg #[.int .i64 x, .int .i64 y]) ∧ Below w.heap.size w w' := by
  have := refGo_any A cap l w B hl hB hn; rw [hx] at this; exact this
theorem elect_v {self : Int} {A : Option Addr} {cap : Nat} {l : List Cand} {w : World} {B : Nat} (hl : CandsAt w B A l) (hB : B ≤ w.heap.size) (hn : l.length ≤ 2 ^ 40) {x y : Int} (hx : elect self l = (x, y)) :
    Calls Try.prog 19 #[.int .i64 self, .slice A l.length cap] w fun e w' => e = .returned (.tuple #[.int .i64 x, .int .i64 y]) ∧ Below w.heap.size w w' := by
  have := elect_any self A cap l w B hl hB hn; rw [hx] at this; exact this
theorem elect_vn {self : Int} {n : Nat} {A : Option Addr} {cap : Nat} {l : List Cand} {w : World} {B : Nat} (hl : CandsAt w B A l) (hB : B ≤ w.heap.size) (hn : l.length ≤ 2 ^ 40) {x y : Int} (hx : elect self l = (x, y)) (hnl : n = l.length) :
    Calls Try.prog 19 #[.int .i64 self, .slice A n cap] w fun e w' => e = .returned (.tuple #[.int .i64 x, .int .i64 y]) ∧ Below w.heap.size w w' := by
  subst hnl; exact elect_v hl hB hn hx
theorem refElect_v {self : Int} {A : Option Addr} {cap : Nat} {l : List Cand} {w : World} {B : Nat} (hl : CandsAt w B A l) (hB : B ≤ w.heap.size) (hn : l.length ≤ 2 ^ 40) {x y : Int} (hx : refElect self l = (x, y)) :
    Calls Try.prog 20 #[.int .i64 self, .slice A l.length cap] w fun e w' => e = .returned (.agg #[.int .i64 x, .int .i64 y]) ∧ Below w.heap.size w w' := by
  have := refElect_any self A cap l w B hl hB hn; rw [hx] at this; exact this

set_option maxHeartbeats 4000000 in
set_option maxRecDepth 100000 in
theorem electIs_any (A : Option Addr) (cap : Nat) (l : List Cand) (self : Int) (w : World) (hl : CandsAt w w.heap.size A l) (hm : l.length ≤ maxLen) :
    Calls Try.prog 3 #[.slice A l.length cap, .int .i64 self] w fun e w' => e = .returned (.bool true) ∧ Below w.heap.size w w' := by
  unfold maxLen at hm
  have Hl := Lib.hid hl
  clear hl
  by_cases h30 : 30 < l.length
  · go_enter Try.func3, Try.ntmps3
    go_wp2_with (go_at_call 15; (with_reducible refine Calls.mono (wakes9 _) ?_); rintro e w1 ⟨rfl, hb⟩)
    go_ret
    exact ⟨rfl, hb⟩
  · have hn : l.length ≤ 2 ^ 40 := by omega
    have Hn := Lib.hid hn
    have hm' : l.length ≤ maxLen := by unfold maxLen; omega
    have Hm := Lib.hid hm'
    clear hn hm'
    by_cases hap : apartB l = true
    · have hg := go_is hap
      have he := fun self => elect_is hap self
      generalize hx : goDr l = gx at *
      generalize hy : goBdr l = gy at *
      rcases hes : elect self l with ⟨sx, sy⟩
      have hrs := he self
      rw [hes] at hrs
      have Hx := Lib.hid hx
      have Hy := Lib.hid hy
      have Hg := Lib.hid hg
      have He := Lib.hid he
      have Hes := Lib.hid hes
      have Hrs := Lib.hid hrs
      have Hap := Lib.hid hap
      clear hx hy hg he hes hrs hap
      go_enter Try.func3, Try.ntmps3
      go_wp2_with (first
        | (go_at_call 15; (with_reducible refine Calls.mono (wakes9 _) ?_); rintro e w1 ⟨rfl, hb⟩)
        | (go_at_call 16; (with_reducible refine Calls.mono (apart_any A cap l _ _ (CandsAt.of Hl.out hb hb.size) (Nat.le_refl _) Hm.out) ?_); rw [Hap.out]; rintro e w2 ⟨rfl, hb2⟩; have hb := hb.trans (hb2.mono hb.size); clear hb2)
        | (go_at_call 17; (with_reducible refine Calls.mono (go_v (CandsAt.of Hl.out hb hb.size) (Nat.le_refl _) Hn.out Hx.out Hy.out) ?_); rintro e w3 ⟨rfl, hb3⟩; have hb := hb.trans (hb3.mono hb.size); clear hb3)
        | (go_at_call 18; (with_reducible refine Calls.mono (refGo_v (CandsAt.of Hl.out hb hb.size) (Nat.le_refl _) Hn.out Hg.out) ?_); rintro e w4 ⟨rfl, hb4⟩; have hb := hb.trans (hb4.mono hb.size); have hb := hb.alloc hb.size (.cells #[.int .i64 gx, .int .i64 gy] 28); clear hb4)
        | (go_at_call 19; (with_reducible refine Calls.mono (elect_v (CandsAt.of Hl.out hb hb.size) (Nat.le_refl _) Hn.out Hes.out) ?_); rintro e w5 ⟨rfl, hb5⟩; have hb := hb.trans (hb5.mono hb.size); clear hb5)
        | (go_at_call 20; (with_reducible refine Calls.mono (refElect_v (CandsAt.of Hl.out hb hb.size) (Nat.le_refl _) Hn.out Hrs.out) ?_); rintro e w6 ⟨rfl, hb6⟩; have hb := hb.trans (hb6.mono hb.size); have hb := hb.alloc hb.size (.cells #[.int .i64 sx, .int .i64 sy] 28); clear hb6))
      have Hb := Lib.hid hb
      clear hb
      go_loopw [60] (fun i wr => ∃ k : Nat, k ≤ l.length ∧ i = .int .i64 k ∧ Below w.heap.size w wr) (fun i _ => l.length - (intOf i).toNat)
      case atStart => exact ⟨0, Nat.zero_le _, rfl, Hb.out⟩
      case round =>
        obtain ⟨k, hk, rfl, hb⟩ := hrel
        by_cases hlt : k < l.length
        · obtain ⟨b, o, rfl, hbB, e0, e1, e2, e3⟩ := CandsAt.at_ (CandsAt.below Hl.out hb) k hlt
          generalize l[k] = c at *
          rcases c with ⟨ci, cpr, cd, cb⟩
          rcases hes : elect ci l with ⟨ex, ey⟩
          have hrs := He.out ci
          rw [hes] at hrs
          have Hes2 := Lib.hid hes
          have Hrs2 := Lib.hid hrs
          clear hes hrs
          have hb := hb.alloc hb.size (.cells #[.int .i64 ci, .int .i64 cpr, .int .i64 cd, .int .i64 cb] 33)
          go_wp2_with (first
            | (go_at_call 19; (with_reducible refine Calls.mono (elect_v (CandsAt.of Hl.out hb hb.size) (Nat.le_refl _) Hn.out Hes2.out) ?_); rintro e w5 ⟨rfl, hb5⟩; have hT := (Blk.new _ _ _).below hb5 (by simp); obtain ⟨x0, x1, x2, x3, _, _, _, _⟩ := hT.cells4; have hb := hb.trans (hb5.mono hb.size); clear hb5 hT)
            | (go_at_call 20; (with_reducible refine Calls.mono (refElect_v (CandsAt.of Hl.out hb hb.size) (Nat.le_refl _) Hn.out Hrs2.out) ?_); rintro e w6 ⟨rfl, hb6⟩; have hb := hb.trans (hb6.mono hb.size); have hb := hb.alloc hb.size (.cells #[.int .i64 ex, .int .i64 ey] 28); clear hb6))
          go_roundw
          case measure => simp [intOf]; omega
          case rel => exact ⟨k + 1, hlt, by go_num, hb⟩
        · have : k = l.length := by omega
          subst this
          go_wp2
          go_ret
          exact ⟨rfl, hb⟩
    · have hap := Bool.eq_false_iff.2 hap
      have Hap := Lib.hid hap
      clear hap
      go_enter Try.func3, Try.ntmps3
      go_wp2_with (first
        | (go_at_call 15; (with_reducible refine Calls.mono (wakes9 _) ?_); rintro e w1 ⟨rfl, hb⟩)
        | (go_at_call 16; (with_reducible refine Calls.mono (apart_any A cap l _ _ (CandsAt.of Hl.out hb hb.size) (Nat.le_refl _) Hm.out) ?_); rw [Hap.out]; rintro e w2 ⟨rfl, hb2⟩; have hb := hb.trans (hb2.mono hb.size); clear hb2))
      go_ret
      exact ⟨rfl, hb⟩

end Go.Proofs.Ytkaeedffhmlomaa
