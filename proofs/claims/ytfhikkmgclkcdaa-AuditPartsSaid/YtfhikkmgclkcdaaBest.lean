/-
  The walk of elect.best.
-/
import Derived.Test.YtfhikkmgclkcdaaProg
import Derived.Test.YtfhikkmgclkcdaaElectSpec
namespace Go.Proofs.Ytfhikkmgclkcdaa
open Go.RowKit

set_option maxHeartbeats 1000000 in
set_option maxRecDepth 100000 in
theorem best_any (f : Nat) (hcall : ∀ (xs : Array Value) (w : World), (callFunc f xs).run Try.prog w = .ok (.enter f xs) w) (q : Cand → Bool) (hf : ∀ (a b c d : Int) w, Calls Try.prog f #[.agg #[.int .i64 a, .int .i64 b, .int .i64 c, .int .i64 d]] w fun e w' => e = .returned (.bool (q ⟨a, b, c, d⟩)) ∧ Below w.heap.size w w')
    (A : Option Addr) (cap : Nat) (l : List Cand) (w : World) (hl : CandsAt w w.heap.size A l) (hn : l.length ≤ maxLen) :
    Calls Try.prog 175 #[.slice A l.length cap, .func (.func f) #[] #[]] w fun e w' => e = .returned (.int .i64 (bestC q l).id) ∧ Below w.heap.size w w' := by
  unfold maxLen at hn
  have Hf := Lib.hid hf; clear hf
  have Hl := Lib.hid hl; clear hl
  go_enter Try.func175, Try.ntmps175
  go_wp2
  go_loopw [10] (fun i wr => ∃ k : Nat, k ≤ l.length ∧ i = .int .i64 k ∧ Blk wr w.heap.size 130 (bestK q l k).row ∧ Below w.heap.size w wr) (fun i _ => l.length - (intOf i).toNat)
  case atStart =>
    exact ⟨0, Nat.zero_le _, rfl, Blk.new _ _ _, (Below.refl _ _).alloc (Nat.le_refl _) _⟩
  case round =>
    obtain ⟨k, hk, rfl, hB, hb⟩ := hrel
    have hsz := hB.lt
    by_cases hlt : k < l.length
    · obtain ⟨b, o, rfl, hbB, e0, e1, e2, e3⟩ := CandsAt.at_ (show CandsAt wr _ _ _ from Reads.below Hl.out hb) k hlt
      have hs := bestK_succ q l k hlt
      generalize l[k] = c at *
      generalize hbk : bestK q l k = bb at *
      have Hbk := Lib.hid hbk; clear hbk
      rcases c with ⟨ci, cp, cd, cb⟩
      rcases bb with ⟨bi, bp, bd, bbd⟩
      have hT : ∀ w1 t, Below (wr.alloc (.cells #[.int .i64 ci, .int .i64 cp, .int .i64 cd, .int .i64 cb] t)).heap.size (wr.alloc (.cells #[.int .i64 ci, .int .i64 cp, .int .i64 cd, .int .i64 cb] t)) w1 → Blk w1 wr.heap.size t #[.int .i64 ci, .int .i64 cp, .int .i64 cd, .int .i64 cb] := fun w1 t h => (Blk.new _ _ _).below h (by simp)
      have hT2 : ∀ w1 o, Below (wr.alloc o).heap.size (wr.alloc o) w1 → Blk w1 w.heap.size 130 #[.int .i64 bi, .int .i64 bp, .int .i64 bd, .int .i64 bbd] := fun w1 o h => (hB.alloc _).below h (by simp; omega)
      have HB := Lib.hid hB
      have HT := Lib.hid hT
      have HT2 := Lib.hid hT2
      clear hT hT2
      obtain ⟨c0, c1, c2, c3, f0, f1, f2, f3⟩ := Blk.cells4 hB
      clear hB
      rcases step_cases q ⟨bi, bp, bd, bbd⟩ ⟨ci, cp, cd, cb⟩ with ⟨t1, hx⟩ | ⟨t1, t2, hx⟩ | ⟨t1, t2, t3, hx⟩ | ⟨t1, t2, t3, t4, hx⟩ | ⟨t1, t2, t3, t4, t5, hx⟩ | ⟨t1, t2, t3, t4, t5, t6, hx⟩ | ⟨t1, t2, t3, t4, t5, t6, hx⟩
      all_goals
        rw [hx] at hs
        have Hs := Lib.hid hs
        clear hs hx
        go_wp2_with ((with_reducible refine (Hf.out _ _ _ _ _).mono ?_); rintro e w1 ⟨rfl, hb1⟩; have hB1 := HT2.out _ _ hb1; have hT1 := HT.out _ _ hb1; obtain ⟨c0, c1, c2, c3, f0, f1, f2, f3⟩ := Blk.cells4 hB1; obtain ⟨d0, d1, d2, d3, g0, g1, g2, g3⟩ := Blk.cells4 hT1; have HB1 := Lib.hid hB1; have HT1 := Lib.hid hT1; clear hB1 hT1)
        go_roundw
        case measure => simp [intOf]; omega
        go_light
      · exact ⟨k + 1, hlt, by go_num, (HB.out.alloc _).to (by rw [Hs.out]; first | done | rfl), hb.alloc (by omega) _⟩
      · exact ⟨k + 1, hlt, by go_num, HB1.out.to (by rw [Hs.out]; first | done | rfl), (hb.alloc (by omega) _).trans (hb1.mono (by simp; omega))⟩
      · exact ⟨k + 1, hlt, by go_num, (Blk.set4 HB1.out).to (by rw [Hs.out]; first | done | rfl), ((((((hb.alloc (by omega) _).trans (hb1.mono (by simp; omega)))).setCell (Nat.le_refl _) _).setCell (Nat.le_refl _) _).setCell (Nat.le_refl _) _).setCell (Nat.le_refl _) _⟩
      · exact ⟨k + 1, hlt, by go_num, (Blk.set4 HB1.out).to (by rw [Hs.out]; first | done | rfl), ((((((hb.alloc (by omega) _).trans (hb1.mono (by simp; omega)))).setCell (Nat.le_refl _) _).setCell (Nat.le_refl _) _).setCell (Nat.le_refl _) _).setCell (Nat.le_refl _) _⟩
      · exact ⟨k + 1, hlt, by go_num, HB1.out.to (by rw [Hs.out]; first | done | rfl), (hb.alloc (by omega) _).trans (hb1.mono (by simp; omega))⟩
      · exact ⟨k + 1, hlt, by go_num, (Blk.set4 HB1.out).to (by rw [Hs.out]; first | done | rfl), ((((((hb.alloc (by omega) _).trans (hb1.mono (by simp; omega)))).setCell (Nat.le_refl _) _).setCell (Nat.le_refl _) _).setCell (Nat.le_refl _) _).setCell (Nat.le_refl _) _⟩
      · exact ⟨k + 1, hlt, by go_num, HB1.out.to (by rw [Hs.out]; first | done | rfl), (hb.alloc (by omega) _).trans (hb1.mono (by simp; omega))⟩
    · obtain ⟨c0, c1, c2, c3, f0, f1, f2, f3⟩ := Blk.cells4 hB
      clear hB
      go_wp2
      go_ret
      have : k = l.length := by omega
      subst this
      exact ⟨by simp [bestK], hb⟩

end Go.Proofs.Ytfhikkmgclkcdaa
