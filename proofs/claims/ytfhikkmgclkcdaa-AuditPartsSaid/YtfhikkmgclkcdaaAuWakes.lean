/-
  Layer 27: the example.
-/
import Derived.Outline
import Derived.Test.YtfhikkmgclkcdaaAuAgreed
namespace Go.Proofs.Ytfhikkmgclkcdaa
open Go.RowKit

def vW (st dr : Int) : Viw := ⟨2, 0, 3, 1, st, dr, 0, none, 0, [], none, 0, []⟩
def sW (g : Nat) (st dr : Int) : Stt := ⟨3, some ⟨g, 0, none⟩, 1, [vW st dr], none, 0, [], none, 0, 0⟩
theorem cands_w1 (g : Nat) : candsOf (countedL [sW g 4 3]) 2 = [⟨3, 1, 3, 0⟩] := rfl
theorem cands_w2 (g : Nat) : candsOf (countedL [sW g 1 0]) 2 = [⟨3, 1, 0, 0⟩] := rfl
theorem agreed_w1 : agreedC [⟨3, 1, 3, 0⟩] = (3, 0, true) := by decide +kernel
theorem agreed_w2 : agreedC [⟨3, 1, 0, 0⟩] = (0, 0, false) := by decide +kernel
theorem states_w {W : World} {g1 g2 : Nat} {st dr : Int} (h1 : Blk W g1 116 #[.int .i64 2, .int .i64 0, .int .i64 3, .int .i64 1, .int .i64 st, .int .i64 dr, .int .i64 0, .slice none 0 0, .slice none 0 0]) (h2 : Blk W g2 123 #[.int .i64 3, .slice (some ⟨g1, 0, none⟩) 1 1, .slice none 0 0, .slice none 0 0]) :
    StatesAt W W.heap.size (some ⟨g2, 0, none⟩) [sW g1 st dr] := by
  refine ⟨fun _ => ⟨g2, 0, rfl, h2.lt, fun k hk i u _ hu => ?_⟩, fun s hs => ?_⟩
  · have hk0 : k = 0 := by simpa using hk
    subst hk0
    rw [show 0 + 0 * 4 + i = i by omega, h2.cell i, ← hu]
    simp [sW, Stt.cells]
  · rw [List.mem_singleton] at hs
    subst hs
    refine ⟨⟨fun _ => ⟨g1, 0, rfl, h1.lt, fun k hk i u _ hu => ?_⟩, fun v hv => ?_⟩, ⟨RowsAt.nil, by simp [sW]⟩, by simp [sW, maxLen], by simp [sW, maxLen], by simp [sW, maxLen]⟩
    · have hk0 : k = 0 := by simpa [sW] using hk
      subst hk0
      rw [show 0 + 0 * 9 + i = i by omega, h1.cell i, ← hu]
      simp [sW, vW, Viw.cells]
    · have hv' : v = vW st dr := by simpa [sW] using hv
      subst hv'
      exact ⟨RowsAt.nil, RowsAt.nil, by simp [vW, maxLen], by simp [vW, maxLen]⟩

theorem wake_call (w0 : World) (st dr : Int) {g1 g2 : Nat} (e1 : g1 = w0.heap.size) (e2 : g2 = w0.heap.size + 1) {r1 r2 : Int} {r3 : Bool} (hr : agreedC (candsOf (countedL [sW g1 st dr]) 2) = (r1, r2, r3)) :
    Calls Try.prog 20 #[.int .i64 2, .slice (some ⟨g2, 0, none⟩) 1 1] ((w0.alloc (.cells #[.int .i64 2, .int .i64 0, .int .i64 3, .int .i64 1, .int .i64 st, .int .i64 dr, .int .i64 0, .slice none 0 0, .slice none 0 0] 116)).alloc (.cells #[.int .i64 3, .slice (some ⟨g1, 0, none⟩) 1 1, .slice none 0 0, .slice none 0 0] 123))
      fun r w' => r = .returned (.tuple #[.int .i64 r1, .int .i64 r2, .bool r3]) ∧ Below w0.heap.size w0 w' := by
  subst e1 e2
  have h1 := (Blk.new w0 116 #[.int .i64 2, .int .i64 0, .int .i64 3, .int .i64 1, .int .i64 st, .int .i64 dr, .int .i64 0, .slice none 0 0, .slice none 0 0]).alloc (.cells #[.int .i64 3, .slice (some ⟨w0.heap.size, 0, none⟩) 1 1, .slice none 0 0, .slice none 0 0] 123)
  have h2 := Blk.new (w0.alloc (.cells #[.int .i64 2, .int .i64 0, .int .i64 3, .int .i64 1, .int .i64 st, .int .i64 dr, .int .i64 0, .slice none 0 0, .slice none 0 0] 116)) 123 #[.int .i64 3, .slice (some ⟨w0.heap.size, 0, none⟩) 1 1, .slice none 0 0, .slice none 0 0]
  rw [show (w0.alloc (.cells #[.int .i64 2, .int .i64 0, .int .i64 3, .int .i64 1, .int .i64 st, .int .i64 dr, .int .i64 0, .slice none 0 0, .slice none 0 0] 116)).heap.size = w0.heap.size + 1 by simp] at h2
  refine (agreed_any 2 1 _ 1 [sW w0.heap.size st dr] _ _ (states_w h1 h2) (Nat.le_refl _) (by simp [maxLen]) rfl hr).mono fun r w' ⟨e, hb⟩ => ⟨e, ?_⟩
  exact (((Below.refl _ _).alloc (Nat.le_refl _) _).alloc (by simp) _).trans (hb.mono (by simp; omega))

set_option maxHeartbeats 2000000 in
set_option maxRecDepth 100000 in
theorem wakes27 (w : World) : Calls Try.prog 18 #[] w fun r w' => r = .returned (.bool true) ∧ Below w.heap.size w w' := by
  have hr1 : agreedC (candsOf (countedL [sW (w.heap.size + 1) 4 3]) 2) = (3, 0, true) := by rw [cands_w1]; exact agreed_w1
  have Hr1 := Lib.hid hr1
  have Hr2 := Lib.hid (fun g => show agreedC (candsOf (countedL [sW g 1 0]) 2) = (0, 0, false) by rw [cands_w2]; exact agreed_w2)
  clear hr1
  go_enter Try.func18, Try.ntmps18
  go_wp2_with (first
    | (go_at_call 20; (with_reducible refine Calls.mono (wake_call (w.alloc (.cells #[.int .i64 3, .int .i64 1, .int .i64 4, .int .i64 3, .int .i64 0] 110)) 4 3 (g1 := w.heap.size + 1) (g2 := w.heap.size + 1 + 1) (by simp) (by simp) Hr1.out) ?_); rintro r w1 ⟨rfl, hb1⟩; have hi1 := (Blk.new w 110 #[.int .i64 3, .int .i64 1, .int .i64 4, .int .i64 3, .int .i64 0]).below hb1 (by simp); have hbw := ((Below.refl w.heap.size w).alloc (Nat.le_refl _) (.cells #[.int .i64 3, .int .i64 1, .int .i64 4, .int .i64 3, .int .i64 0] 110)).trans (hb1.mono (by simp)); obtain ⟨w2, hW2, hi2, hb2⟩ : ∃ w2, (w1.setCell ⟨w.heap.size, 2, none⟩ (.int .i64 1)).setCell ⟨w.heap.size, 3, none⟩ (.int .i64 0) = w2 ∧ Blk w2 w.heap.size 110 #[.int .i64 3, .int .i64 1, .int .i64 1, .int .i64 0, .int .i64 0] ∧ Below w.heap.size w w2 := ⟨_, rfl, (by simpa using (hi1.set_ 2 (.int .i64 1)).set_ 3 (.int .i64 0)), (hbw.setCell (Nat.le_refl _) _).setCell (Nat.le_refl _) _⟩; obtain ⟨x0, x1, x2, x3, x4, f0, f1, f2, f3, f4⟩ := Blk.cells5 hi1; obtain ⟨y0, y1, y2, y3, y4, -⟩ := Blk.cells5 hi2; have Hb2 := Lib.hid hb2; clear hi1 hi2 hb1 hbw hb2)
    | (go_at_call 20; (with_reducible refine Calls.mono (wake_call w2 1 0 (g1 := w2.heap.size) (g2 := w2.heap.size + 1) rfl rfl (Hr2.out _)) ?_); rintro r w3 ⟨rfl, hb3⟩; have Hb3 := Lib.hid (Hb2.out.trans (hb3.mono Hb2.out.size)); clear hb3))
  go_ret
  exact ⟨rfl, Hb3.out⟩

end Go.Proofs.Ytfhikkmgclkcdaa
