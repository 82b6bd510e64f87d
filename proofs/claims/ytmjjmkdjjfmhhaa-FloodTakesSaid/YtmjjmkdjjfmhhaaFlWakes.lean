/-
  The example of layer 18.
-/
import Derived.Test.YtmjjmkdjjfmhhaaFlOverL
namespace Go.Proofs.Ytmjjmkdjjfmhhaa
open Go.RowKit

set_option maxHeartbeats 1000000 in
/-- who isn't at work has nothing -/
theorem has_idle {p : Peer} (hp : worksB p = false) (age kind hid adv seq sum long : Int) (A : Option Addr) (n cap : Nat) (w : World) :
    Calls Try.prog 123 #[.agg #[.int .i64 age, .int .i64 kind, .int .i64 hid, .int .i64 adv, .int .i64 seq, .int .i64 sum, .int .i64 long], p.val, .slice A n cap] w fun r w' => r = .returned (.bool false) ∧ Below w.heap.size w w' := by
  rcases p with ⟨a, b, c, d, e, t, f⟩
  have hb0 : ∀ o q, Below w.heap.size w ((w.alloc o).alloc q) := fun o q => ((Below.refl _ _).alloc (Nat.le_refl _) o).alloc (by simp) q
  have Hb0 := Lib.hid hb0
  have Hp := Lib.hid hp
  clear hb0 hp
  simp only [Peer.val]
  go_enter Try.func123, Try.ntmps123
  go_wp2_with (go_at_call 162; (with_reducible refine Calls.mono (works_any _ _ _ _ _ _ _ _) ?_); rw [Hp.out]; rintro r w2 ⟨rfl, hb2⟩; have Hb2 := Lib.hid ((Hb0.out _ _).trans (hb2.mono (Hb0.out _ _).size)); clear hb2)
  go_ret
  exact ⟨rfl, Hb2.out⟩

def exV (gp : Nat) : Viw := ⟨2, 0, 1, 1, 4, 1, 0, some ⟨gp, 0, none⟩, 1, [⟨2, 0, 0, 0, 6, false, 0⟩], none, 0, []⟩
theorem ex_at (w : World) : ViewsAt ((w.alloc (.cells #[.int .i64 2, .int .i64 0, .int .i64 0, .int .i64 0, .int .i64 6, .bool false, .int .i64 0] 100)).alloc (.cells #[.int .i64 2, .int .i64 0, .int .i64 1, .int .i64 1, .int .i64 4, .int .i64 1, .int .i64 0, .slice (some ⟨w.heap.size, 0, none⟩) 1 1, .slice none 0 0] 104))
    (w.heap.size + 2) (some ⟨w.heap.size + 1, 0, none⟩) [exV w.heap.size] := by
  have hp := (Blk.new w 100 #[.int .i64 2, .int .i64 0, .int .i64 0, .int .i64 0, .int .i64 6, .bool false, .int .i64 0]).alloc (.cells #[.int .i64 2, .int .i64 0, .int .i64 1, .int .i64 1, .int .i64 4, .int .i64 1, .int .i64 0, .slice (some ⟨w.heap.size, 0, none⟩) 1 1, .slice none 0 0] 104)
  have hv : Blk _ (w.heap.size + 1) _ _ := Blk.size (w := w.alloc (.cells #[.int .i64 2, .int .i64 0, .int .i64 0, .int .i64 0, .int .i64 6, .bool false, .int .i64 0] 100)) (t := 104) (cs := #[.int .i64 2, .int .i64 0, .int .i64 1, .int .i64 1, .int .i64 4, .int .i64 1, .int .i64 0, .slice (some ⟨w.heap.size, 0, none⟩) 1 1, .slice none 0 0]) (by simp)
  refine ⟨fun _ => ⟨_, 0, rfl, by omega, fun k hk i u hi hu => ?_⟩, fun v hv' => ?_⟩
  · have hk0 : k = 0 := by simp at hk; exact hk
    subst hk0
    rw [show 0 + 0 * 9 + i = i by omega, hv.cell i, ← hu]
    simp [exV, Viw.cells]
  · rw [List.mem_singleton] at hv'
    subst hv'
    refine ⟨fun _ => ⟨_, 0, rfl, by omega, fun k hk i u hi hu => ?_⟩, fun h => absurd h (by simp [exV]), (by show 1 ≤ maxLen; unfold maxLen; omega), (by show 0 ≤ maxLen; omega)⟩
    have hk0 : k = 0 := by simp [exV] at hk; exact hk
    subst hk0
    rw [show 0 + 0 * 7 + i = i by omega, hp.cell i, ← hu]
    simp [exV, Peer.cells]
theorem ex_over (gp : Nat) : overS (fun _ => false) (cameB (-1) 0 (exV gp)) 0 (exV gp) = ⟨2, [2], true, 0⟩ := by
  simp [overS, cameB, exV, listedL, goesB, toldB, destI]

theorem ex_read {w : World} {B : Nat} {v : Value} {L : List SV} {lan to : Int} {l : List Int} {sent : Bool} (hown : OwnS w B v L) (hL : L.map (·.1) = [⟨lan, l, sent, to⟩]) :
    ∃ g cap A1 cap1, v = .slice (some ⟨g, 0, none⟩) 1 cap ∧ w.cell? ⟨g, 0, none⟩ = some (.int .i64 lan) ∧ w.cell? ⟨g, 1, none⟩ = some (.slice A1 l.length cap1) ∧ w.cell? ⟨g, 2, none⟩ = some (.bool sent) ∧ w.cell? ⟨g, 3, none⟩ = some (.int .i64 to) := by
  match L, hL with
  | [(S, sv)], hL =>
    simp at hL
    subst hL
    obtain ⟨g, cap, rfl, _, _, x0, x1, x2, x3⟩ := hown.at_ 0 (by simp)
    obtain ⟨A1, cap1, hs⟩ := (hown.each _ (List.mem_singleton.2 rfl)).1.shape
    simp only at hs
    subst hs
    refine ⟨g, cap, A1, cap1, rfl, by simpa using x0, by simpa using x1, by simpa using x2, by simpa using x3⟩

set_option maxHeartbeats 2000000 in
set_option maxRecDepth 100000 in
theorem wakes18 (w : World) : Calls Try.prog 14 #[] w fun r w' => r = .returned (.bool true) ∧ Below w.heap.size w w' := by
  have hb0 : ∀ o q, Below w.heap.size w ((w.alloc o).alloc q) := fun o q => ((Below.refl _ _).alloc (Nat.le_refl _) o).alloc (by simp) q
  have Hb0 := Lib.hid hb0
  have hcall := Over_any (fun _ _ => false) 0 1 1 1 0 0 0 (-1) 0 _ 1 [exV w.heap.size] _ _ (ex_at w) (by simp) (by simp) (by intro v hv; rw [List.mem_singleton] at hv; subst hv; simp [exV])
    (by
      intro v hv p hp w' _
      rw [List.mem_singleton] at hv
      subst hv
      simp only [exV, List.mem_singleton] at hp
      subst hp
      exact has_idle (by rfl) _ _ _ _ _ _ _ _ _ _ _)
  simp only [List.map_cons, List.map_nil, ex_over] at hcall
  have Hcall := Lib.hid hcall
  clear hcall hb0
  go_enter Try.func14, Try.ntmps14
  go_wp2_with (go_at_call 60; (refine Calls.mono Hcall.out ?_); rintro r w2 ⟨v, L, rfl, hown, hL, hb2⟩; obtain ⟨g, cap, A1, cap1, rfl, x0, x1, x2, x3⟩ := ex_read hown hL; have Hb2 := Lib.hid ((Hb0.out _ _).trans (hb2.mono (Hb0.out _ _).size)); clear hown hL hb2)
  go_ret
  exact ⟨rfl, Hb2.out⟩

end Go.Proofs.Ytmjjmkdjjfmhhaa
