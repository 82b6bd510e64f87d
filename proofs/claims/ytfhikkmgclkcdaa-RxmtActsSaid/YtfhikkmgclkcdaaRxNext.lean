/-
  Layer 16: the first keys of a list; new lists.
-/
import Derived.Test.YtfhikkmgclkcdaaAppRows
import Derived.Test.YtfhikkmgclkcdaaRxSort
import Derived.Test.YtfhikkmgclkcdaaRxPut
namespace Go.Proofs.Ytfhikkmgclkcdaa
open Go.RowKit

set_option maxHeartbeats 1000000 in
theorem New16 (w : World) : Calls Try.prog 42 #[] w fun r w' => r = .returned (.pointer (some ⟨w.heap.size + 1, 0, none⟩)) ∧ RxAt w' (w.heap.size + 1) w.heap.size [] ∧ Below w.heap.size w w' := by
  have hmm := @run_makeMap Try.prog
  go_enter Try.func42, Try.ntmps42
  go_wp2
  go_ret
  refine ⟨rfl, ⟨Blk.size (by simp), (MapAt.new w).alloc _⟩, ((Below.refl _ _).alloc (Nat.le_refl _) _).alloc (by simp) _⟩
theorem OwnR.shape2 {α : Type} {e : TypeId} {C : Nat} {cells : α → List Value} {w : World} {B : Nat} {v : Value} {L : List α} (h : OwnR e C cells w B v L) : (v = .slice none 0 0 ∧ L = []) ∨ ∃ g cap, v = .slice (some ⟨g, 0, none⟩) L.length cap ∧ L.length ≤ cap := by
  rcases h.2 with ⟨rfl, hn⟩ | ⟨g, cap, cur, rfl, _, _, hnc, _⟩
  · exact .inl ⟨rfl, List.eq_nil_of_length_eq_zero hn⟩
  · exact .inr ⟨g, cap, rfl, hnc⟩
set_option maxHeartbeats 2000000 in
set_option maxRecDepth 100000 in
theorem Next_any (p b : Nat) (R : List E5) (lan id : Int) (w : World) (hR : RxAt w p b R) (hlen : R.length ≤ 2 ^ 20) :
    Calls Try.prog 44 #[.pointer (some ⟨p, 0, none⟩), .int .i64 lan, .int .i64 id] w fun r w' => ∃ v, r = .returned v ∧ OwnR 61 3 K3.cells w' w.heap.size v ((listK R lan id).take 3) ∧ Below w.heap.size w w' := by
  have H := Lib.hid (list_of sortsK p b R lan id w hR hlen)
  have hl := Nat.le_trans (listK_len R lan id) hlen
  clear hR hlen
  generalize listK R lan id = L at *
  go_enter Try.func44, Try.ntmps44
  go_wp2_with fail
  with_reducible refine Calls.mono H.out ?_
  rintro r w2 ⟨v, rfl, hown, hb2⟩
  have Hb2 := Lib.hid hb2
  have Hown := Lib.hid hown
  rcases hown.shape2 with ⟨rfl, rfl⟩ | ⟨g, c, rfl, hc⟩
  · clear hb2 hown
    have hmin : min (0 : Int) 3 = 0 := by decide
    go_wp2
    go_ret
    exact ⟨_, rfl, OwnR.nil _ _, Hb2.out⟩
  · clear hb2 hown
    have Hrows := Lib.hid (rows_take (OwnR.rows (C := 3) (cells := K3.cells) (fun _ => rfl) Hown.out).2 3)
    have Hlt := Lib.hid (show ([] : List K3).length + (L.take 3).length ≤ 2 ^ 30 by simp; omega)
    have hend : ∀ (v5 : Value) (w5 : World), OwnR 61 3 K3.cells w5 w.heap.size v5 ([] ++ L.take 3) → w2.grownBy w5 (Value.slice none 0 0).ownBlock → OwnR 61 3 K3.cells w5 w.heap.size v5 (L.take 3) ∧ Below w.heap.size w w5 := fun v5 w5 h1 h2 =>
      ⟨by simpa using h1, Hb2.out.grown h2 Hb2.out.size (fun k hk => by simp [Value.ownBlock] at hk)⟩
    have Hend := Lib.hid hend
    clear hend
    by_cases h3 : L.length ≤ 3
    · have hmin : min (L.length : Int) 3 = (L.length : Int) := by omega
      have hcc : (0 : Int) ≤ (L.length : Int) ∧ (L.length : Int) ≤ (c : Int) := by omega
      have Htl := Lib.hid (show L.length = (L.take 3).length by simp; omega)
      go_wp2_with (at_builtin; (refine app_rows (e := 61) (bytes := 24) K3.cells (fun _ => rfl) (by decide) (by decide) infoKey rfl Try.underlying81 onesK (by rfl) _ _ (by rfl) w.heap.size (.slice none 0 0) [] (by rfl) (OwnR.nil _ _) (some ⟨g, 0, none⟩) c L.length (L.take 3) Htl.out (by rfl) Hrows.out Hlt.out Hb2.out.size ?_); intro v5 w5 hown5 hg5 hor5; have Hown5 := Lib.hid hown5; have Hg5 := Lib.hid hg5; clear hown5 hg5 hor5)
      go_ret
      exact ⟨_, rfl, Hend.out _ _ Hown5.out Hg5.out⟩
    · have hmin : min (L.length : Int) 3 = 3 := by omega
      have hcc : (3 : Int) ≤ (c : Int) := by omega
      have Htl := Lib.hid (show 3 = (L.take 3).length by simp; omega)
      go_wp2_with (at_builtin; (refine app_rows (e := 61) (bytes := 24) K3.cells (fun _ => rfl) (by decide) (by decide) infoKey rfl Try.underlying81 onesK (by rfl) _ _ (by rfl) w.heap.size (.slice none 0 0) [] (by rfl) (OwnR.nil _ _) (some ⟨g, 0, none⟩) c 3 (L.take 3) Htl.out (by rfl) Hrows.out Hlt.out Hb2.out.size ?_); intro v5 w5 hown5 hg5 hor5; have Hown5 := Lib.hid hown5; have Hg5 := Lib.hid hg5; clear hown5 hg5 hor5)
      go_ret
      exact ⟨_, rfl, Hend.out _ _ Hown5.out Hg5.out⟩

end Go.Proofs.Ytfhikkmgclkcdaa
