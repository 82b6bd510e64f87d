/-
  Layer 16: the example.
-/
import Derived.Test.YtfhikkmgclkcdaaRxHas
namespace Go.Proofs.Ytfhikkmgclkcdaa
open Go.RowKit

def wk : List K3 := [⟨0, 4, 0⟩, ⟨0, 3, 0⟩, ⟨0, 2, 0⟩, ⟨0, 1, 0⟩]
theorem wk_list : listK (addAll [] 0 2 wk) 0 2 = [⟨0, 1, 0⟩, ⟨0, 2, 0⟩, ⟨0, 3, 0⟩, ⟨0, 4, 0⟩] := by
  have h : keysOf (addAll [] 0 2 wk) 0 2 = wk := by decide
  unfold listK
  rw [h]
  exact sorted_one ((sortK_perm _).trans (by decide)) (sortK_sorted _) (by decide)
theorem rows_blk {α : Type} {C : Nat} {cells : α → List Value} (hC : ∀ x, (cells x).length = C) {w : World} {g : Nat} {t : TypeId} {M : List α} (h : Blk w g t (M.flatMap cells).toArray) : RowsAt C cells w w.heap.size (some ⟨g, 0, none⟩) M := by
  intro _
  refine ⟨g, 0, rfl, h.lt, fun k hk i u hi hu => ?_⟩
  rw [h.cell]
  rw [List.getElem?_toArray, show 0 + k * C + i = k * C + i by omega, flatR cells C hC M k i hk hi, hu]
set_option maxHeartbeats 2000000 in
set_option maxRecDepth 100000 in
theorem wakes16 (w : World) : Calls Try.prog 41 #[] w fun r w' => r = .returned (.bool true) ∧ Below w.heap.size w w' := by
  have hp : ∀ W : World, RxAt W (w.heap.size + 1) w.heap.size [] → ∀ o, o = Obj.cells (wk.flatMap K3.cells).toArray 61 → Calls Try.prog 43 #[.pointer (some ⟨w.heap.size + 1, 0, none⟩), .int .i64 0, .int .i64 2, .slice (some ⟨W.heap.size, 0, none⟩) 4 4] (W.alloc o) fun r w' =>
      r = .returned (.int .i64 4) ∧ RxAt w' (w.heap.size + 1) w.heap.size (addAll [] 0 2 wk) ∧ (W.alloc o).grownBy w' (some w.heap.size) := by
    intro W hR o ho
    subst ho
    have hW := hR.map.lt
    have hrow : RowsAt 3 K3.cells (W.alloc (.cells (wk.flatMap K3.cells).toArray 61)) (W.heap.size + 1) (some ⟨W.heap.size, 0, none⟩) wk := by
      have := rows_blk (C := 3) (cells := K3.cells) (fun _ => rfl) (Blk.new W 61 (wk.flatMap K3.cells).toArray)
      simpa using this
    refine (Put_of sortsK (w.heap.size + 1) w.heap.size [] 0 2 (some ⟨W.heap.size, 0, none⟩) 4 wk _ (hR.alloc _) (W.heap.size + 1) (rows_grown hrow (by simp) (fun g o e _ => by injection e with e; injection e with e; omega)) (by decide) 4 rfl).mono ?_
    rintro r w' ⟨rfl, h1, h2⟩
    exact ⟨by rw [wk_list]; rfl, h1, h2⟩
  have Hp := Lib.hid hp
  clear hp
  go_enter Try.func41, Try.ntmps41
  go_wp2_with fail
  with_reducible refine Calls.mono (New16 w) ?_
  rintro r w1 ⟨rfl, hR1, hb1⟩
  have HR1 := Lib.hid hR1
  have Hb1 := Lib.hid hb1
  clear hR1 hb1
  go_wp2_with fail
  with_reducible refine Calls.mono (Hp.out w1 HR1.out _ rfl) ?_
  rintro r w2 ⟨rfl, hR2, hg2⟩
  have hb2 : Below w.heap.size w w2 := (Hb1.out.alloc Hb1.out.size _).grown hg2 (by have := Hb1.out.size; simp; omega) (fun k hk => by injection hk with hk; omega)
  have hl2 : (addAll [] 0 2 wk).length ≤ 2 ^ 20 := by decide
  have HN := Lib.hid (Next_any (w.heap.size + 1) w.heap.size (addAll [] 0 2 wk) 0 2 w2 hR2 hl2)
  rw [wk_list] at HN
  have Hb2 := Lib.hid hb2
  clear hR2 hg2 hb2 hl2
  go_wp2_with fail
  with_reducible refine Calls.mono HN.out ?_
  rintro r w3 ⟨v, rfl, hown, hb3⟩
  have Hb3 := Lib.hid (Hb2.out.trans (hb3.mono Hb2.out.size))
  rcases hown.shape2 with ⟨-, hn⟩ | ⟨g, c, rfl, hc⟩
  · cases hn
  · have hrow := (OwnR.rows (C := 3) (cells := K3.cells) (fun _ => rfl) hown).2
    have z1 : w3.cell? ⟨g, 1, none⟩ = some (.int .i64 1) := (row_k3_at hrow 0 (by decide)).2.1
    clear hown hrow hb3
    go_wp2
    go_ret
    exact ⟨rfl, Hb3.out⟩

end Go.Proofs.Ytfhikkmgclkcdaa
