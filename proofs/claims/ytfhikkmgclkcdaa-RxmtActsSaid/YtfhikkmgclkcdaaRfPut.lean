/-
  Layer 16: the document's Put.
-/
import Derived.Maps.RangeWalk
import Derived.Test.YtfhikkmgclkcdaaRegionF
import Derived.Test.YtfhikkmgclkcdaaRfList
namespace Go.Proofs.Ytfhikkmgclkcdaa
open Go.RowKit

/-- nothing old has turned but the pointer's block and a row -/
structure Kept2 (w w' : World) (q : Nat) (row : Option Nat) : Prop where
  os : w'.os = w.os
  tape : w'.tape = w.tape
  output : w'.output = w.output
  size : w.heap.size ≤ w'.heap.size
  block : ∀ i, i < w.heap.size → i ≠ q → some i ≠ row → w'.heap[i]? = w.heap[i]?
section
variable {w w' w'' : World} {q : Nat} {row : Option Nat}
theorem Kept2.refl (w : World) (q : Nat) (row : Option Nat) : Kept2 w w q row := ⟨rfl, rfl, rfl, Nat.le_refl _, fun _ _ _ _ => rfl⟩
theorem Kept2.keep (h : Kept2 w w' q row) (hb : Below w'.heap.size w' w'') : Kept2 w w'' q row :=
  ⟨hb.os.trans h.os, hb.tape.trans h.tape, hb.output.trans h.output, Nat.le_trans h.size hb.size, fun i hi h1 h2 => (hb.block i (Nat.lt_of_lt_of_le hi h.size)).trans (h.block i hi h1 h2)⟩
theorem Kept2.grown {r2 : Option Nat} (h : Kept2 w w' q row) (hg : w'.grownBy w'' r2) (hr : ∀ g, r2 = some g → row = some g ∨ w.heap.size ≤ g) : Kept2 w w'' q row :=
  ⟨hg.os.trans h.os, hg.tape.trans h.tape, hg.output.trans h.output, Nat.le_trans h.size hg.size, fun i hi h1 h2 => (hg.block i (Nat.lt_of_lt_of_le hi h.size) (fun e => by
    rcases hr i e.symm with h3 | h3
    · exact h2 h3.symm
    · omega)).trans (h.block i hi h1 h2)⟩
theorem Kept2.set_ (h : Kept2 w w' q row) {p : Addr} (hp : p.block = q) (u : Value) : Kept2 w (w'.setCell p u) q row :=
  ⟨h.os, h.tape, h.output, by simpa [World.setCell] using h.size, fun i hi h1 h2 => (Below.heap_setCell w' p u i (by rintro rfl; exact h1 hp)).trans (h.block i hi h1 h2)⟩
theorem Kept2.rows {α : Type} {C : Nat} {cells : α → List Value} {B : Nat} {A : Option Addr} {M : List α} (h : RowsAt C cells w B A M) (hB : B ≤ w.heap.size) (hne : ∀ g o, A = some ⟨g, o, none⟩ → g ≠ q ∧ some g ≠ row) (hk : Kept2 w w' q row) : RowsAt C cells w' B A M := by
  intro h0
  obtain ⟨b1, o1, e, hb1, hc⟩ := h h0
  refine ⟨b1, o1, e, hb1, fun k hk' i u hi hu => ?_⟩
  have := hk.block b1 (by omega) (hne b1 o1 e).1 (hne b1 o1 e).2
  rw [← hc k hk' i u hi hu]
  simp [World.cell?, this]
end
theorem row_k3b {w : World} {B : Nat} {A : Option Addr} {l : List K3} (h : RowsAt 3 K3.cells w B A l) (k : Nat) (hk : k < l.length) :
    ∃ b o, A = some ⟨b, o, none⟩ ∧ b < B ∧ w.cell? ⟨b, o + k * 3, none⟩ = some (.int .i64 l[k].kind) ∧ w.cell? ⟨b, o + k * 3 + 1, none⟩ = some (.int .i64 l[k].id) ∧ w.cell? ⟨b, o + k * 3 + 2, none⟩ = some (.int .i64 l[k].adv) := by
  obtain ⟨b, o, e, hb, hc⟩ := h (by omega)
  exact ⟨b, o, e, hb, by simpa using hc k hk 0 _ (by omega) rfl, hc k hk 1 _ (by omega) rfl, hc k hk 2 _ (by omega) rfl⟩
theorem infoRow : (Try.prog.info? 168).map (fun i => (i.zero, i.size, i.bytes)) = some (some (.agg #[.int .i64 0, .int .i64 0, .int .i64 0, .int .i64 0, .int .i64 0]), 5, 40) := by kernel_rfl
theorem onesE (x : E5) : ∀ u ∈ E5.cells x, u.oneCell' = true := by
  intro u hu
  simp [E5.cells] at hu
  rcases hu with rfl | rfl | rfl | rfl | rfl <;> rfl

set_option maxHeartbeats 4000000 in
set_option maxRecDepth 100000 in
theorem refPut_any (q : Nat) (v : Value) (R : List E5) (lan id : Int) (A : Option Addr) (cap : Nat) (ks : List K3) (w : World) (hR : RfAt w q v R) (B : Nat) (hks : RowsAt 3 K3.cells w B A ks) (hB : B ≤ w.heap.size) (hne : 0 < ks.length → ∀ g o, A = some ⟨g, o, none⟩ → g ≠ q ∧ some g ≠ v.ownBlock) (hlen : R.length + ks.length ≤ 2 ^ 20) (n : Nat) (hn : n = ks.length) :
    Calls Try.prog 51 #[.pointer (some ⟨q, 0, none⟩), .int .i64 lan, .int .i64 id, .slice A n cap] w fun r w' =>
      ∃ u, r = .returned (.int .i64 (listK (addAll R lan id ks) lan id).length) ∧ RfAt w' q u (addAll R lan id ks) ∧ Kept2 w w' q v.ownBlock ∧ (∀ g, u.ownBlock = some g → v.ownBlock = some g ∨ w.heap.size ≤ g) := by
  subst hn
  have HR := Lib.hid hR
  have Hks := Lib.hid hks
  have Hne := Lib.hid hne
  have hall := addAll_len R lan id ks
  have Hall := Lib.hid hall
  clear hR hks hall hne
  go_enter Try.func51, Try.ntmps51
  go_wp2
  go_loopw [9] (fun i wr => ∃ (k : Nat) (u : Value), i = .int .i64 k ∧ k ≤ ks.length ∧ RfAt wr q u (addAll R lan id (ks.take k)) ∧ Kept2 w wr q v.ownBlock ∧ (∀ g, u.ownBlock = some g → v.ownBlock = some g ∨ w.heap.size ≤ g)) (fun i _ => ks.length - (intOf i).toNat)
  case atStart => exact ⟨0, v, rfl, Nat.zero_le _, HR.out, Kept2.refl _ _ _, fun g hg => .inl hg⟩
  case round =>
    obtain ⟨k, u, rfl, hk, hrf, hkp, hub⟩ := hrel
    by_cases hlt : k < ks.length
    · obtain ⟨g, o, hA, hgB, x0, x1, x2⟩ := row_k3b (Kept2.rows Hks.out hB (Hne.out (by omega)) hkp) k hlt
      have hgv := Hne.out (by omega) g o hA
      subst hA
      have hz := addAll_take R lan id ks k hlt
      have HZ := Lib.hid hz
      have hkl : (k : Int) < (ks.length : Int) := by omega
      have hRl : (addAll R lan id (ks.take k)).length ≤ 2 ^ 20 := by
        have h1 := addAll_len R lan id (ks.take k)
        rw [List.length_take] at h1
        omega
      clear hz
      generalize ks[k] = c at *
      obtain ⟨k1, k2, k3⟩ := c
      generalize addAll R lan id (ks.take k) = R1 at *
      obtain ⟨Au, cu, hu⟩ := hrf.own.shape
      subst hu
      simp only at x0 x1 x2
      have HFind := Lib.hid (refFind_any q _ R1 lan id k1 k2 k3 wr hrf hRl rfl)
      have Hrf := Lib.hid hrf
      have Hkp := Lib.hid hkp
      have Hub := Lib.hid hub
      have hidx := (idx_on R1 ⟨lan, id, ⟨k1, k2, k3⟩⟩).2
      have Hon := Lib.hid (show onB16 R1 ⟨lan, id, ⟨k1, k2, k3⟩⟩ = decide ((⟨lan, id, ⟨k1, k2, k3⟩⟩ : E5) ∈ R1) from rfl)
      generalize idxI R1 ⟨lan, id, ⟨k1, k2, k3⟩⟩ = z at *
      have hgq : g ≠ q ∧ some g ≠ (Value.slice Au R1.length cu).ownBlock := ⟨hgv.1, fun e => by
        rcases hub g e.symm with h | h
        · exact hgv.2 h.symm
        · omega⟩
      clear hrf hkp hub
      by_cases hm : (⟨lan, id, ⟨k1, k2, k3⟩⟩ : E5) ∈ R1
      · have Hadd := Lib.hid (show addR R1 ⟨lan, id, ⟨k1, k2, k3⟩⟩ = R1 by unfold addR; rw [if_pos hm])
        rw [Hon.out, decide_eq_true hm] at hidx
        simp only [Bool.not_true] at hidx
        clear hm
        go_wp2_with (go_at_call 58; (with_reducible refine Calls.mono HFind.out ?_); rintro r w3 ⟨rfl, hb3⟩; have Hb3 := Lib.hid hb3; clear hb3)
        go_roundw
        case measure => simp [intOf]; omega
        case rel => exact ⟨k + 1, _, by go_num, hlt, by rw [HZ.out, Hadd.out]; exact Hrf.out.keep Hb3.out, Hkp.out.keep Hb3.out, Hub.out⟩
      · have Hadd := Lib.hid (show addR R1 ⟨lan, id, ⟨k1, k2, k3⟩⟩ = R1 ++ [⟨lan, id, ⟨k1, k2, k3⟩⟩] by unfold addR; rw [if_neg hm])
        rw [Hon.out, decide_eq_false hm] at hidx
        simp only [Bool.not_false] at hidx
        clear hm
        go_wp2_with (go_at_call 58; (with_reducible refine Calls.mono HFind.out ?_); rintro r w3 ⟨rfl, hb3⟩; have Hb3 := Lib.hid hb3; clear hb3)
        have HWD := Lib.hid (show ∀ wd : World, wd = w3.drew → (wd.cell? ⟨q, 0, none⟩ = some (.slice Au R1.length cu) ∧ wd.cell? ⟨g, o + k * 3, none⟩ = some (.int .i64 k1) ∧ wd.cell? ⟨g, o + k * 3 + 1, none⟩ = some (.int .i64 k2) ∧ wd.cell? ⟨g, o + k * 3 + 2, none⟩ = some (.int .i64 k3)) ∧ RfAt wd q (.slice Au R1.length cu) R1 ∧ Kept2 w wd q v.ownBlock by
          rintro wd rfl
          have h3 : Kept2 w w3.drew q v.ownBlock := Hkp.out.keep Hb3.out.drew
          have hR3 : RfAt w3.drew q (.slice Au R1.length cu) R1 := Hrf.out.keep Hb3.out.drew
          exact ⟨⟨hR3.cell, cellIn x0 Hb3.out.drew, cellIn x1 Hb3.out.drew, cellIn x2 Hb3.out.drew⟩, hR3, h3⟩)
        have HFa := Lib.hid (show ∀ wd : World, (wd.cell? ⟨q, 0, none⟩ = some (.slice Au R1.length cu) ∧ wd.cell? ⟨g, o + k * 3, none⟩ = some (.int .i64 k1) ∧ wd.cell? ⟨g, o + k * 3 + 1, none⟩ = some (.int .i64 k2) ∧ wd.cell? ⟨g, o + k * 3 + 2, none⟩ = some (.int .i64 k3)) →
            ((wd.alloc (.cells #[.int .i64 lan, .int .i64 id, .int .i64 k1, .int .i64 k2, .int .i64 k3] 168)).cell? ⟨q, 0, none⟩ = some (.slice Au R1.length cu) ∧ (wd.alloc (.cells #[.int .i64 lan, .int .i64 id, .int .i64 k1, .int .i64 k2, .int .i64 k3] 168)).cell? ⟨g, o + k * 3, none⟩ = some (.int .i64 k1) ∧
              (wd.alloc (.cells #[.int .i64 lan, .int .i64 id, .int .i64 k1, .int .i64 k2, .int .i64 k3] 168)).cell? ⟨g, o + k * 3 + 1, none⟩ = some (.int .i64 k2) ∧ (wd.alloc (.cells #[.int .i64 lan, .int .i64 id, .int .i64 k1, .int .i64 k2, .int .i64 k3] 168)).cell? ⟨g, o + k * 3 + 2, none⟩ = some (.int .i64 k3)) from
          fun wd ⟨a, b, c, d⟩ => ⟨cell_new a _, cell_new b _, cell_new c _, cell_new d _⟩)
        have HApp := Lib.hid (show ∀ wd : World, RfAt wd q (.slice Au R1.length cu) R1 → ∃ v5 w5, (Builtin.append_ #[97, 97] 97 #[.slice Au R1.length cu, .slice (some ⟨wd.heap.size, 0, none⟩) 1 1]).run Try.prog (wd.alloc (.cells #[.int .i64 lan, .int .i64 id, .int .i64 k1, .int .i64 k2, .int .i64 k3] 168)) = .ok v5 w5 ∧
            OwnR 168 5 E5.cells w5 (q + 1) v5 (R1 ++ [⟨lan, id, ⟨k1, k2, k3⟩⟩]) ∧ (wd.alloc (.cells #[.int .i64 lan, .int .i64 id, .int .i64 k1, .int .i64 k2, .int .i64 k3] 168)).grownBy w5 (Value.slice Au R1.length cu).ownBlock ∧ (v5.ownBlock = (Value.slice Au R1.length cu).ownBlock ∨ v5.ownBlock = some (wd.heap.size + 1)) from fun wd h => by
          obtain ⟨v5, w5, h1, h2, h3, h4⟩ := app_row_run (e := 168) (sl := 97) E5.cells (fun _ => rfl) (by decide) (bytes := 40) (by decide) infoRow rfl Try.underlying97 onesE 97 (q + 1) (.slice Au R1.length cu) R1 (h.own.alloc (.cells #[.int .i64 lan, .int .i64 id, .int .i64 k1, .int .i64 k2, .int .i64 k3] 168)) wd.heap.size ⟨lan, id, ⟨k1, k2, k3⟩⟩ (Blk.new wd _ _) (by omega) (by have := h.ptr.lt; simp; omega)
          exact ⟨v5, w5, h1, h2, h3, by simpa using h4⟩)
        have HQ := Lib.hid (show ∀ wd w5 : World, RfAt wd q (.slice Au R1.length cu) R1 → (wd.alloc (.cells #[.int .i64 lan, .int .i64 id, .int .i64 k1, .int .i64 k2, .int .i64 k3] 168)).grownBy w5 (Value.slice Au R1.length cu).ownBlock → Blk w5 q 99 #[.slice Au R1.length cu] from
          fun wd w5 h hg => (h.ptr.alloc _).grown hg (fun e => by have := (h.own.block q e.symm).1; omega))
        have hkey : ∀ (wd w5 : World) (i : Nat) (x : Value), g ≠ q ∧ some g ≠ (Value.slice Au R1.length cu).ownBlock → wd.cell? ⟨g, i, none⟩ = some x → (wd.alloc (.cells #[.int .i64 lan, .int .i64 id, .int .i64 k1, .int .i64 k2, .int .i64 k3] 168)).grownBy w5 (Value.slice Au R1.length cu).ownBlock → w5.cell? ⟨g, i, none⟩ = some x :=
          fun wd w5 i x hne hx hg => cell_only hx hg hne.2
        have HFb := Lib.hid (show ∀ wd w5 : World, (wd.cell? ⟨q, 0, none⟩ = some (.slice Au R1.length cu) ∧ wd.cell? ⟨g, o + k * 3, none⟩ = some (.int .i64 k1) ∧ wd.cell? ⟨g, o + k * 3 + 1, none⟩ = some (.int .i64 k2) ∧ wd.cell? ⟨g, o + k * 3 + 2, none⟩ = some (.int .i64 k3)) →
            (wd.alloc (.cells #[.int .i64 lan, .int .i64 id, .int .i64 k1, .int .i64 k2, .int .i64 k3] 168)).grownBy w5 (Value.slice Au R1.length cu).ownBlock → (w5.cell? ⟨q, 0, none⟩ = some (.slice Au R1.length cu) ∧ w5.cell? ⟨g, o + k * 3, none⟩ = some (.int .i64 k1) ∧ w5.cell? ⟨g, o + k * 3 + 1, none⟩ = some (.int .i64 k2) ∧ w5.cell? ⟨g, o + k * 3 + 2, none⟩ = some (.int .i64 k3)) from
          fun wd w5 ⟨a, b, c, d⟩ hg => ⟨cell_only a hg (fun e => by have := (Hrf.out.own.block q e.symm).1; omega), hkey wd w5 _ _ hgq b hg, hkey wd w5 _ _ hgq c hg, hkey wd w5 _ _ hgq d hg⟩)
        have HEnd := Lib.hid (show ∀ (wd w5 : World) (v5 : Value), RfAt wd q (.slice Au R1.length cu) R1 → Kept2 w wd q v.ownBlock → OwnR 168 5 E5.cells w5 (q + 1) v5 (R1 ++ [⟨lan, id, ⟨k1, k2, k3⟩⟩]) → (wd.alloc (.cells #[.int .i64 lan, .int .i64 id, .int .i64 k1, .int .i64 k2, .int .i64 k3] 168)).grownBy w5 (Value.slice Au R1.length cu).ownBlock →
            (v5.ownBlock = (Value.slice Au R1.length cu).ownBlock ∨ v5.ownBlock = some (wd.heap.size + 1)) → RfAt (w5.setCell ⟨q, 0, none⟩ v5) q v5 (R1 ++ [⟨lan, id, ⟨k1, k2, k3⟩⟩]) ∧ Kept2 w (w5.setCell ⟨q, 0, none⟩ v5) q v.ownBlock ∧ (∀ g, v5.ownBlock = some g → v.ownBlock = some g ∨ w.heap.size ≤ g) from by
          intro wd w5 v5 h hk ho hg hor
          have hq := HQ.out wd w5 h hg
          refine ⟨⟨by simpa using hq.set_ 0 v5, ho.set_ (by simp) v5⟩, (((hk.keep ((Below.refl _ _).alloc (Nat.le_refl _) _)).grown hg Hub.out).set_ rfl v5), fun g' hg' => ?_⟩
          rcases hor with e | e
          · exact Hub.out g' (by rw [← e]; exact hg')
          · right
            rw [e] at hg'
            injection hg' with hg'
            have := hk.size
            omega)
        clear x0 x1 x2 hkey
        refine wp_region_F (F := fun W => W.cell? ⟨q, 0, none⟩ = some (.slice Au R1.length cu) ∧ W.cell? ⟨g, o + k * 3, none⟩ = some (.int .i64 k1) ∧ W.cell? ⟨g, o + k * 3 + 1, none⟩ = some (.int .i64 k2) ∧ W.cell? ⟨g, o + k * 3 + 2, none⟩ = some (.int .i64 k3)) (n := 16) (m := 17) (s := #[false, false, false, false, false, false, false, false, false, false, false, false, false, false, false, false, false]) (by kernel_rfl) (by kernel_rfl) (by kernel_rfl) ?_
        intro wd hwd
        obtain ⟨hF1, hR3, hK3⟩ := HWD.out wd hwd.out
        clear hwd
        refine F_take (i := 0) (d := some 25) (by kernel_rfl) (by kernel_rfl) (by decide) (s' := #[true, false, false, false, false, false, false, false, false, false, false, false, false, false, false, false, false]) (by kernel_rfl) rfl rfl (by kernel_rfl) (by kernel_rfl) (by kernel_rfl) (fun _ _ _ h => h) (Or.inl ⟨by kernel_rfl, fun W hW => by obtain ⟨x0, y0, y1, y2⟩ := hW; go_simp; try with_reducible rfl⟩) hF1 ?_
        go_frame
        refine F_take (i := 1) (d := some 26) (by kernel_rfl) (by kernel_rfl) (by decide) (s' := #[true, true, false, false, false, false, false, false, false, false, false, false, false, false, false, false, false]) (by kernel_rfl) rfl rfl (by kernel_rfl) (by kernel_rfl) (by kernel_rfl) (fun _ _ _ h => h) (Or.inl ⟨by kernel_rfl, fun W hW => by obtain ⟨x0, y0, y1, y2⟩ := hW; go_simp; try with_reducible rfl⟩) hF1 ?_
        go_frame
        refine F_take (i := 2) (d := some 27) (by kernel_rfl) (by kernel_rfl) (by decide) (s' := #[true, true, true, false, false, false, false, false, false, false, false, false, false, false, false, false, false]) (by kernel_rfl) rfl rfl (by kernel_rfl) (by kernel_rfl) (by kernel_rfl) (fun _ _ _ h => h) (Or.inl ⟨by kernel_rfl, fun W hW => by obtain ⟨x0, y0, y1, y2⟩ := hW; go_simp; try with_reducible rfl⟩) hF1 ?_
        go_frame
        refine F_take (i := 3) (d := some 28) (by kernel_rfl) (by kernel_rfl) (by decide) (s' := #[true, true, true, true, false, false, false, false, false, false, false, false, false, false, false, false, false]) (by kernel_rfl) rfl rfl (by kernel_rfl) (by kernel_rfl) (by kernel_rfl) (fun _ _ _ h => h) (Or.inl ⟨by kernel_rfl, fun W hW => by obtain ⟨x0, y0, y1, y2⟩ := hW; go_simp; try with_reducible rfl⟩) hF1 ?_
        go_frame
        refine F_take (i := 4) (d := some 29) (by kernel_rfl) (by kernel_rfl) (by decide) (s' := #[true, true, true, true, true, false, false, false, false, false, false, false, false, false, false, false, false]) (by kernel_rfl) rfl rfl (by kernel_rfl) (by kernel_rfl) (by kernel_rfl) (fun _ _ _ h => h) (Or.inl ⟨by kernel_rfl, fun W hW => by obtain ⟨x0, y0, y1, y2⟩ := hW; go_simp; try with_reducible rfl⟩) hF1 ?_
        go_frame
        refine F_take (i := 5) (d := some 30) (by kernel_rfl) (by kernel_rfl) (by decide) (s' := #[true, true, true, true, true, true, false, false, false, false, false, false, false, false, false, false, false]) (by kernel_rfl) rfl rfl (by kernel_rfl) (by kernel_rfl) (by kernel_rfl) (fun _ _ _ h => h) (Or.inl ⟨by kernel_rfl, fun W hW => by obtain ⟨x0, y0, y1, y2⟩ := hW; go_simp; try with_reducible rfl⟩) hF1 ?_
        go_frame
        refine F_take (i := 6) (d := some 31) (by kernel_rfl) (by kernel_rfl) (by decide) (s' := #[true, true, true, true, true, true, true, false, false, false, false, false, false, false, false, false, false]) (by kernel_rfl) rfl rfl (by kernel_rfl) (by kernel_rfl) (by kernel_rfl) (fun _ _ _ h => h) (Or.inl ⟨by kernel_rfl, fun W hW => by obtain ⟨x0, y0, y1, y2⟩ := hW; go_simp; try with_reducible rfl⟩) hF1 ?_
        go_frame
        refine F_take (i := 7) (d := some 32) (by kernel_rfl) (by kernel_rfl) (by decide) (s' := #[true, true, true, true, true, true, true, true, false, false, false, false, false, false, false, false, false]) (by kernel_rfl) rfl rfl (by kernel_rfl) (by kernel_rfl) (by kernel_rfl) (fun _ _ _ h => h) (Or.inl ⟨by kernel_rfl, fun W hW => by obtain ⟨x0, y0, y1, y2⟩ := hW; go_simp; try with_reducible rfl⟩) hF1 ?_
        go_frame
        refine F_take (i := 8) (d := some 33) (by kernel_rfl) (by kernel_rfl) (by decide) (s' := #[true, true, true, true, true, true, true, true, true, false, false, false, false, false, false, false, false]) (by kernel_rfl) rfl rfl (by kernel_rfl) (by kernel_rfl) (by kernel_rfl) (fun _ _ _ h => h) (Or.inl ⟨by kernel_rfl, fun W hW => by obtain ⟨x0, y0, y1, y2⟩ := hW; go_simp; try with_reducible rfl⟩) hF1 ?_
        go_frame
        refine F_take (i := 9) (d := some 34) (by kernel_rfl) (by kernel_rfl) (by decide) (s' := #[true, true, true, true, true, true, true, true, true, true, false, false, false, false, false, false, false]) (by kernel_rfl) rfl rfl (by kernel_rfl) (by kernel_rfl) (by kernel_rfl) (fun _ _ _ h => h) (Or.inl ⟨by kernel_rfl, fun W hW => by obtain ⟨x0, y0, y1, y2⟩ := hW; go_simp; try with_reducible rfl⟩) hF1 ?_
        go_frame
        refine F_take (i := 10) (d := some 35) (by kernel_rfl) (by kernel_rfl) (by decide) (s' := #[true, true, true, true, true, true, true, true, true, true, true, false, false, false, false, false, false]) (by kernel_rfl) rfl rfl (by kernel_rfl) (by kernel_rfl) (by kernel_rfl) (fun _ _ _ h => h) (Or.inl ⟨by kernel_rfl, fun W hW => by obtain ⟨x0, y0, y1, y2⟩ := hW; go_simp; try with_reducible rfl⟩) hF1 ?_
        go_frame
        refine F_take (i := 11) (d := some 36) (by kernel_rfl) (by kernel_rfl) (by decide) (s' := #[true, true, true, true, true, true, true, true, true, true, true, true, false, false, false, false, false]) (by kernel_rfl) rfl rfl (by kernel_rfl) (by kernel_rfl) (by kernel_rfl) (fun _ _ _ h => h) (Or.inl ⟨by kernel_rfl, fun W hW => by obtain ⟨x0, y0, y1, y2⟩ := hW; go_simp; try with_reducible rfl⟩) hF1 ?_
        go_frame
        refine F_one (i := 12) (s' := #[true, true, true, true, true, true, true, true, true, true, true, true, true, false, false, false, false]) (by kernel_rfl) (by kernel_rfl) (wpOp_valueL (i := 12) (d := some 37) (w' := wd.alloc (.cells #[.int .i64 lan, .int .i64 id, .int .i64 k1, .int .i64 k2, .int .i64 k3] 168)) (v := .slice (some ⟨wd.heap.size, 0, none⟩) 1 1) rfl rfl (by kernel_rfl) (by go_simp) ⟨fun _ => HFa.out wd hF1, ?_⟩)
        go_frame
        obtain ⟨v5, w5, hrun, hown5, hg5, hor5⟩ := HApp.out wd hR3
        refine F_one (i := 13) (s' := #[true, true, true, true, true, true, true, true, true, true, true, true, true, true, false, false, false]) (by kernel_rfl) (by kernel_rfl) (wpOp_appendL (i := 13) (d := some 38) (t := 97) rfl rfl rfl (by kernel_rfl) rfl (by rfl) (by rfl) hrun ⟨fun _ => HFb.out _ _ hF1 hg5, ?_⟩)
        go_frame
        have hF5 := HFb.out _ _ hF1 hg5
        refine F_take (i := 14) (d := some 39) (by kernel_rfl) (by kernel_rfl) (by decide) (s' := #[true, true, true, true, true, true, true, true, true, true, true, true, true, true, true, false, false]) (by kernel_rfl) rfl rfl (by kernel_rfl) (by kernel_rfl) (by kernel_rfl) (fun _ _ _ h => h) (Or.inl ⟨by kernel_rfl, fun W hW => by obtain ⟨x0, y0, y1, y2⟩ := hW; go_simp; try with_reducible rfl⟩) hF5 ?_
        go_frame
        refine F_take (i := 15) (d := some 40) (by kernel_rfl) (by kernel_rfl) (by decide) (s' := #[true, true, true, true, true, true, true, true, true, true, true, true, true, true, true, true, false]) (by kernel_rfl) rfl rfl (by kernel_rfl) (by kernel_rfl) (by kernel_rfl) (fun _ _ _ h => h) (Or.inl ⟨by kernel_rfl, fun W hW => by obtain ⟨x0, y0, y1, y2⟩ := hW; go_simp; try with_reducible rfl⟩) hF5 ?_
        go_frame
        obtain ⟨A5, c5, hv5⟩ := hown5.shape
        rw [List.length_append, List.length_singleton] at hv5
        subst hv5
        have hq5 := HQ.out _ _ hR3 hg5
        have z5 := hq5.cell 0
        have j5 := hq5.frozen 0
        simp only [List.getElem?_toArray, List.getElem?_cons_zero] at z5
        refine F_one (i := 16) (s' := #[true, true, true, true, true, true, true, true, true, true, true, true, true, true, true, true, true]) (by kernel_rfl) (by kernel_rfl) (wpOp_skipL (i := 16) (w' := w5.setCell ⟨q, 0, none⟩ (.slice A5 (R1.length + 1) c5)) rfl rfl (by kernel_rfl) (by go_simp) ⟨fun h => absurd h (by decide), ?_⟩)
        go_frame
        refine F_done (by kernel_rfl) ?_ _
        have Hend := Lib.hid (HEnd.out _ _ _ hR3 hK3 hown5 hg5 hor5)
        clear hF1 hF5 hR3 hK3 hrun hown5 hg5 hor5 hq5 z5 j5
        go_simp
        go_wp2
        go_roundw
        case measure => simp [intOf]; omega
        case rel => exact ⟨k + 1, _, by go_num, hlt, by rw [HZ.out, Hadd.out]; exact Hend.out.1, Hend.out.2.1, Hend.out.2.2⟩
    · have hkk : k = ks.length := by omega
      subst hkk
      rw [List.take_length] at hrf
      have Hrf := Lib.hid hrf
      have Hkp := Lib.hid hkp
      have Hub := Lib.hid hub
      clear hrf hkp hub
      go_wp2_with (go_at_call 55; (with_reducible refine Calls.mono (refList_any q u _ lan id _ Hrf.out (Nat.le_trans Hall.out hlen)) ?_); rintro r w3 ⟨x, rfl, hown3, hb3⟩; obtain ⟨A3, c3, rfl⟩ := hown3.shape; have Hb3 := Lib.hid hb3; clear hb3 hown3)
      go_ret
      exact ⟨u, rfl, Hrf.out.keep Hb3.out, Hkp.out.keep Hb3.out, Hub.out⟩

end Go.Proofs.Ytfhikkmgclkcdaa
