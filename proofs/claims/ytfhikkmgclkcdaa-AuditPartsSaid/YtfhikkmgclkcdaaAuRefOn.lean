/-
  Layer 27: the reference's Cands and On.
-/
import Derived.Test.YtfhikkmgclkcdaaAuRefView
import Derived.Test.YtfhikkmgclkcdaaHeld
import Derived.Test.YtfhikkmgclkcdaaOwnR
namespace Go.Proofs.Ytfhikkmgclkcdaa
open Go.RowKit

def candsRK (C : List Stt) (lan : Int) (k : Nat) : List Cand := (C.take k).filterMap (candS lan)
theorem candsRK_succ (C : List Stt) (lan : Int) (k : Nat) (hk : k < C.length) {s : Stt} (hs : C[k] = s) {a1 a2 a3 a4 a5 : Int} {is : Bool} (hI : ifaceOf s.views lan = (⟨a1, a2, a3, a4, a5⟩, is)) :
    candsRK C lan (k + 1) = candsRK C lan k ++ (if is = true then [⟨s.id, a2, a4, a5⟩] else []) := by
  unfold candsRK
  rw [List.take_succ_eq_append_getElem hk, List.filterMap_append, hs]
  congr 1
  cases is <;> simp [candS, hI]
theorem candsRK_len (C : List Stt) (lan : Int) (k : Nat) : (candsRK C lan k).length ≤ C.length := by
  have h1 := List.length_filterMap_le (candS lan) (C.take k)
  unfold candsRK
  simp only [List.length_take] at h1
  omega
theorem candsRK_all (C : List Stt) (lan : Int) : candsRK C lan C.length = candsOf C lan := by
  unfold candsRK candsOf
  rw [List.take_length]

set_option maxHeartbeats 4000000 in
set_option maxRecDepth 100000 in
theorem refCands_any (n : Nat) (A : Option Addr) (cap : Nat) (C : List Stt) (lan : Int) (w : World) (B : Nat) (hl : StatesAt w B A C) (hB : B ≤ w.heap.size) (hlen : C.length ≤ 1000) (hn : n = C.length) :
    Calls Try.prog 64 #[.slice A n cap, .int .i64 lan] w fun r w' => ∃ v, r = .returned v ∧ OwnC w' w.heap.size v (candsOf C lan) ∧ Below w.heap.size w w' := by
  subst hn
  have Hl := Lib.hid (hl.more hB)
  clear hl hB
  go_enter Try.func64, Try.ntmps64
  go_wp2
  go_loopw [5, 6] (fun v i wr => ∃ k : Nat, k ≤ C.length ∧ i = .int .i64 k ∧ OwnC wr w.heap.size v (candsRK C lan k) ∧ Below w.heap.size w wr) (fun _ i _ => C.length - (intOf i).toNat)
  case atStart => exact ⟨0, Nat.zero_le _, rfl, ⟨rfl, .inl ⟨rfl, rfl⟩⟩, Below.refl _ _⟩
  case round =>
    obtain ⟨k, hk, rfl, hown, hb⟩ := hrel
    obtain ⟨A5, c5, hv5⟩ := OwnR.shape (C := 4) (cells := Cand.cells) (L := candsRK C lan k) hown
    subst hv5
    by_cases hlt : k < C.length
    · obtain ⟨b, o, rfl, hbB, y0, y1, y2, y3⟩ := States.at_ (Hl.out.below hb).rows k hlt
      have hst := (Hl.out.below hb).each _ (List.getElem_mem hlt)
      obtain ⟨s, hs⟩ : ∃ s, C[k] = s := ⟨_, rfl⟩
      obtain ⟨I, hI⟩ : ∃ I, ifaceOf s.views lan = I := ⟨_, rfl⟩
      rcases I with ⟨⟨a1, a2, a3, a4, a5⟩, is⟩
      have hsucc := candsRK_succ C lan k hlt hs hI
      rw [hs] at y0 y1 y2 y3 hst
      have hcall := refView_any s.id lan s.va s.vcap s.views s.la s.lsas.length s.lcap s.ra s.rn s.rcap wr w.heap.size hst.views hb.size hst.viewsLen
      rw [hI] at hcall
      have Hcall := Lib.hid hcall
      have Hsucc := Lib.hid hsucc
      have Hcl := Lib.hid (candsRK_len C lan k)
      have Hown := Lib.hid hown
      have Hb := Lib.hid hb
      have Hy0 := Lib.hid y0
      have HbB := Lib.hid hbB
      have hkl : (k : Int) < (C.length : Int) := by omega
      clear hs hI hst hcall hsucc hown hb hbB
      cases is
      · go_wp2_with (go_at_call 101; (with_reducible refine Calls.mono Hcall.out ?_); rintro r w2 ⟨rfl, hb2⟩; have hown2 := OwnR.below (C := 4) (cells := Cand.cells) (L := candsRK C lan k) Hown.out hb2; have Hown2 := Lib.hid (OwnR.alloc hown2 (.cells #[.int .i64 a1, .int .i64 a2, .int .i64 a3, .int .i64 a4, .int .i64 a5] 110)); have hb3 := Hb.out.trans (hb2.mono Hb.out.size); have Hb2 := Lib.hid (hb3.alloc hb3.size (.cells #[.int .i64 a1, .int .i64 a2, .int .i64 a3, .int .i64 a4, .int .i64 a5] 110)); clear hb2 hb3 hown2 y0 y1 y2 y3)
        go_roundw
        case measure => simp [intOf]; omega
        case rel => exact ⟨k + 1, hlt, by go_num, by rw [show candsRK C lan (k + 1) = candsRK C lan k by rw [Hsucc.out]; simp]; exact Hown2.out, Hb2.out⟩
      · go_wp2_with (go_at_call 101; (with_reducible refine Calls.mono Hcall.out ?_); rintro r w2 ⟨rfl, hb2⟩; have hown2 := OwnR.below (C := 4) (cells := Cand.cells) (L := candsRK C lan k) Hown.out hb2; obtain ⟨w3, hW3, hown3, hb3, hi3⟩ : ∃ w3, w2.alloc (.cells #[.int .i64 a1, .int .i64 a2, .int .i64 a3, .int .i64 a4, .int .i64 a5] 110) = w3 ∧ OwnR 130 4 Cand.cells w3 w.heap.size (.slice A5 (candsRK C lan k).length c5) (candsRK C lan k) ∧ Below wr.heap.size wr w3 ∧ Blk w3 w2.heap.size 110 #[.int .i64 a1, .int .i64 a2, .int .i64 a3, .int .i64 a4, .int .i64 a5] := ⟨_, rfl, OwnR.alloc hown2 _, hb2.alloc hb2.size _, Blk.new _ _ _⟩; have x0 := cellIn Hy0.out hb3; obtain ⟨i0, i1, i2, i3, i4, -⟩ := Blk.cells5 hi3; have Hgi := Lib.hid (show some w2.heap.size ≠ (Value.slice A5 (candsRK C lan k).length c5).ownBlock from fun e => Nat.lt_irrefl _ (OwnR.block hown2 _ e.symm).2); have Hsz3 := Lib.hid hi3.lt; have Hown3 := Lib.hid hown3; have Hb3 := Lib.hid (Hb.out.trans (hb3.mono Hb.out.size)); clear hb2 hb3 hown2 hown3 hi3 y0 y1 y2 y3)
        refine wp_region_held (S := fun W => W.cell? ⟨b, o + k * 4, none⟩ = some (.int .i64 s.id) ∧ W.cell? ⟨w2.heap.size, 1, none⟩ = some (.int .i64 a2) ∧ W.cell? ⟨w2.heap.size, 3, none⟩ = some (.int .i64 a4) ∧ W.cell? ⟨w2.heap.size, 4, none⟩ = some (.int .i64 a5)) (by kernel_rfl) ?_
        obtain ⟨wd, hwd⟩ : ∃ wd : World, ({ w3 with drawn := w3.drawn + 1 } : World) = wd := ⟨_, rfl⟩
        rw [hwd]
        have hbwd : Below w3.heap.size w3 wd := by rw [← hwd]; exact (Below.refl _ _).drew
        have hS : wd.cell? ⟨b, o + k * 4, none⟩ = some (.int .i64 s.id) ∧ wd.cell? ⟨w2.heap.size, 1, none⟩ = some (.int .i64 a2) ∧ wd.cell? ⟨w2.heap.size, 3, none⟩ = some (.int .i64 a4) ∧ wd.cell? ⟨w2.heap.size, 4, none⟩ = some (.int .i64 a5) := ⟨cellIn x0 hbwd, cellIn i1 hbwd, cellIn i3 hbwd, cellIn i4 hbwd⟩
        have hownd := OwnR.below (C := 4) (cells := Cand.cells) (L := candsRK C lan k) Hown3.out hbwd
        have hbd := Hb3.out.trans (hbwd.mono Hb3.out.size)
        have hsz3 : w2.heap.size < wd.heap.size := Nat.lt_of_lt_of_le Hsz3.out hbwd.size
        obtain ⟨v', w6, hrun, hown6, hg6, -⟩ := app_row_run (sl := 127) Cand.cells (fun _ => rfl) (by decide) (by decide) infoC rfl Try.underlying127 (fun x u hu => by simp [Cand.cells] at hu; rcases hu with rfl | rfl | rfl | rfl <;> rfl) (w := wd.alloc (.cells #[.int .i64 s.id, .int .i64 a2, .int .i64 a4, .int .i64 a5] 130)) 127 w.heap.size (.slice A5 (candsRK C lan k).length c5) (candsRK C lan k) (OwnR.alloc hownd _) wd.heap.size (⟨s.id, a2, a4, a5⟩ : Cand) (Blk.new _ _ _) (by have := Hcl.out; omega) (by have := hbd.size; simp; omega)
        have hS6 : w6.cell? ⟨b, o + k * 4, none⟩ = some (.int .i64 s.id) ∧ w6.cell? ⟨w2.heap.size, 1, none⟩ = some (.int .i64 a2) ∧ w6.cell? ⟨w2.heap.size, 3, none⟩ = some (.int .i64 a4) ∧ w6.cell? ⟨w2.heap.size, 4, none⟩ = some (.int .i64 a5) := ⟨cell_only hS.1 hg6 (fun e => by have := (OwnR.block Hown3.out b e.symm).1; have := HbB.out; omega), cell_only hS.2.1 hg6 Hgi.out, cell_only hS.2.2.1 hg6 Hgi.out, cell_only hS.2.2.2 hg6 Hgi.out⟩
        have Hown6 := Lib.hid hown6
        have Hb6 := Lib.hid ((hbd.alloc hbd.size _).grown hg6 (by have := hbd.size; simp; omega) (fun j e => (OwnR.block hownd j e).1))
        have Hrun := Lib.hid hrun
        clear hwd hbwd hownd hbd hrun hown6 hg6 x0 i0 i1 i2 i3 i4 hW3
        refine wpAnyH_take (i := 0) rfl (by kernel_rfl) (by kernel_rfl) (by kernel_rfl) (fun _ _ _ h => h) (Or.inl ⟨rfl, fun W hW => by (obtain ⟨g0, g1, g3, g4⟩ := (show W.cell? ⟨b, o + k * 4, none⟩ = some (.int .i64 s.id) ∧ W.cell? ⟨w2.heap.size, 1, none⟩ = some (.int .i64 a2) ∧ W.cell? ⟨w2.heap.size, 3, none⟩ = some (.int .i64 a4) ∧ W.cell? ⟨w2.heap.size, 4, none⟩ = some (.int .i64 a5) from hW); clear hW); go_simp; try with_reducible rfl⟩) hS ?_
        refine wpAnyH_take (i := 1) rfl (by kernel_rfl) (by kernel_rfl) (by kernel_rfl) (fun _ _ _ h => h) (Or.inl ⟨rfl, fun W hW => by (obtain ⟨g0, g1, g3, g4⟩ := (show W.cell? ⟨b, o + k * 4, none⟩ = some (.int .i64 s.id) ∧ W.cell? ⟨w2.heap.size, 1, none⟩ = some (.int .i64 a2) ∧ W.cell? ⟨w2.heap.size, 3, none⟩ = some (.int .i64 a4) ∧ W.cell? ⟨w2.heap.size, 4, none⟩ = some (.int .i64 a5) from hW); clear hW); go_simp; try with_reducible rfl⟩) hS ?_
        refine wpAnyH_take (i := 2) rfl (by kernel_rfl) (by kernel_rfl) (by kernel_rfl) (fun _ _ _ h => h) (Or.inl ⟨rfl, fun W hW => by (obtain ⟨g0, g1, g3, g4⟩ := (show W.cell? ⟨b, o + k * 4, none⟩ = some (.int .i64 s.id) ∧ W.cell? ⟨w2.heap.size, 1, none⟩ = some (.int .i64 a2) ∧ W.cell? ⟨w2.heap.size, 3, none⟩ = some (.int .i64 a4) ∧ W.cell? ⟨w2.heap.size, 4, none⟩ = some (.int .i64 a5) from hW); clear hW); go_simp; try with_reducible rfl⟩) hS ?_
        refine wpAnyH_take (i := 3) rfl (by kernel_rfl) (by kernel_rfl) (by kernel_rfl) (fun _ _ _ h => h) (Or.inl ⟨rfl, fun W hW => by (obtain ⟨g0, g1, g3, g4⟩ := (show W.cell? ⟨b, o + k * 4, none⟩ = some (.int .i64 s.id) ∧ W.cell? ⟨w2.heap.size, 1, none⟩ = some (.int .i64 a2) ∧ W.cell? ⟨w2.heap.size, 3, none⟩ = some (.int .i64 a4) ∧ W.cell? ⟨w2.heap.size, 4, none⟩ = some (.int .i64 a5) from hW); clear hW); go_simp; try with_reducible rfl⟩) hS ?_
        refine wpAnyH_take (i := 4) rfl (by kernel_rfl) (by kernel_rfl) (by kernel_rfl) (fun _ _ _ h => h) (Or.inl ⟨rfl, fun W hW => by (obtain ⟨g0, g1, g3, g4⟩ := (show W.cell? ⟨b, o + k * 4, none⟩ = some (.int .i64 s.id) ∧ W.cell? ⟨w2.heap.size, 1, none⟩ = some (.int .i64 a2) ∧ W.cell? ⟨w2.heap.size, 3, none⟩ = some (.int .i64 a4) ∧ W.cell? ⟨w2.heap.size, 4, none⟩ = some (.int .i64 a5) from hW); clear hW); go_simp; try with_reducible rfl⟩) hS ?_
        refine wpAnyH_take (i := 5) rfl (by kernel_rfl) (by kernel_rfl) (by kernel_rfl) (fun _ _ _ h => h) (Or.inl ⟨rfl, fun W hW => by (obtain ⟨g0, g1, g3, g4⟩ := (show W.cell? ⟨b, o + k * 4, none⟩ = some (.int .i64 s.id) ∧ W.cell? ⟨w2.heap.size, 1, none⟩ = some (.int .i64 a2) ∧ W.cell? ⟨w2.heap.size, 3, none⟩ = some (.int .i64 a4) ∧ W.cell? ⟨w2.heap.size, 4, none⟩ = some (.int .i64 a5) from hW); clear hW); go_simp; try with_reducible rfl⟩) hS ?_
        refine wpAnyH_take (i := 6) rfl (by kernel_rfl) (by kernel_rfl) (by kernel_rfl) (fun _ _ _ h => h) (Or.inl ⟨rfl, fun W hW => by (obtain ⟨g0, g1, g3, g4⟩ := (show W.cell? ⟨b, o + k * 4, none⟩ = some (.int .i64 s.id) ∧ W.cell? ⟨w2.heap.size, 1, none⟩ = some (.int .i64 a2) ∧ W.cell? ⟨w2.heap.size, 3, none⟩ = some (.int .i64 a4) ∧ W.cell? ⟨w2.heap.size, 4, none⟩ = some (.int .i64 a5) from hW); clear hW); go_simp; try with_reducible rfl⟩) hS ?_
        refine wpAnyH_take (i := 7) rfl (by kernel_rfl) (by kernel_rfl) (by kernel_rfl) (fun _ _ _ h => h) (Or.inl ⟨rfl, fun W hW => by (obtain ⟨g0, g1, g3, g4⟩ := (show W.cell? ⟨b, o + k * 4, none⟩ = some (.int .i64 s.id) ∧ W.cell? ⟨w2.heap.size, 1, none⟩ = some (.int .i64 a2) ∧ W.cell? ⟨w2.heap.size, 3, none⟩ = some (.int .i64 a4) ∧ W.cell? ⟨w2.heap.size, 4, none⟩ = some (.int .i64 a5) from hW); clear hW); go_simp; try with_reducible rfl⟩) hS ?_
        refine wpAnyH_take (i := 8) rfl (by kernel_rfl) (by kernel_rfl) (by kernel_rfl) (fun _ _ _ h => h) (Or.inl ⟨rfl, fun W hW => by (obtain ⟨g0, g1, g3, g4⟩ := (show W.cell? ⟨b, o + k * 4, none⟩ = some (.int .i64 s.id) ∧ W.cell? ⟨w2.heap.size, 1, none⟩ = some (.int .i64 a2) ∧ W.cell? ⟨w2.heap.size, 3, none⟩ = some (.int .i64 a4) ∧ W.cell? ⟨w2.heap.size, 4, none⟩ = some (.int .i64 a5) from hW); clear hW); go_simp; try with_reducible rfl⟩) hS ?_
        refine wpAnyH_take (i := 9) rfl (by kernel_rfl) (by kernel_rfl) (by kernel_rfl) (fun _ _ _ h => h) (Or.inl ⟨rfl, fun W hW => by (obtain ⟨g0, g1, g3, g4⟩ := (show W.cell? ⟨b, o + k * 4, none⟩ = some (.int .i64 s.id) ∧ W.cell? ⟨w2.heap.size, 1, none⟩ = some (.int .i64 a2) ∧ W.cell? ⟨w2.heap.size, 3, none⟩ = some (.int .i64 a4) ∧ W.cell? ⟨w2.heap.size, 4, none⟩ = some (.int .i64 a5) from hW); clear hW); go_simp; try with_reducible rfl⟩) hS ?_
        refine wpAnyH_take (i := 10) rfl (by kernel_rfl) (by kernel_rfl) (by kernel_rfl) (fun _ _ _ h => h) (Or.inl ⟨rfl, fun W hW => by (obtain ⟨g0, g1, g3, g4⟩ := (show W.cell? ⟨b, o + k * 4, none⟩ = some (.int .i64 s.id) ∧ W.cell? ⟨w2.heap.size, 1, none⟩ = some (.int .i64 a2) ∧ W.cell? ⟨w2.heap.size, 3, none⟩ = some (.int .i64 a4) ∧ W.cell? ⟨w2.heap.size, 4, none⟩ = some (.int .i64 a5) from hW); clear hW); go_simp; try with_reducible rfl⟩) hS ?_
        refine wpAnyH_take (i := 11) rfl (by kernel_rfl) (by kernel_rfl) (by kernel_rfl) (fun _ _ _ h => h) (Or.inl ⟨rfl, fun W hW => by (obtain ⟨g0, g1, g3, g4⟩ := (show W.cell? ⟨b, o + k * 4, none⟩ = some (.int .i64 s.id) ∧ W.cell? ⟨w2.heap.size, 1, none⟩ = some (.int .i64 a2) ∧ W.cell? ⟨w2.heap.size, 3, none⟩ = some (.int .i64 a4) ∧ W.cell? ⟨w2.heap.size, 4, none⟩ = some (.int .i64 a5) from hW); clear hW); go_simp; try with_reducible rfl⟩) hS ?_
        refine wpAnyH_take (i := 12) rfl (by kernel_rfl) (by kernel_rfl) (by kernel_rfl) (fun _ _ _ h => h) (Or.inl ⟨rfl, fun W hW => by (obtain ⟨g0, g1, g3, g4⟩ := (show W.cell? ⟨b, o + k * 4, none⟩ = some (.int .i64 s.id) ∧ W.cell? ⟨w2.heap.size, 1, none⟩ = some (.int .i64 a2) ∧ W.cell? ⟨w2.heap.size, 3, none⟩ = some (.int .i64 a4) ∧ W.cell? ⟨w2.heap.size, 4, none⟩ = some (.int .i64 a5) from hW); clear hW); go_simp; try with_reducible rfl⟩) hS ?_
        refine wpAnyH_all (rs := [13]) (by kernel_rfl) (by simp) fun i2 hi2 => ?_
        obtain rfl := List.mem_singleton.1 hi2
        refine wpOp_value (i := 13) rfl rfl (by go_simp; first | done | rfl | exact ⟨rfl, rfl⟩) ?_
        refine ⟨⟨cell_new hS.1 _, cell_new hS.2.1 _, cell_new hS.2.2.1 _, cell_new hS.2.2.2 _⟩, ?_⟩
        refine wpAnyH_all (rs := [14]) (by kernel_rfl) (by simp) fun i3 hi3 => ?_
        obtain rfl := List.mem_singleton.1 hi3
        refine wpOp_wp (i := 14) rfl rfl ?_
        have hev : ∀ (x y x' y' : Value), x = x' → y = y' → (Builtin.append_ #[127, 127] 127 #[x', y']).run Try.prog (wd.alloc (.cells #[.int .i64 s.id, .int .i64 a2, .int .i64 a4, .int .i64 a5] 130)) = .ok v' w6 → (Builtin.append_ #[127, 127] 127 #[x, y]).run Try.prog (wd.alloc (.cells #[.int .i64 s.id, .int .i64 a2, .int .i64 a4, .int .i64 a5] 130)) = .ok v' w6 := fun x y x' y' h1 h2 h => by rw [h1, h2]; exact h
        refine wp_append_run (v := v') (w' := w6) rfl (hev _ _ (.slice A5 (candsRK C lan k).length c5) (.slice (some ⟨wd.heap.size, 0, none⟩) 1 1) (by go_simp; try with_reducible rfl) (by go_simp; try with_reducible rfl) Hrun.out) ?_
        refine ⟨hS6, ?_⟩
        clear hev
        refine wpAnyH_take (i := 15) rfl (by kernel_rfl) (by kernel_rfl) (by kernel_rfl) (fun _ _ _ h => h) (Or.inl ⟨rfl, fun W hW => by (obtain ⟨g0, g1, g3, g4⟩ := (show W.cell? ⟨b, o + k * 4, none⟩ = some (.int .i64 s.id) ∧ W.cell? ⟨w2.heap.size, 1, none⟩ = some (.int .i64 a2) ∧ W.cell? ⟨w2.heap.size, 3, none⟩ = some (.int .i64 a4) ∧ W.cell? ⟨w2.heap.size, 4, none⟩ = some (.int .i64 a5) from hW); clear hW); go_simp; try with_reducible rfl⟩) hS6 ?_
        refine wpAnyH_done (by kernel_rfl) ?_ _
        obtain ⟨A6, c6, rfl⟩ := OwnR.shape Hown6.out
        clear hS hS6
        go_simp
        go_wp2
        go_roundw
        case measure => simp [intOf]; omega
        case rel => exact ⟨k + 1, hlt, by go_num, by rw [Hsucc.out]; have h : OwnC w6 w.heap.size (.slice A6 (candsRK C lan k ++ [(⟨s.id, a2, a4, a5⟩ : Cand)]).length c6) (candsRK C lan k ++ [(⟨s.id, a2, a4, a5⟩ : Cand)]) := Hown6.out; simpa using h, Hb6.out⟩
    · have hkk : k = C.length := by omega
      subst hkk
      have Hown := Lib.hid hown
      have Hb := Lib.hid hb
      clear hown hb
      go_wp2
      go_ret
      exact ⟨_, rfl, by rw [← candsRK_all]; exact Hown.out, Hb.out⟩

def idsK (c : List Cand) (k : Nat) : List Int := (c.take k).map Cand.id
theorem idsK_succ (c : List Cand) (k : Nat) (hk : k < c.length) : idsK c (k + 1) = idsK c k ++ [c[k].id] := by
  unfold idsK
  rw [List.take_succ_eq_append_getElem hk, List.map_append]; rfl
set_option maxHeartbeats 2000000 in
set_option maxRecDepth 100000 in
theorem refOn_any (n : Nat) (A : Option Addr) (cap : Nat) (C : List Stt) (lan : Int) (w : World) (B : Nat) (hl : StatesAt w B A C) (hB : B ≤ w.heap.size) (hlen : C.length ≤ 1000) (hn : n = C.length) :
    Calls Try.prog 25 #[.slice A n cap, .int .i64 lan] w fun r w' => ∃ v, r = .returned v ∧ OwnI w' w.heap.size v (onOf C lan) ∧ Below w.heap.size w w' := by
  have Hc := Lib.hid (refCands_any n A cap C lan w B hl hB hlen hn)
  have hcl : (candsOf C lan).length ≤ 1000 := by rw [← candsRK_all]; exact Nat.le_trans (candsRK_len _ _ _) hlen
  unfold onOf
  generalize candsOf C lan = c at *
  clear hl hB hn
  go_enter Try.func25, Try.ntmps25
  go_wp2_with (go_at_call 64; (with_reducible refine Calls.mono Hc.out ?_); rintro r w1 ⟨v1, rfl, hown1, hb1⟩; obtain ⟨A1, c1, rfl, hca⟩ := OwnC.shape hown1; have Hca := Lib.hid hca; have Hb1 := Lib.hid hb1; clear hown1 hca hb1)
  go_loopw [6, 7] (fun v i wr => ∃ k : Nat, k ≤ c.length ∧ i = .int .i64 k ∧ OwnI wr w1.heap.size v (idsK c k) ∧ Below w1.heap.size w1 wr) (fun _ i _ => c.length - (intOf i).toNat)
  case atStart => exact ⟨0, Nat.zero_le _, rfl, OwnI.nil _ _, Below.refl _ _⟩
  case round =>
    obtain ⟨k, hk, rfl, hown, hb⟩ := hrel
    obtain ⟨A5, c5, rfl⟩ := hown.shape
    by_cases hlt : k < c.length
    · obtain ⟨b, o, rfl, -, e0, -, -, -⟩ := CandsAt.at_ (CandsAt.below Hca.out hb) k hlt
      have hsucc := idsK_succ c k hlt
      have hkl : (k : Int) < (c.length : Int) := by omega
      generalize c[k] = s at *
      have Hsucc := Lib.hid hsucc
      have Hil := Lib.hid (show (idsK c k).length ≤ 1000 by unfold idsK; simp; omega)
      have Hown := Lib.hid hown
      have Hb := Lib.hid hb
      clear hsucc hown hb
      go_wp2_with (at_builtin; go_must ((refine app_int rfl _ _ rfl w1.heap.size (.slice A5 (idsK c k).length c5) (idsK c k) rfl (Hown.out.alloc _) wr.heap.size s.id rfl ((Blk.new _ _ _).cell 0) (by have := Hil.out; omega) (by have := Hb.out.size; simp; omega) ?_; intro v5 w5 hown5 hg5; have Hown5 := Lib.hid hown5; have Hb5 := Lib.hid ((Hb.out.alloc Hb.out.size _).grown hg5 (Hb.out.alloc Hb.out.size _).size (fun j e => (Hown.out.block j e).1)); clear hown5 hg5)))
      go_roundw
      case measure => simp [intOf]; omega
      case rel => exact ⟨k + 1, hlt, by go_num, by rw [Hsucc.out]; exact Hown5.out, Hb5.out⟩
    · have hkk : k = c.length := by omega
      subst hkk
      have Hown := Lib.hid hown
      have Hb := Lib.hid hb
      clear hown hb
      go_wp2
      go_ret
      refine ⟨_, rfl, ?_, Hb1.out.trans (Hb.out.mono Hb1.out.size)⟩
      have := Hown.out.lower Hb1.out.size
      rw [show idsK c c.length = c.map Cand.id by unfold idsK; rw [List.take_length]] at this
      simpa [idsK] using this

end Go.Proofs.Ytfhikkmgclkcdaa
