/-
  Layer 27: the reference's view.
-/
import Derived.Test.YtfhikkmgclkcdaaAuRef
namespace Go.Proofs.Ytfhikkmgclkcdaa
open Go.RowKit

theorem Blk.cells4a {w : World} {g : Nat} {t : TypeId} {a b c d : Value} (h : Blk w g t #[a, b, c, d]) : w.cell? ⟨g, 0, none⟩ = some a ∧ w.cell? ⟨g, 1, none⟩ = some b ∧ w.cell? ⟨g, 2, none⟩ = some c ∧ w.cell? ⟨g, 3, none⟩ = some d := ⟨h.cell 0, h.cell 1, h.cell 2, h.cell 3⟩
theorem below_cells5 {w W : World} {b o : Nat} {a1 a2 a3 a4 a5 : Value} (hW : Below w.heap.size w W) (h : w.cell? ⟨b, o + 2, none⟩ = some a1 ∧ w.cell? ⟨b, o + 3, none⟩ = some a2 ∧ w.cell? ⟨b, o + 4, none⟩ = some a3 ∧ w.cell? ⟨b, o + 5, none⟩ = some a4 ∧ w.cell? ⟨b, o + 6, none⟩ = some a5) :
    W.cell? ⟨b, o + 2, none⟩ = some a1 ∧ W.cell? ⟨b, o + 3, none⟩ = some a2 ∧ W.cell? ⟨b, o + 4, none⟩ = some a3 ∧ W.cell? ⟨b, o + 5, none⟩ = some a4 ∧ W.cell? ⟨b, o + 6, none⟩ = some a5 :=
  ⟨cellIn h.1 hW, cellIn h.2.1 hW, cellIn h.2.2.1 hW, cellIn h.2.2.2.1 hW, cellIn h.2.2.2.2 hW⟩

theorem below_cells5g {w : World} {b o g : Nat} {a b' c d e : Value} {a1 a2 a3 a4 a5 : Value} (hb : b < g) (h : w.cell? ⟨b, o + 2, none⟩ = some a1 ∧ w.cell? ⟨b, o + 3, none⟩ = some a2 ∧ w.cell? ⟨b, o + 4, none⟩ = some a3 ∧ w.cell? ⟨b, o + 5, none⟩ = some a4 ∧ w.cell? ⟨b, o + 6, none⟩ = some a5) :
    (((((w.setCell ⟨g, 0, none⟩ a).setCell ⟨g, 1, none⟩ b').setCell ⟨g, 2, none⟩ c).setCell ⟨g, 3, none⟩ d).setCell ⟨g, 4, none⟩ e).cell? ⟨b, o + 2, none⟩ = some a1 ∧ (((((w.setCell ⟨g, 0, none⟩ a).setCell ⟨g, 1, none⟩ b').setCell ⟨g, 2, none⟩ c).setCell ⟨g, 3, none⟩ d).setCell ⟨g, 4, none⟩ e).cell? ⟨b, o + 3, none⟩ = some a2 ∧
    (((((w.setCell ⟨g, 0, none⟩ a).setCell ⟨g, 1, none⟩ b').setCell ⟨g, 2, none⟩ c).setCell ⟨g, 3, none⟩ d).setCell ⟨g, 4, none⟩ e).cell? ⟨b, o + 4, none⟩ = some a3 ∧ (((((w.setCell ⟨g, 0, none⟩ a).setCell ⟨g, 1, none⟩ b').setCell ⟨g, 2, none⟩ c).setCell ⟨g, 3, none⟩ d).setCell ⟨g, 4, none⟩ e).cell? ⟨b, o + 5, none⟩ = some a4 ∧
    (((((w.setCell ⟨g, 0, none⟩ a).setCell ⟨g, 1, none⟩ b').setCell ⟨g, 2, none⟩ c).setCell ⟨g, 3, none⟩ d).setCell ⟨g, 4, none⟩ e).cell? ⟨b, o + 6, none⟩ = some a5 := by
  have hB : Below g w (((((w.setCell ⟨g, 0, none⟩ a).setCell ⟨g, 1, none⟩ b').setCell ⟨g, 2, none⟩ c).setCell ⟨g, 3, none⟩ d).setCell ⟨g, 4, none⟩ e) :=
    (((((Below.refl g w).setCell (Nat.le_refl _) _).setCell (Nat.le_refl _) _).setCell (Nat.le_refl _) _).setCell (Nat.le_refl _) _).setCell (Nat.le_refl _) _
  exact ⟨(hB.cell hb).trans h.1, (hB.cell hb).trans h.2.1, (hB.cell hb).trans h.2.2.1, (hB.cell hb).trans h.2.2.2.1, (hB.cell hb).trans h.2.2.2.2⟩

set_option maxHeartbeats 2000000 in
set_option maxRecDepth 100000 in
theorem refView_any (id : Int) (lan : Int) (va : Option Addr) (vcap : Nat) (vs : List Viw) (la : Option Addr) (ln lcap : Nat) (ra : Option Addr) (rn rcap : Nat) (w : World) (B : Nat) (hl : ViewsAt w B va vs) (hB : B ≤ w.heap.size) (hlen : vs.length ≤ maxLen) :
    Calls Try.prog 101 #[.agg #[.int .i64 id, .slice va vs.length vcap, .slice la ln lcap, .slice ra rn rcap], .int .i64 lan] w fun r w' => r = .returned (.tuple #[.agg #[.int .i64 (ifaceOf vs lan).1.self, .int .i64 (ifaceOf vs lan).1.prio, .int .i64 (ifaceOf vs lan).1.state, .int .i64 (ifaceOf vs lan).1.dr, .int .i64 (ifaceOf vs lan).1.bdr], .bool (ifaceOf vs lan).2]) ∧ Below w.heap.size w w' := by
  unfold maxLen at hlen
  have Hl := Lib.hid (hl.more hB)
  clear hl hB
  go_enter Try.func101, Try.ntmps101
  go_wp2
  go_loopw [6] (fun i wr => ∃ k : Nat, k ≤ vs.length ∧ i = .int .i64 k ∧ (vs.take k).find? (onV lan) = none ∧ Blk wr w.heap.size 123 #[.int .i64 id, .slice va vs.length vcap, .slice la ln lcap, .slice ra rn rcap] ∧ Blk wr (w.heap.size + 1) 110 #[.int .i64 0, .int .i64 0, .int .i64 0, .int .i64 0, .int .i64 0] ∧ Below w.heap.size w wr) (fun i _ => vs.length - (intOf i).toNat)
  case atStart => exact ⟨0, Nat.zero_le _, rfl, by simp, (Blk.new w _ _).alloc _, Blk.size (w := w.alloc _) (by simp), ((Below.refl _ _).alloc (Nat.le_refl _) _).alloc (by simp) _⟩
  case round =>
    obtain ⟨k, hk, rfl, hno, hst, hz, hbe⟩ := hrel
    obtain ⟨s0, s1, s2, s3⟩ := Blk.cells4a hst
    by_cases hlt : k < vs.length
    · obtain ⟨b', o', rfl, hbB, -, e0, e1, e2, e3, e4, e5, e6, e7, e8⟩ := (Hl.out.below hbe).at_ k hlt
      have hsucc := find_take_succ (onV lan) vs k hlt hno
      have hhit := iface_hit (lan := lan) hlt hno
      obtain ⟨v, hv0⟩ : ∃ v, vs[k] = v := ⟨_, rfl⟩
      rw [hv0] at e0 e1 e2 e3 e4 e5 e6 e7 e8 hsucc hhit
      clear hv0
      rcases v with ⟨vlan, cost, self, prio, state, dr, bdr, pa, pcap, peers, wa, wcap, wants⟩
      have hkl : (k : Int) < (vs.length : Int) := by omega
      have Hst := Lib.hid hst
      have Hz := Lib.hid hz
      have Hb := Lib.hid hbe
      have Hsucc := Lib.hid hsucc
      have Hhit := Lib.hid hhit
      have HbB := Lib.hid hbB
      clear hz hst hbe hno hsucc hhit hbB
      rcases onV_cases lan ⟨vlan, cost, self, prio, state, dr, bdr, pa, pcap, peers, wa, wcap, wants⟩ with ⟨t1, hv⟩ | ⟨t1, t2, hv⟩ | ⟨t1, t2, t3, hv⟩ | ⟨t1, t2, t3, hv⟩
      · have Hv := Lib.hid hv
        clear hv
        go_wp2
        go_roundw
        case measure => simp [intOf]; omega
        case rel => exact ⟨k + 1, hlt, by go_num, Hsucc.out Hv.out, Hst.out, Hz.out, Hb.out⟩
      · have Hv := Lib.hid hv
        clear hv
        go_wp2
        go_roundw
        case measure => simp [intOf]; omega
        case rel => exact ⟨k + 1, hlt, by go_num, Hsucc.out Hv.out, Hst.out, Hz.out, Hb.out⟩
      · have Hv := Lib.hid hv
        clear hv
        go_wp2
        go_roundw
        case measure => simp [intOf]; omega
        case rel => exact ⟨k + 1, hlt, by go_num, Hsucc.out Hv.out, Hst.out, Hz.out, Hb.out⟩
      · have hh := Hhit.out hv
        have Hh := Lib.hid hh
        clear hv hh
        go_wp2_with fail
        refine wp_region_held (S := fun W => Blk W w.heap.size 123 #[.int .i64 id, .slice (some ⟨b', o', none⟩) vs.length vcap, .slice la ln lcap, .slice ra rn rcap] ∧ (W.cell? ⟨b', o' + k * 9 + 2, none⟩ = some (.int .i64 self) ∧ W.cell? ⟨b', o' + k * 9 + 3, none⟩ = some (.int .i64 prio) ∧ W.cell? ⟨b', o' + k * 9 + 4, none⟩ = some (.int .i64 state) ∧ W.cell? ⟨b', o' + k * 9 + 5, none⟩ = some (.int .i64 dr) ∧ W.cell? ⟨b', o' + k * 9 + 6, none⟩ = some (.int .i64 bdr))) (by kernel_rfl) ?_
        obtain ⟨wd, hwd⟩ : ∃ wd : World, ({ wr with drawn := wr.drawn + 1 } : World) = wd := ⟨_, rfl⟩
        rw [hwd]
        have hbwd : Below wr.heap.size wr wd := by rw [← hwd]; exact (Below.refl _ _).drew
        have hV := below_cells5 hbwd ⟨e2, e3, e4, e5, e6⟩
        have hS : Blk wd w.heap.size 123 #[.int .i64 id, .slice (some ⟨b', o', none⟩) vs.length vcap, .slice la ln lcap, .slice ra rn rcap] ∧ (wd.cell? ⟨b', o' + k * 9 + 2, none⟩ = some (.int .i64 self) ∧ wd.cell? ⟨b', o' + k * 9 + 3, none⟩ = some (.int .i64 prio) ∧ wd.cell? ⟨b', o' + k * 9 + 4, none⟩ = some (.int .i64 state) ∧ wd.cell? ⟨b', o' + k * 9 + 5, none⟩ = some (.int .i64 dr) ∧ wd.cell? ⟨b', o' + k * 9 + 6, none⟩ = some (.int .i64 bdr)) := ⟨Hst.out.below hbwd Hst.out.lt, hV⟩
        have hzd : Blk wd (w.heap.size + 1) 110 #[.int .i64 0, .int .i64 0, .int .i64 0, .int .i64 0, .int .i64 0] := Hz.out.below hbwd Hz.out.lt
        have hbd : Below w.heap.size w wd := Hb.out.trans (hbwd.mono Hb.out.size)
        clear hwd e0 e1 e2 e3 e4 e5 e6 e7 e8 s0 s1 s2 s3
        refine wpAnyH_take (i := 0) rfl (by kernel_rfl) (by kernel_rfl) (by kernel_rfl) (fun _ _ _ h => h) (Or.inl ⟨rfl, fun W hW => by (have hW' : Blk W w.heap.size 123 #[.int .i64 id, .slice (some ⟨b', o', none⟩) vs.length vcap, .slice la ln lcap, .slice ra rn rcap] ∧ (W.cell? ⟨b', o' + k * 9 + 2, none⟩ = some (.int .i64 self) ∧ W.cell? ⟨b', o' + k * 9 + 3, none⟩ = some (.int .i64 prio) ∧ W.cell? ⟨b', o' + k * 9 + 4, none⟩ = some (.int .i64 state) ∧ W.cell? ⟨b', o' + k * 9 + 5, none⟩ = some (.int .i64 dr) ∧ W.cell? ⟨b', o' + k * 9 + 6, none⟩ = some (.int .i64 bdr)) := hW; obtain ⟨hWb, g2, g3, g4, g5, g6⟩ := hW'; obtain ⟨p0, p1, p2, p3⟩ := Blk.cells4a hWb; clear hW hWb); go_simp; try with_reducible rfl⟩) hS ?_
        refine wpAnyH_take (i := 1) rfl (by kernel_rfl) (by kernel_rfl) (by kernel_rfl) (fun _ _ _ h => h) (Or.inl ⟨rfl, fun W hW => by (have hW' : Blk W w.heap.size 123 #[.int .i64 id, .slice (some ⟨b', o', none⟩) vs.length vcap, .slice la ln lcap, .slice ra rn rcap] ∧ (W.cell? ⟨b', o' + k * 9 + 2, none⟩ = some (.int .i64 self) ∧ W.cell? ⟨b', o' + k * 9 + 3, none⟩ = some (.int .i64 prio) ∧ W.cell? ⟨b', o' + k * 9 + 4, none⟩ = some (.int .i64 state) ∧ W.cell? ⟨b', o' + k * 9 + 5, none⟩ = some (.int .i64 dr) ∧ W.cell? ⟨b', o' + k * 9 + 6, none⟩ = some (.int .i64 bdr)) := hW; obtain ⟨hWb, g2, g3, g4, g5, g6⟩ := hW'; obtain ⟨p0, p1, p2, p3⟩ := Blk.cells4a hWb; clear hW hWb); go_simp; try with_reducible rfl⟩) hS ?_
        refine wpAnyH_take (i := 2) rfl (by kernel_rfl) (by kernel_rfl) (by kernel_rfl) (fun _ _ _ h => h) (Or.inl ⟨rfl, fun W hW => by (have hW' : Blk W w.heap.size 123 #[.int .i64 id, .slice (some ⟨b', o', none⟩) vs.length vcap, .slice la ln lcap, .slice ra rn rcap] ∧ (W.cell? ⟨b', o' + k * 9 + 2, none⟩ = some (.int .i64 self) ∧ W.cell? ⟨b', o' + k * 9 + 3, none⟩ = some (.int .i64 prio) ∧ W.cell? ⟨b', o' + k * 9 + 4, none⟩ = some (.int .i64 state) ∧ W.cell? ⟨b', o' + k * 9 + 5, none⟩ = some (.int .i64 dr) ∧ W.cell? ⟨b', o' + k * 9 + 6, none⟩ = some (.int .i64 bdr)) := hW; obtain ⟨hWb, g2, g3, g4, g5, g6⟩ := hW'; obtain ⟨p0, p1, p2, p3⟩ := Blk.cells4a hWb; clear hW hWb); go_simp; try with_reducible rfl⟩) hS ?_
        refine wpAnyH_take (i := 3) rfl (by kernel_rfl) (by kernel_rfl) (by kernel_rfl) (fun _ _ _ h => h) (Or.inl ⟨rfl, fun W hW => by (have hW' : Blk W w.heap.size 123 #[.int .i64 id, .slice (some ⟨b', o', none⟩) vs.length vcap, .slice la ln lcap, .slice ra rn rcap] ∧ (W.cell? ⟨b', o' + k * 9 + 2, none⟩ = some (.int .i64 self) ∧ W.cell? ⟨b', o' + k * 9 + 3, none⟩ = some (.int .i64 prio) ∧ W.cell? ⟨b', o' + k * 9 + 4, none⟩ = some (.int .i64 state) ∧ W.cell? ⟨b', o' + k * 9 + 5, none⟩ = some (.int .i64 dr) ∧ W.cell? ⟨b', o' + k * 9 + 6, none⟩ = some (.int .i64 bdr)) := hW; obtain ⟨hWb, g2, g3, g4, g5, g6⟩ := hW'; obtain ⟨p0, p1, p2, p3⟩ := Blk.cells4a hWb; clear hW hWb); go_simp; try with_reducible rfl⟩) hS ?_
        refine wpAnyH_take (i := 4) rfl (by kernel_rfl) (by kernel_rfl) (by kernel_rfl) (fun _ _ _ h => h) (Or.inl ⟨rfl, fun W hW => by (have hW' : Blk W w.heap.size 123 #[.int .i64 id, .slice (some ⟨b', o', none⟩) vs.length vcap, .slice la ln lcap, .slice ra rn rcap] ∧ (W.cell? ⟨b', o' + k * 9 + 2, none⟩ = some (.int .i64 self) ∧ W.cell? ⟨b', o' + k * 9 + 3, none⟩ = some (.int .i64 prio) ∧ W.cell? ⟨b', o' + k * 9 + 4, none⟩ = some (.int .i64 state) ∧ W.cell? ⟨b', o' + k * 9 + 5, none⟩ = some (.int .i64 dr) ∧ W.cell? ⟨b', o' + k * 9 + 6, none⟩ = some (.int .i64 bdr)) := hW; obtain ⟨hWb, g2, g3, g4, g5, g6⟩ := hW'; obtain ⟨p0, p1, p2, p3⟩ := Blk.cells4a hWb; clear hW hWb); go_simp; try with_reducible rfl⟩) hS ?_
        refine wpAnyH_take (i := 5) rfl (by kernel_rfl) (by kernel_rfl) (by kernel_rfl) (fun _ _ _ h => h) (Or.inl ⟨rfl, fun W hW => by (have hW' : Blk W w.heap.size 123 #[.int .i64 id, .slice (some ⟨b', o', none⟩) vs.length vcap, .slice la ln lcap, .slice ra rn rcap] ∧ (W.cell? ⟨b', o' + k * 9 + 2, none⟩ = some (.int .i64 self) ∧ W.cell? ⟨b', o' + k * 9 + 3, none⟩ = some (.int .i64 prio) ∧ W.cell? ⟨b', o' + k * 9 + 4, none⟩ = some (.int .i64 state) ∧ W.cell? ⟨b', o' + k * 9 + 5, none⟩ = some (.int .i64 dr) ∧ W.cell? ⟨b', o' + k * 9 + 6, none⟩ = some (.int .i64 bdr)) := hW; obtain ⟨hWb, g2, g3, g4, g5, g6⟩ := hW'; obtain ⟨p0, p1, p2, p3⟩ := Blk.cells4a hWb; clear hW hWb); go_simp; try with_reducible rfl⟩) hS ?_
        refine wpAnyH_take (i := 6) rfl (by kernel_rfl) (by kernel_rfl) (by kernel_rfl) (fun _ _ _ h => h) (Or.inl ⟨rfl, fun W hW => by (have hW' : Blk W w.heap.size 123 #[.int .i64 id, .slice (some ⟨b', o', none⟩) vs.length vcap, .slice la ln lcap, .slice ra rn rcap] ∧ (W.cell? ⟨b', o' + k * 9 + 2, none⟩ = some (.int .i64 self) ∧ W.cell? ⟨b', o' + k * 9 + 3, none⟩ = some (.int .i64 prio) ∧ W.cell? ⟨b', o' + k * 9 + 4, none⟩ = some (.int .i64 state) ∧ W.cell? ⟨b', o' + k * 9 + 5, none⟩ = some (.int .i64 dr) ∧ W.cell? ⟨b', o' + k * 9 + 6, none⟩ = some (.int .i64 bdr)) := hW; obtain ⟨hWb, g2, g3, g4, g5, g6⟩ := hW'; obtain ⟨p0, p1, p2, p3⟩ := Blk.cells4a hWb; clear hW hWb); go_simp; try with_reducible rfl⟩) hS ?_
        refine wpAnyH_take (i := 7) rfl (by kernel_rfl) (by kernel_rfl) (by kernel_rfl) (fun _ _ _ h => h) (Or.inl ⟨rfl, fun W hW => by (have hW' : Blk W w.heap.size 123 #[.int .i64 id, .slice (some ⟨b', o', none⟩) vs.length vcap, .slice la ln lcap, .slice ra rn rcap] ∧ (W.cell? ⟨b', o' + k * 9 + 2, none⟩ = some (.int .i64 self) ∧ W.cell? ⟨b', o' + k * 9 + 3, none⟩ = some (.int .i64 prio) ∧ W.cell? ⟨b', o' + k * 9 + 4, none⟩ = some (.int .i64 state) ∧ W.cell? ⟨b', o' + k * 9 + 5, none⟩ = some (.int .i64 dr) ∧ W.cell? ⟨b', o' + k * 9 + 6, none⟩ = some (.int .i64 bdr)) := hW; obtain ⟨hWb, g2, g3, g4, g5, g6⟩ := hW'; obtain ⟨p0, p1, p2, p3⟩ := Blk.cells4a hWb; clear hW hWb); go_simp; try with_reducible rfl⟩) hS ?_
        refine wpAnyH_take (i := 8) rfl (by kernel_rfl) (by kernel_rfl) (by kernel_rfl) (fun _ _ _ h => h) (Or.inl ⟨rfl, fun W hW => by (have hW' : Blk W w.heap.size 123 #[.int .i64 id, .slice (some ⟨b', o', none⟩) vs.length vcap, .slice la ln lcap, .slice ra rn rcap] ∧ (W.cell? ⟨b', o' + k * 9 + 2, none⟩ = some (.int .i64 self) ∧ W.cell? ⟨b', o' + k * 9 + 3, none⟩ = some (.int .i64 prio) ∧ W.cell? ⟨b', o' + k * 9 + 4, none⟩ = some (.int .i64 state) ∧ W.cell? ⟨b', o' + k * 9 + 5, none⟩ = some (.int .i64 dr) ∧ W.cell? ⟨b', o' + k * 9 + 6, none⟩ = some (.int .i64 bdr)) := hW; obtain ⟨hWb, g2, g3, g4, g5, g6⟩ := hW'; obtain ⟨p0, p1, p2, p3⟩ := Blk.cells4a hWb; clear hW hWb); go_simp; try with_reducible rfl⟩) hS ?_
        refine wpAnyH_take (i := 9) rfl (by kernel_rfl) (by kernel_rfl) (by kernel_rfl) (fun _ _ _ h => h) (Or.inl ⟨rfl, fun W hW => by (have hW' : Blk W w.heap.size 123 #[.int .i64 id, .slice (some ⟨b', o', none⟩) vs.length vcap, .slice la ln lcap, .slice ra rn rcap] ∧ (W.cell? ⟨b', o' + k * 9 + 2, none⟩ = some (.int .i64 self) ∧ W.cell? ⟨b', o' + k * 9 + 3, none⟩ = some (.int .i64 prio) ∧ W.cell? ⟨b', o' + k * 9 + 4, none⟩ = some (.int .i64 state) ∧ W.cell? ⟨b', o' + k * 9 + 5, none⟩ = some (.int .i64 dr) ∧ W.cell? ⟨b', o' + k * 9 + 6, none⟩ = some (.int .i64 bdr)) := hW; obtain ⟨hWb, g2, g3, g4, g5, g6⟩ := hW'; obtain ⟨p0, p1, p2, p3⟩ := Blk.cells4a hWb; clear hW hWb); go_simp; try with_reducible rfl⟩) hS ?_
        refine wpAnyH_take (i := 10) rfl (by kernel_rfl) (by kernel_rfl) (by kernel_rfl) (fun _ _ _ h => h) (Or.inl ⟨rfl, fun W hW => by (have hW' : Blk W w.heap.size 123 #[.int .i64 id, .slice (some ⟨b', o', none⟩) vs.length vcap, .slice la ln lcap, .slice ra rn rcap] ∧ (W.cell? ⟨b', o' + k * 9 + 2, none⟩ = some (.int .i64 self) ∧ W.cell? ⟨b', o' + k * 9 + 3, none⟩ = some (.int .i64 prio) ∧ W.cell? ⟨b', o' + k * 9 + 4, none⟩ = some (.int .i64 state) ∧ W.cell? ⟨b', o' + k * 9 + 5, none⟩ = some (.int .i64 dr) ∧ W.cell? ⟨b', o' + k * 9 + 6, none⟩ = some (.int .i64 bdr)) := hW; obtain ⟨hWb, g2, g3, g4, g5, g6⟩ := hW'; obtain ⟨p0, p1, p2, p3⟩ := Blk.cells4a hWb; clear hW hWb); go_simp; try with_reducible rfl⟩) hS ?_
        refine wpAnyH_take (i := 11) rfl (by kernel_rfl) (by kernel_rfl) (by kernel_rfl) (fun _ _ _ h => h) (Or.inl ⟨rfl, fun W hW => by (have hW' : Blk W w.heap.size 123 #[.int .i64 id, .slice (some ⟨b', o', none⟩) vs.length vcap, .slice la ln lcap, .slice ra rn rcap] ∧ (W.cell? ⟨b', o' + k * 9 + 2, none⟩ = some (.int .i64 self) ∧ W.cell? ⟨b', o' + k * 9 + 3, none⟩ = some (.int .i64 prio) ∧ W.cell? ⟨b', o' + k * 9 + 4, none⟩ = some (.int .i64 state) ∧ W.cell? ⟨b', o' + k * 9 + 5, none⟩ = some (.int .i64 dr) ∧ W.cell? ⟨b', o' + k * 9 + 6, none⟩ = some (.int .i64 bdr)) := hW; obtain ⟨hWb, g2, g3, g4, g5, g6⟩ := hW'; obtain ⟨p0, p1, p2, p3⟩ := Blk.cells4a hWb; clear hW hWb); go_simp; try with_reducible rfl⟩) hS ?_
        refine wpAnyH_take (i := 12) rfl (by kernel_rfl) (by kernel_rfl) (by kernel_rfl) (fun _ _ _ h => h) (Or.inl ⟨rfl, fun W hW => by (have hW' : Blk W w.heap.size 123 #[.int .i64 id, .slice (some ⟨b', o', none⟩) vs.length vcap, .slice la ln lcap, .slice ra rn rcap] ∧ (W.cell? ⟨b', o' + k * 9 + 2, none⟩ = some (.int .i64 self) ∧ W.cell? ⟨b', o' + k * 9 + 3, none⟩ = some (.int .i64 prio) ∧ W.cell? ⟨b', o' + k * 9 + 4, none⟩ = some (.int .i64 state) ∧ W.cell? ⟨b', o' + k * 9 + 5, none⟩ = some (.int .i64 dr) ∧ W.cell? ⟨b', o' + k * 9 + 6, none⟩ = some (.int .i64 bdr)) := hW; obtain ⟨hWb, g2, g3, g4, g5, g6⟩ := hW'; obtain ⟨p0, p1, p2, p3⟩ := Blk.cells4a hWb; clear hW hWb); go_simp; try with_reducible rfl⟩) hS ?_
        refine wpAnyH_take (i := 13) rfl (by kernel_rfl) (by kernel_rfl) (by kernel_rfl) (fun _ _ _ h => h) (Or.inl ⟨rfl, fun W hW => by (have hW' : Blk W w.heap.size 123 #[.int .i64 id, .slice (some ⟨b', o', none⟩) vs.length vcap, .slice la ln lcap, .slice ra rn rcap] ∧ (W.cell? ⟨b', o' + k * 9 + 2, none⟩ = some (.int .i64 self) ∧ W.cell? ⟨b', o' + k * 9 + 3, none⟩ = some (.int .i64 prio) ∧ W.cell? ⟨b', o' + k * 9 + 4, none⟩ = some (.int .i64 state) ∧ W.cell? ⟨b', o' + k * 9 + 5, none⟩ = some (.int .i64 dr) ∧ W.cell? ⟨b', o' + k * 9 + 6, none⟩ = some (.int .i64 bdr)) := hW; obtain ⟨hWb, g2, g3, g4, g5, g6⟩ := hW'; obtain ⟨p0, p1, p2, p3⟩ := Blk.cells4a hWb; clear hW hWb); go_simp; try with_reducible rfl⟩) hS ?_
        obtain ⟨z0, z1, z2, z3, z4, y0, y1, y2, y3, y4⟩ := Blk.cells5 hzd
        have hz5 := Blk.set5 (a' := .int .i64 self) (b' := .int .i64 prio) (c' := .int .i64 state) (d' := .int .i64 dr) (e' := .int .i64 bdr) hzd
        have hb5 := below_set5 (a := .int .i64 self) (b := .int .i64 prio) (c := .int .i64 state) (d := .int .i64 dr) (e := .int .i64 bdr) hbd (Nat.le_succ _)
        obtain ⟨o0, o1, o2, o3, o4, -⟩ := Blk.cells5 hz5
        have Hb5 := Lib.hid hb5
        have hS6 := And.intro (Blk.far5 (a := .int .i64 self) (b := .int .i64 prio) (c := .int .i64 state) (d := .int .i64 dr) (e := .int .i64 bdr) hS.1 (Nat.ne_of_lt (Nat.lt_succ_self _))) (below_cells5g (a := .int .i64 self) (b' := .int .i64 prio) (c := .int .i64 state) (d := .int .i64 dr) (e := .int .i64 bdr) (g := w.heap.size + 1) (Nat.lt_of_lt_of_le HbB.out (Nat.le_succ _)) hS.2)
        refine wpAnyH_all (rs := [14]) (by kernel_rfl) (by simp) fun i0 hi0 => ?_
        obtain rfl := List.mem_singleton.1 hi0
        refine wpOp_skip (i := 14) (w' := ((((wd.setCell ⟨w.heap.size + 1, 0, none⟩ (.int .i64 self)).setCell ⟨w.heap.size + 1, 1, none⟩ (.int .i64 prio)).setCell ⟨w.heap.size + 1, 2, none⟩ (.int .i64 state)).setCell ⟨w.heap.size + 1, 3, none⟩ (.int .i64 dr)).setCell ⟨w.heap.size + 1, 4, none⟩ (.int .i64 bdr)) rfl rfl (by go_simp; try with_reducible rfl) ?_
        refine ⟨hS6, ?_⟩
        refine wpAnyH_take (i := 15) rfl (by kernel_rfl) (by kernel_rfl) (by kernel_rfl) (fun _ _ _ h => h) (Or.inl ⟨rfl, fun W hW => by (have hW' : Blk W w.heap.size 123 #[.int .i64 id, .slice (some ⟨b', o', none⟩) vs.length vcap, .slice la ln lcap, .slice ra rn rcap] ∧ (W.cell? ⟨b', o' + k * 9 + 2, none⟩ = some (.int .i64 self) ∧ W.cell? ⟨b', o' + k * 9 + 3, none⟩ = some (.int .i64 prio) ∧ W.cell? ⟨b', o' + k * 9 + 4, none⟩ = some (.int .i64 state) ∧ W.cell? ⟨b', o' + k * 9 + 5, none⟩ = some (.int .i64 dr) ∧ W.cell? ⟨b', o' + k * 9 + 6, none⟩ = some (.int .i64 bdr)) := hW; obtain ⟨hWb, g2, g3, g4, g5, g6⟩ := hW'; obtain ⟨p0, p1, p2, p3⟩ := Blk.cells4a hWb; clear hW hWb); go_simp; try with_reducible rfl⟩) hS6 ?_
        refine wpAnyH_done (by kernel_rfl) ?_ _
        clear hzd hbd hz5 hb5 hS hS6 hbwd hV
        go_simp
        go_wp2
        refine bodyPost_ret (v := .tuple #[.agg #[.int .i64 self, .int .i64 prio, .int .i64 state, .int .i64 dr, .int .i64 bdr], .bool (state != 0)]) (by simp [results, Try.results101, go_sem, o0, o1, o2, o3, o4]) rfl ⟨?_, ?_⟩
        · rw [Hh.out]; rfl
        · exact Hb5.out
    · have hkk : k = vs.length := by omega
      subst hkk
      rw [List.take_length] at hno
      have hm := iface_miss hno
      obtain ⟨z0, z1, z2, z3, z4, y0, y1, y2, y3, y4⟩ := Blk.cells5 hz
      obtain ⟨o0, o1, o2, o3, o4, -⟩ := Blk.cells5 (Blk.set5 (a' := .int .i64 0) (b' := .int .i64 0) (c' := .int .i64 0) (d' := .int .i64 0) (e' := .int .i64 0) hz)
      have Hb := Lib.hid hbe
      have Hm := Lib.hid hm
      clear hz hbe hno hm hst
      go_wp2
      refine bodyPost_ret (v := .tuple #[.agg #[.int .i64 0, .int .i64 0, .int .i64 0, .int .i64 0, .int .i64 0], .bool false]) (by simp [results, Try.results101, go_sem, o0, o1, o2, o3, o4]) rfl ⟨?_, ?_⟩
      · rw [Hm.out]
      · exact below_set5 Hb.out (Nat.le_succ _)

end Go.Proofs.Ytfhikkmgclkcdaa
