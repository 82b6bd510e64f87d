/-
  Layer 27: how a router is on a network (audit.iface).
-/
import Derived.Test.YtfhikkmgclkcdaaAuPlain
import Derived.Test.YtfhikkmgclkcdaaFlA
import Derived.Test.YtfhikkmgclkcdaaAppInt
import Derived.Test.YtfhikkmgclkcdaaHeld
namespace Go.Proofs.Ytfhikkmgclkcdaa
open Go.RowKit

theorem Blk.set5 {w : World} {g : Nat} {t : TypeId} {a b c d e a' b' c' d' e' : Value} (h : Blk w g t #[a, b, c, d, e]) :
    Blk (((((w.setCell ⟨g, 0, none⟩ a').setCell ⟨g, 1, none⟩ b').setCell ⟨g, 2, none⟩ c').setCell ⟨g, 3, none⟩ d').setCell ⟨g, 4, none⟩ e') g t #[a', b', c', d', e'] := by
  have := ((((h.set_ 0 a').set_ 1 b').set_ 2 c').set_ 3 d').set_ 4 e'
  simpa using this
theorem Blk.far5 {w : World} {g g' : Nat} {t : TypeId} {cs : Array Value} {a b c d e : Value} (h : Blk w g t cs) (hg : g ≠ g') :
    Blk (((((w.setCell ⟨g', 0, none⟩ a).setCell ⟨g', 1, none⟩ b).setCell ⟨g', 2, none⟩ c).setCell ⟨g', 3, none⟩ d).setCell ⟨g', 4, none⟩ e) g t cs :=
  ((((h.far (p := ⟨g', 0, none⟩) hg _).far (p := ⟨g', 1, none⟩) hg _).far (p := ⟨g', 2, none⟩) hg _).far (p := ⟨g', 3, none⟩) hg _).far (p := ⟨g', 4, none⟩) hg _
theorem Blk.cells9a {w : World} {g : Nat} {t : TypeId} {a b c d e f x y z : Value} (h : Blk w g t #[a, b, c, d, e, f, x, y, z]) : w.cell? ⟨g, 0, none⟩ = some a ∧ w.cell? ⟨g, 1, none⟩ = some b ∧ w.cell? ⟨g, 2, none⟩ = some c ∧ w.cell? ⟨g, 3, none⟩ = some d ∧ w.cell? ⟨g, 4, none⟩ = some e ∧ w.cell? ⟨g, 5, none⟩ = some f ∧ w.cell? ⟨g, 6, none⟩ = some x ∧ w.cell? ⟨g, 7, none⟩ = some y ∧ w.cell? ⟨g, 8, none⟩ = some z :=
  ⟨h.cell 0, h.cell 1, h.cell 2, h.cell 3, h.cell 4, h.cell 5, h.cell 6, h.cell 7, h.cell 8⟩
theorem below_set5 {w wr : World} {g : Nat} {a b c d e : Value} (hb : Below w.heap.size w wr) (hg : w.heap.size ≤ g) :
    Below w.heap.size w (((((wr.setCell ⟨g, 0, none⟩ a).setCell ⟨g, 1, none⟩ b).setCell ⟨g, 2, none⟩ c).setCell ⟨g, 3, none⟩ d).setCell ⟨g, 4, none⟩ e) :=
  ((((hb.setCell hg _).setCell hg _).setCell hg _).setCell hg _).setCell hg _

set_option maxHeartbeats 2000000 in
set_option maxRecDepth 100000 in
theorem iface_any (b o : Nat) (lan : Int) (va : Option Addr) (vcap : Nat) (vs : List Viw) (w : World) (B : Nat) (hb : b < w.heap.size) (hc : w.cell? ⟨b, o + 1, none⟩ = some (.slice va vs.length vcap)) (hl : ViewsAt w B va vs) (hB : B ≤ w.heap.size) (hlen : vs.length ≤ maxLen) :
    Calls Try.prog 104 #[.pointer (some ⟨b, o, none⟩), .int .i64 lan] w fun r w' => r = .returned (.tuple #[.agg #[.int .i64 (ifaceOf vs lan).1.self, .int .i64 (ifaceOf vs lan).1.prio, .int .i64 (ifaceOf vs lan).1.state, .int .i64 (ifaceOf vs lan).1.dr, .int .i64 (ifaceOf vs lan).1.bdr], .bool (ifaceOf vs lan).2]) ∧ Below w.heap.size w w' := by
  unfold maxLen at hlen
  have Hl := Lib.hid (hl.more hB)
  have hca : ∀ ob, (w.alloc ob).cell? ⟨b, o + 1, none⟩ = some (.slice va vs.length vcap) := fun ob => (World.cell?_alloc_lt w ob ⟨b, o + 1, none⟩ hb).trans hc
  clear hl hB hc
  go_enter Try.func104, Try.ntmps104
  go_wp2
  go_loopw [13] (fun i wr => ∃ k : Nat, k ≤ vs.length ∧ i = .int .i64 k ∧ (vs.take k).find? (onV lan) = none ∧ Blk wr w.heap.size 110 #[.int .i64 0, .int .i64 0, .int .i64 0, .int .i64 0, .int .i64 0] ∧ Below w.heap.size w wr) (fun i _ => vs.length - (intOf i).toNat)
  case atStart => exact ⟨0, Nat.zero_le _, rfl, by simp, Blk.new _ _ _, (Below.refl _ _).alloc (Nat.le_refl _) _⟩
  case round =>
    obtain ⟨k, hk, rfl, hno, hz, hbe⟩ := hrel
    clear hca
    by_cases hlt : k < vs.length
    · obtain ⟨b', o', rfl, -, -, e0, e1, e2, e3, e4, e5, e6, e7, e8⟩ := (Hl.out.below hbe).at_ k hlt
      have hsucc := find_take_succ (onV lan) vs k hlt hno
      have hhit := iface_hit (lan := lan) hlt hno
      generalize vs[k] = v at *
      rcases v with ⟨vlan, cost, self, prio, state, dr, bdr, pa, pcap, peers, wa, wcap, wants⟩
      have hkl : (k : Int) < (vs.length : Int) := by omega
      obtain ⟨wq, hWq, hzq, hvq, hbq⟩ : ∃ wq, wr.alloc (.cells #[.int .i64 vlan, .int .i64 cost, .int .i64 self, .int .i64 prio, .int .i64 state, .int .i64 dr, .int .i64 bdr, .slice pa peers.length pcap, .slice wa wants.length wcap] 116) = wq ∧
          Blk wq w.heap.size 110 #[.int .i64 0, .int .i64 0, .int .i64 0, .int .i64 0, .int .i64 0] ∧ Blk wq wr.heap.size 116 #[.int .i64 vlan, .int .i64 cost, .int .i64 self, .int .i64 prio, .int .i64 state, .int .i64 dr, .int .i64 bdr, .slice pa peers.length pcap, .slice wa wants.length wcap] ∧ Below w.heap.size w wq :=
        ⟨_, rfl, hz.alloc _, Blk.new _ _ _, hbe.alloc hbe.size _⟩
      obtain ⟨x0, x1, x2, x3, x4, x5, x6, x7, x8⟩ := Blk.cells9a hvq
      have Hvq := Lib.hid hvq
      have Hgg := Lib.hid (show w.heap.size < wr.heap.size from hz.lt)
      have Hzq := Lib.hid hzq
      have Hbq := Lib.hid hbq
      have Hsucc := Lib.hid hsucc
      have Hhit := Lib.hid hhit
      clear hz hbe hno hsucc hhit hzq hbq hvq
      rcases onV_cases lan ⟨vlan, cost, self, prio, state, dr, bdr, pa, pcap, peers, wa, wcap, wants⟩ with ⟨t1, hv⟩ | ⟨t1, t2, hv⟩ | ⟨t1, t2, t3, hv⟩ | ⟨t1, t2, t3, hv⟩
      · have Hv := Lib.hid hv
        clear hv
        go_wp2
        go_roundw
        case measure => simp [intOf]; omega
        case rel => exact ⟨k + 1, hlt, by go_num, Hsucc.out Hv.out, Hzq.out, Hbq.out⟩
      · have Hv := Lib.hid hv
        clear hv
        go_wp2
        go_roundw
        case measure => simp [intOf]; omega
        case rel => exact ⟨k + 1, hlt, by go_num, Hsucc.out Hv.out, Hzq.out, Hbq.out⟩
      · have Hv := Lib.hid hv
        clear hv
        go_wp2
        go_roundw
        case measure => simp [intOf]; omega
        case rel => exact ⟨k + 1, hlt, by go_num, Hsucc.out Hv.out, Hzq.out, Hbq.out⟩
      · have hh := Hhit.out hv
        have Hh := Lib.hid hh
        clear hv hh
        go_wp2_with fail
        refine wp_region_held (S := fun W => Blk W wr.heap.size 116 #[.int .i64 vlan, .int .i64 cost, .int .i64 self, .int .i64 prio, .int .i64 state, .int .i64 dr, .int .i64 bdr, .slice pa peers.length pcap, .slice wa wants.length wcap]) (by kernel_rfl) ?_
        obtain ⟨wd, hwd⟩ : ∃ wd : World, ({ wq with drawn := wq.drawn + 1 } : World) = wd := ⟨_, rfl⟩
        rw [hwd]
        have hbwd : Below wq.heap.size wq wd := by rw [← hwd]; exact (Below.refl _ _).drew
        have hS : Blk wd wr.heap.size 116 #[.int .i64 vlan, .int .i64 cost, .int .i64 self, .int .i64 prio, .int .i64 state, .int .i64 dr, .int .i64 bdr, .slice pa peers.length pcap, .slice wa wants.length wcap] := Hvq.out.below hbwd Hvq.out.lt
        have hzd : Blk wd w.heap.size 110 #[.int .i64 0, .int .i64 0, .int .i64 0, .int .i64 0, .int .i64 0] := Hzq.out.below hbwd Hzq.out.lt
        have hbd : Below w.heap.size w wd := Hbq.out.trans (hbwd.mono Hbq.out.size)
        clear hwd x0 x1 x2 x3 x4 x5 x6 x7 x8
        have hS5 := hS
        refine wpAnyH_take (i := 0) rfl (by kernel_rfl) (by kernel_rfl) (by kernel_rfl) (fun _ _ _ h => h) (Or.inl ⟨rfl, fun W hW => by (obtain ⟨c0, c1, c2, c3, c4, c5, c6, c7, c8⟩ := Blk.cells9a (show Blk W wr.heap.size 116 #[.int .i64 vlan, .int .i64 cost, .int .i64 self, .int .i64 prio, .int .i64 state, .int .i64 dr, .int .i64 bdr, .slice pa peers.length pcap, .slice wa wants.length wcap] from hW)); go_simp; try with_reducible rfl⟩) hS ?_
        refine wpAnyH_take (i := 1) rfl (by kernel_rfl) (by kernel_rfl) (by kernel_rfl) (fun _ _ _ h => h) (Or.inl ⟨rfl, fun W hW => by (obtain ⟨c0, c1, c2, c3, c4, c5, c6, c7, c8⟩ := Blk.cells9a (show Blk W wr.heap.size 116 #[.int .i64 vlan, .int .i64 cost, .int .i64 self, .int .i64 prio, .int .i64 state, .int .i64 dr, .int .i64 bdr, .slice pa peers.length pcap, .slice wa wants.length wcap] from hW)); go_simp; try with_reducible rfl⟩) hS ?_
        refine wpAnyH_take (i := 2) rfl (by kernel_rfl) (by kernel_rfl) (by kernel_rfl) (fun _ _ _ h => h) (Or.inl ⟨rfl, fun W hW => by (obtain ⟨c0, c1, c2, c3, c4, c5, c6, c7, c8⟩ := Blk.cells9a (show Blk W wr.heap.size 116 #[.int .i64 vlan, .int .i64 cost, .int .i64 self, .int .i64 prio, .int .i64 state, .int .i64 dr, .int .i64 bdr, .slice pa peers.length pcap, .slice wa wants.length wcap] from hW)); go_simp; try with_reducible rfl⟩) hS ?_
        refine wpAnyH_take (i := 3) rfl (by kernel_rfl) (by kernel_rfl) (by kernel_rfl) (fun _ _ _ h => h) (Or.inl ⟨rfl, fun W hW => by (obtain ⟨c0, c1, c2, c3, c4, c5, c6, c7, c8⟩ := Blk.cells9a (show Blk W wr.heap.size 116 #[.int .i64 vlan, .int .i64 cost, .int .i64 self, .int .i64 prio, .int .i64 state, .int .i64 dr, .int .i64 bdr, .slice pa peers.length pcap, .slice wa wants.length wcap] from hW)); go_simp; try with_reducible rfl⟩) hS ?_
        refine wpAnyH_take (i := 4) rfl (by kernel_rfl) (by kernel_rfl) (by kernel_rfl) (fun _ _ _ h => h) (Or.inl ⟨rfl, fun W hW => by (obtain ⟨c0, c1, c2, c3, c4, c5, c6, c7, c8⟩ := Blk.cells9a (show Blk W wr.heap.size 116 #[.int .i64 vlan, .int .i64 cost, .int .i64 self, .int .i64 prio, .int .i64 state, .int .i64 dr, .int .i64 bdr, .slice pa peers.length pcap, .slice wa wants.length wcap] from hW)); go_simp; try with_reducible rfl⟩) hS ?_
        refine wpAnyH_take (i := 5) rfl (by kernel_rfl) (by kernel_rfl) (by kernel_rfl) (fun _ _ _ h => h) (Or.inl ⟨rfl, fun W hW => by (obtain ⟨c0, c1, c2, c3, c4, c5, c6, c7, c8⟩ := Blk.cells9a (show Blk W wr.heap.size 116 #[.int .i64 vlan, .int .i64 cost, .int .i64 self, .int .i64 prio, .int .i64 state, .int .i64 dr, .int .i64 bdr, .slice pa peers.length pcap, .slice wa wants.length wcap] from hW)); go_simp; try with_reducible rfl⟩) hS ?_
        obtain ⟨z0, z1, z2, z3, z4, y0, y1, y2, y3, y4⟩ := Blk.cells5 hzd
        have hz5 := Blk.set5 (a' := .int .i64 self) (b' := .int .i64 prio) (c' := .int .i64 state) (d' := .int .i64 dr) (e' := .int .i64 bdr) hzd
        have hb5 := below_set5 (a := .int .i64 self) (b := .int .i64 prio) (c := .int .i64 state) (d := .int .i64 dr) (e := .int .i64 bdr) hbd (Nat.le_refl _)
        obtain ⟨o0, o1, o2, o3, o4, -⟩ := Blk.cells5 hz5
        have Hb5 := Lib.hid hb5
        refine wpAnyH_all (rs := [6]) (by kernel_rfl) (by simp) fun i0 hi0 => ?_
        obtain rfl := List.mem_singleton.1 hi0
        refine wpOp_skip (i := 6) (w' := ((((wd.setCell ⟨w.heap.size, 0, none⟩ (.int .i64 self)).setCell ⟨w.heap.size, 1, none⟩ (.int .i64 prio)).setCell ⟨w.heap.size, 2, none⟩ (.int .i64 state)).setCell ⟨w.heap.size, 3, none⟩ (.int .i64 dr)).setCell ⟨w.heap.size, 4, none⟩ (.int .i64 bdr)) rfl rfl (by go_simp; try with_reducible rfl) ?_
        have hS6 := Blk.far5 (a := .int .i64 self) (b := .int .i64 prio) (c := .int .i64 state) (d := .int .i64 dr) (e := .int .i64 bdr) hS (Nat.ne_of_gt Hgg.out)
        refine ⟨hS6, ?_⟩
        refine wpAnyH_take (i := 7) rfl (by kernel_rfl) (by kernel_rfl) (by kernel_rfl) (fun _ _ _ h => h) (Or.inl ⟨rfl, fun W hW => by (obtain ⟨c0, c1, c2, c3, c4, c5, c6, c7, c8⟩ := Blk.cells9a (show Blk W wr.heap.size 116 #[.int .i64 vlan, .int .i64 cost, .int .i64 self, .int .i64 prio, .int .i64 state, .int .i64 dr, .int .i64 bdr, .slice pa peers.length pcap, .slice wa wants.length wcap] from hW)); go_simp; try with_reducible rfl⟩) hS6 ?_
        refine wpAnyH_done (by kernel_rfl) ?_ _
        clear hzd hbd hz5 hb5 hS hS5 hS6 hbwd
        go_simp
        go_wp2
        refine bodyPost_ret (v := .tuple #[.agg #[.int .i64 self, .int .i64 prio, .int .i64 state, .int .i64 dr, .int .i64 bdr], .bool (state != 0)]) (by simp [results, Try.results104, go_sem, o0, o1, o2, o3, o4]) rfl ⟨?_, ?_⟩
        · rw [Hh.out]; rfl
        · exact Hb5.out
    · have hkk : k = vs.length := by omega
      subst hkk
      rw [List.take_length] at hno
      have hm := iface_miss hno
      obtain ⟨z0, z1, z2, z3, z4, y0, y1, y2, y3, y4⟩ := Blk.cells5 hz
      obtain ⟨o0, o1, o2, o3, o4, -⟩ := Blk.cells5 (Blk.set5 (a' := .int .i64 0) (b' := .int .i64 0) (c' := .int .i64 0) (d' := .int .i64 0) (e' := .int .i64 0) hz)
      have Hb := Lib.hid hbe
      have Hm := Lib.hid hm
      clear hz hbe hno hm
      go_wp2
      refine bodyPost_ret (v := .tuple #[.agg #[.int .i64 0, .int .i64 0, .int .i64 0, .int .i64 0, .int .i64 0], .bool false]) (by simp [results, Try.results104, go_sem, o0, o1, o2, o3, o4]) rfl ⟨?_, ?_⟩
      · rw [Hm.out]
      · exact below_set5 Hb.out (Nat.le_refl _)

end Go.Proofs.Ytfhikkmgclkcdaa
