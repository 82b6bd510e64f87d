/-
  Layer 27: how a router is on a network (audit.iface).
-/
import Derived.Maps.RangeWalk
import Derived.Maps.OwnSet
import Derived.Laws.StructEq
import Derived.RegionTactic
import Derived.Test.YtpnbibokddhheaaGreatProg
import Derived.Test.YtpnbibokddhheaaGreatBaa
namespace Go.Proofs.YtpnbibokddhheaaGreat
open Go.RowKit

theorem Blk.set5 {w : World} {g : Nat} {t : TypeId} {a b c d e a' b' c' d' e' : Value} (h : Blk w g t #[a, b, c, d, e]) :
    Blk (((((w.setCell ⟨g, 0, none⟩ a').setCell ⟨g, 1, none⟩ b').setCell ⟨g, 2, none⟩ c').setCell ⟨g, 3, none⟩ d').setCell ⟨g, 4, none⟩ e') g t #[a', b', c', d', e'] := by
  have := ((((h.set_ 0 a').set_ 1 b').set_ 2 c').set_ 3 d').set_ 4 e'
  simpa using this
theorem Blk.far5 {w : World} {g g' : Nat} {t : TypeId} {cs : Array Value} {a b c d e : Value} (h : Blk w g t cs) (hg : g ≠ g') :
    Blk (((((w.setCell ⟨g', 0, none⟩ a).setCell ⟨g', 1, none⟩ b).setCell ⟨g', 2, none⟩ c).setCell ⟨g', 3, none⟩ d).setCell ⟨g', 4, none⟩ e) g t cs :=
  ((((h.far (p := ⟨g', 0, none⟩) hg _).far (p := ⟨g', 1, none⟩) hg _).far (p := ⟨g', 2, none⟩) hg _).far (p := ⟨g', 3, none⟩) hg _).far (p := ⟨g', 4, none⟩) hg _
theorem Blk.cells9a {w : World} {g : Nat} {t : TypeId} {a b c d e f x y z : Value} (h : Blk w g t #[a, b, c, d, e, f, x, y, z]) : w.cell? ⟨g, 0, none⟩ = some a ∧ w.cell? ⟨g, 1, none⟩ = some b ∧ w.cell? ⟨g, 2, none⟩ = some c ∧ w.cell? ⟨g, 3, none⟩ = some d ∧ w.cell? ⟨g, 4, none⟩ = some e ∧ w.cell? ⟨g, 5, none⟩ = some f ∧ w.cell? ⟨g, 6, none⟩ = some x ∧ w.cell? ⟨g, 7, none⟩ = some y ∧ w.cell? ⟨g, 8, none⟩ = some z :=
  ⟨h.cell 0, h.cell 1, h.cell 2, h.cell 3, h.cell 4, h.cell 5, h.cell 6, h.cell 7, h.cell 8⟩
theorem below_set5 {w wr : World} {g : Nat} {a b c d e : Value} (hb : Below w.heap.size w wr) (hg : w.heap.size ≤ g) :
    Below w.heap.size w (((((wr.setCell ⟨g, 0, none⟩ a).setCell ⟨g, 1, none⟩ b).setCell ⟨g, 2, none⟩ c).setCell ⟨g, 3, none⟩ d).setCell ⟨g, 4, none⟩ e) :=
  ((((hb.setCell hg _).setCell hg _).setCell hg _).setCell hg _).setCell hg _

set_option maxHeartbeats 2000000 in
set_option maxRecDepth 100000 in
theorem iface_any (b o : Nat) (lan : Int) (va : Option Addr) (vcap : Nat) (vs : List Viw) (w : World) (B : Nat) (hb : b < w.heap.size) (hc : w.cell? ⟨b, o + 1, none⟩ = some (.slice va vs.length vcap)) (hl : ViewsAt w B va vs) (hB : B ≤ w.heap.size) (hlen : vs.length ≤ maxLen) :
    Calls Tryz.prog 136 #[.pointer (some ⟨b, o, none⟩), .int .i64 lan] w fun r w' => r = .returned (.tuple #[.agg #[.int .i64 (ifaceOf vs lan).1.self, .int .i64 (ifaceOf vs lan).1.prio, .int .i64 (ifaceOf vs lan).1.state, .int .i64 (ifaceOf vs lan).1.dr, .int .i64 (ifaceOf vs lan).1.bdr], .bool (ifaceOf vs lan).2]) ∧ Below w.heap.size w w' := by
  unfold maxLen at hlen
  have Hl := Lib.hid (hl.more hB)
  have hca : ∀ ob, (w.alloc ob).cell? ⟨b, o + 1, none⟩ = some (.slice va vs.length vcap) := fun ob => (World.cell?_alloc_lt w ob ⟨b, o + 1, none⟩ hb).trans hc
  clear hl hB hc
  go_enter Tryz.func136, Tryz.ntmps136
  go_wp2
  go_loopw [13] (fun i wr => ∃ k : Nat, k ≤ vs.length ∧ i = .int .i64 k ∧ (vs.take k).find? (onV lan) = none ∧ Blk wr w.heap.size 76 #[.int .i64 0, .int .i64 0, .int .i64 0, .int .i64 0, .int .i64 0] ∧ Below w.heap.size w wr) (fun i _ => vs.length - (intOf i).toNat)
  case atStart => exact ⟨0, Nat.zero_le _, rfl, by simp, Blk.new _ _ _, (Below.refl _ _).alloc (Nat.le_refl _) _⟩
  case round =>
    obtain ⟨k, hk, rfl, hno, hz, hbe⟩ := hrel
    clear hca
    by_cases hlt : k < vs.length
    · obtain ⟨b', o', rfl, -, -, e0, e1, e2, e3, e4, e5, e6, e7, e8⟩ := (Hl.out.below hbe).at_ k hlt
      have hsucc := find_take_succ (onV lan) vs k hlt hno
      have hhit := iface_hit (lan := lan) hlt hno
      generalize vs[k] = v at *
      rcases v with ⟨vlan, cost, self, prio, state, dr, bdr, pa, pcap, peers, wa, wcap, wants⟩
      have hkl : (k : Int) < (vs.length : Int) := by omega
      obtain ⟨wq, hWq, hzq, hvq, hbq⟩ : ∃ wq, wr.alloc (.cells #[.int .i64 vlan, .int .i64 cost, .int .i64 self, .int .i64 prio, .int .i64 state, .int .i64 dr, .int .i64 bdr, .slice pa peers.length pcap, .slice wa wants.length wcap] 82) = wq ∧
          Blk wq w.heap.size 76 #[.int .i64 0, .int .i64 0, .int .i64 0, .int .i64 0, .int .i64 0] ∧ Blk wq wr.heap.size 82 #[.int .i64 vlan, .int .i64 cost, .int .i64 self, .int .i64 prio, .int .i64 state, .int .i64 dr, .int .i64 bdr, .slice pa peers.length pcap, .slice wa wants.length wcap] ∧ Below w.heap.size w wq :=
        ⟨_, rfl, hz.alloc _, Blk.new _ _ _, hbe.alloc hbe.size _⟩
      obtain ⟨x0, x1, x2, x3, x4, x5, x6, x7, x8⟩ := Blk.cells9a hvq
      have Hvq := Lib.hid hvq
      have Hgg := Lib.hid (show w.heap.size < wr.heap.size from hz.lt)
      have Hzq := Lib.hid hzq
      have Hbq := Lib.hid hbq
      have Hsucc := Lib.hid hsucc
      have Hhit := Lib.hid hhit
      clear hz hbe hno hsucc hhit hzq hbq hvq
      rcases onV_cases lan ⟨vlan, cost, self, prio, state, dr, bdr, pa, pcap, peers, wa, wcap, wants⟩ with ⟨t1, hv⟩ | ⟨t1, t2, hv⟩ | ⟨t1, t2, t3, hv⟩ | ⟨t1, t2, t3, hv⟩
      · have Hv := Lib.hid hv
        clear hv
        go_wp2
        go_roundw
        case measure => simp [intOf]; omega
        case rel => exact ⟨k + 1, hlt, by go_num, Hsucc.out Hv.out, Hzq.out, Hbq.out⟩
      · have Hv := Lib.hid hv
        clear hv
        go_wp2
        go_roundw
        case measure => simp [intOf]; omega
        case rel => exact ⟨k + 1, hlt, by go_num, Hsucc.out Hv.out, Hzq.out, Hbq.out⟩
      · have Hv := Lib.hid hv
        clear hv
        go_wp2
        go_roundw
        case measure => simp [intOf]; omega
        case rel => exact ⟨k + 1, hlt, by go_num, Hsucc.out Hv.out, Hzq.out, Hbq.out⟩
      · have hh := Hhit.out hv
        have Hh := Lib.hid hh
        clear hv hh
        go_wp2_with fail
        refine wp_region_held (S := fun W => Blk W wr.heap.size 82 #[.int .i64 vlan, .int .i64 cost, .int .i64 self, .int .i64 prio, .int .i64 state, .int .i64 dr, .int .i64 bdr, .slice pa peers.length pcap, .slice wa wants.length wcap]) (by kernel_rfl) ?_
        obtain ⟨wd, hwd⟩ : ∃ wd : World, ({ wq with drawn := wq.drawn + 1 } : World) = wd := ⟨_, rfl⟩
        rw [hwd]
        have hbwd : Below wq.heap.size wq wd := by rw [← hwd]; exact (Below.refl _ _).drew
        have hS : Blk wd wr.heap.size 82 #[.int .i64 vlan, .int .i64 cost, .int .i64 self, .int .i64 prio, .int .i64 state, .int .i64 dr, .int .i64 bdr, .slice pa peers.length pcap, .slice wa wants.length wcap] := Hvq.out.below hbwd Hvq.out.lt
        have hzd : Blk wd w.heap.size 76 #[.int .i64 0, .int .i64 0, .int .i64 0, .int .i64 0, .int .i64 0] := Hzq.out.below hbwd Hzq.out.lt
        have hbd : Below w.heap.size w wd := Hbq.out.trans (hbwd.mono Hbq.out.size)
        clear hwd x0 x1 x2 x3 x4 x5 x6 x7 x8
        have hS5 := hS
        refine wpAnyH_take (i := 0) rfl (by kernel_rfl) (by kernel_rfl) (by kernel_rfl) (fun _ _ _ h => h) (Or.inl ⟨rfl, fun W hW => by (obtain ⟨c0, c1, c2, c3, c4, c5, c6, c7, c8⟩ := Blk.cells9a (show Blk W wr.heap.size 82 #[.int .i64 vlan, .int .i64 cost, .int .i64 self, .int .i64 prio, .int .i64 state, .int .i64 dr, .int .i64 bdr, .slice pa peers.length pcap, .slice wa wants.length wcap] from hW)); go_simp; try with_reducible rfl⟩) hS ?_
        refine wpAnyH_take (i := 1) rfl (by kernel_rfl) (by kernel_rfl) (by kernel_rfl) (fun _ _ _ h => h) (Or.inl ⟨rfl, fun W hW => by (obtain ⟨c0, c1, c2, c3, c4, c5, c6, c7, c8⟩ := Blk.cells9a (show Blk W wr.heap.size 82 #[.int .i64 vlan, .int .i64 cost, .int .i64 self, .int .i64 prio, .int .i64 state, .int .i64 dr, .int .i64 bdr, .slice pa peers.length pcap, .slice wa wants.length wcap] from hW)); go_simp; try with_reducible rfl⟩) hS ?_
        refine wpAnyH_take (i := 2) rfl (by kernel_rfl) (by kernel_rfl) (by kernel_rfl) (fun _ _ _ h => h) (Or.inl ⟨rfl, fun W hW => by (obtain ⟨c0, c1, c2, c3, c4, c5, c6, c7, c8⟩ := Blk.cells9a (show Blk W wr.heap.size 82 #[.int .i64 vlan, .int .i64 cost, .int .i64 self, .int .i64 prio, .int .i64 state, .int .i64 dr, .int .i64 bdr, .slice pa peers.length pcap, .slice wa wants.length wcap] from hW)); go_simp; try with_reducible rfl⟩) hS ?_
        refine wpAnyH_take (i := 3) rfl (by kernel_rfl) (by kernel_rfl) (by kernel_rfl) (fun _ _ _ h => h) (Or.inl ⟨rfl, fun W hW => by (obtain ⟨c0, c1, c2, c3, c4, c5, c6, c7, c8⟩ := Blk.cells9a (show Blk W wr.heap.size 82 #[.int .i64 vlan, .int .i64 cost, .int .i64 self, .int .i64 prio, .int .i64 state, .int .i64 dr, .int .i64 bdr, .slice pa peers.length pcap, .slice wa wants.length wcap] from hW)); go_simp; try with_reducible rfl⟩) hS ?_
        refine wpAnyH_take (i := 4) rfl (by kernel_rfl) (by kernel_rfl) (by kernel_rfl) (fun _ _ _ h => h) (Or.inl ⟨rfl, fun W hW => by (obtain ⟨c0, c1, c2, c3, c4, c5, c6, c7, c8⟩ := Blk.cells9a (show Blk W wr.heap.size 82 #[.int .i64 vlan, .int .i64 cost, .int .i64 self, .int .i64 prio, .int .i64 state, .int .i64 dr, .int .i64 bdr, .slice pa peers.length pcap, .slice wa wants.length wcap] from hW)); go_simp; try with_reducible rfl⟩) hS ?_
        refine wpAnyH_take (i := 5) rfl (by kernel_rfl) (by kernel_rfl) (by kernel_rfl) (fun _ _ _ h => h) (Or.inl ⟨rfl, fun W hW => by (obtain ⟨c0, c1, c2, c3, c4, c5, c6, c7, c8⟩ := Blk.cells9a (show Blk W wr.heap.size 82 #[.int .i64 vlan, .int .i64 cost, .int .i64 self, .int .i64 prio, .int .i64 state, .int .i64 dr, .int .i64 bdr, .slice pa peers.length pcap, .slice wa wants.length wcap] from hW)); go_simp; try with_reducible rfl⟩) hS ?_
        obtain ⟨z0, z1, z2, z3, z4, y0, y1, y2, y3, y4⟩ := Blk.cells5 hzd
        have hz5 := Blk.set5 (a' := .int .i64 self) (b' := .int .i64 prio) (c' := .int .i64 state) (d' := .int .i64 dr) (e' := .int .i64 bdr) hzd
        have hb5 := below_set5 (a := .int .i64 self) (b := .int .i64 prio) (c := .int .i64 state) (d := .int .i64 dr) (e := .int .i64 bdr) hbd (Nat.le_refl _)
        obtain ⟨o0, o1, o2, o3, o4, -⟩ := Blk.cells5 hz5
        have Hb5 := Lib.hid hb5
        refine wpAnyH_all (rs := [6]) (by kernel_rfl) (by simp) fun i0 hi0 => ?_
        obtain rfl := List.mem_singleton.1 hi0
        refine wpOp_skip (i := 6) (w' := ((((wd.setCell ⟨w.heap.size, 0, none⟩ (.int .i64 self)).setCell ⟨w.heap.size, 1, none⟩ (.int .i64 prio)).setCell ⟨w.heap.size, 2, none⟩ (.int .i64 state)).setCell ⟨w.heap.size, 3, none⟩ (.int .i64 dr)).setCell ⟨w.heap.size, 4, none⟩ (.int .i64 bdr)) rfl rfl (by go_simp; try with_reducible rfl) ?_
        have hS6 := Blk.far5 (a := .int .i64 self) (b := .int .i64 prio) (c := .int .i64 state) (d := .int .i64 dr) (e := .int .i64 bdr) hS (Nat.ne_of_gt Hgg.out)
        refine ⟨hS6, ?_⟩
        refine wpAnyH_take (i := 7) rfl (by kernel_rfl) (by kernel_rfl) (by kernel_rfl) (fun _ _ _ h => h) (Or.inl ⟨rfl, fun W hW => by (obtain ⟨c0, c1, c2, c3, c4, c5, c6, c7, c8⟩ := Blk.cells9a (show Blk W wr.heap.size 82 #[.int .i64 vlan, .int .i64 cost, .int .i64 self, .int .i64 prio, .int .i64 state, .int .i64 dr, .int .i64 bdr, .slice pa peers.length pcap, .slice wa wants.length wcap] from hW)); go_simp; try with_reducible rfl⟩) hS6 ?_
        refine wpAnyH_done (by kernel_rfl) ?_ _
        clear hzd hbd hz5 hb5 hS hS5 hS6 hbwd
        go_simp
        go_wp2
        refine bodyPost_ret (v := .tuple #[.agg #[.int .i64 self, .int .i64 prio, .int .i64 state, .int .i64 dr, .int .i64 bdr], .bool (state != 0)]) (by simp [results, Tryz.results136, go_sem, o0, o1, o2, o3, o4]) rfl ⟨?_, ?_⟩
        · rw [Hh.out]; rfl
        · exact Hb5.out
    · have hkk : k = vs.length := by omega
      subst hkk
      rw [List.take_length] at hno
      have hm := iface_miss hno
      obtain ⟨z0, z1, z2, z3, z4, y0, y1, y2, y3, y4⟩ := Blk.cells5 hz
      obtain ⟨o0, o1, o2, o3, o4, -⟩ := Blk.cells5 (Blk.set5 (a' := .int .i64 0) (b' := .int .i64 0) (c' := .int .i64 0) (d' := .int .i64 0) (e' := .int .i64 0) hz)
      have Hb := Lib.hid hbe
      have Hm := Lib.hid hm
      clear hz hbe hno hm
      go_wp2
      refine bodyPost_ret (v := .tuple #[.agg #[.int .i64 0, .int .i64 0, .int .i64 0, .int .i64 0, .int .i64 0], .bool false]) (by simp [results, Tryz.results136, go_sem, o0, o1, o2, o3, o4]) rfl ⟨?_, ?_⟩
      · rw [Hm.out]
      · exact below_set5 Hb.out (Nat.le_refl _)

end Go.Proofs.YtpnbibokddhheaaGreat

/-
  Layer 27: the table of those that count (audit.counted).
-/
namespace Go.Proofs.YtpnbibokddhheaaGreat
open Go.RowKit

def entryV (A : Option Addr) (i : Nat) : Value := .pointer (A.map fun a => ⟨a.block, a.off + i * 4, none⟩)
def tblV (A : Option Addr) (l : List Stt) (id : Nat) : Value := match tblI l id with
  | some i => entryV A i
  | none => .pointer none
def tblC (A : Option Addr) (l : List Stt) : Array Value := ((List.range 16).map (tblV A l)).toArray
theorem tblC_get (A : Option Addr) (l : List Stt) (id : Nat) (h : id < 16) : (tblC A l)[id]? = some (tblV A l id) := by
  simp [tblC, h]
theorem tblC_keep {A : Option Addr} {l m : List Stt} (h : ∀ id, id < 16 → tblI m id = tblI l id) : tblC A m = tblC A l := by
  unfold tblC
  congr 1
  refine List.map_congr_left fun id hid => ?_
  unfold tblV
  rw [h id (List.mem_range.1 hid)]
theorem tblC_put {A : Option Addr} {l m : List Stt} {n i : Nat} (_hn : n < 16) (h : tblI m n = some i) (ho : ∀ id, id < 16 → id ≠ n → tblI m id = tblI l id) : (tblC A l).setIfInBounds n (entryV A i) = tblC A m := by
  apply Array.ext_getElem?
  intro j
  by_cases hj : j < 16
  · rw [tblC_get A m j hj]
    by_cases hjn : n = j
    · subst hjn
      rw [Array.getElem?_setIfInBounds_self_of_lt (by simp [tblC]; omega)]
      simp [tblV, h]
    · rw [Array.getElem?_setIfInBounds_ne hjn, tblC_get A l j hj]
      unfold tblV
      rw [ho j hj (fun e => hjn e.symm)]
  · rw [Array.getElem?_eq_none (by simp [tblC]; omega), Array.getElem?_eq_none (by simp [tblC]; omega)]
theorem tblI_nil (id : Nat) : tblI [] id = none := by unfold tblI; split <;> rfl
theorem tblC_nil (A : Option Addr) : tblC A [] = #[.pointer none, .pointer none, .pointer none, .pointer none, .pointer none, .pointer none, .pointer none, .pointer none, .pointer none, .pointer none, .pointer none, .pointer none, .pointer none, .pointer none, .pointer none, .pointer none] := by
  unfold tblC tblV
  simp only [tblI_nil]
  rfl
theorem States.at_ {w : World} {B : Nat} {A : Option Addr} {l : List Stt} (h : RowsAt 4 Stt.cells w B A l) (k : Nat) (hk : k < l.length) : ∃ b o, A = some ⟨b, o, none⟩ ∧ b < B ∧
    w.cell? ⟨b, o + k * 4, none⟩ = some (.int .i64 l[k].id) ∧ w.cell? ⟨b, o + k * 4 + 1, none⟩ = some (.slice l[k].va l[k].views.length l[k].vcap) ∧ w.cell? ⟨b, o + k * 4 + 2, none⟩ = some (.slice l[k].la l[k].lsas.length l[k].lcap) ∧ w.cell? ⟨b, o + k * 4 + 3, none⟩ = some (.slice l[k].ra l[k].rn l[k].rcap) := by
  obtain ⟨b, o, e, hb, hc⟩ := RowsAt.at_ h k hk
  exact ⟨b, o, e, hb, hc 0 _ (by omega) rfl, hc 1 _ (by omega) rfl, hc 2 _ (by omega) rfl, hc 3 _ (by omega) rfl⟩
/-- what one more state does to the table -/
theorem tbl_step (A : Option Addr) (l : List Stt) (k : Nat) (hk : k < l.length) :
    (l[k].id < 1 ∧ tblC A (l.take (k + 1)) = tblC A (l.take k)) ∨ (1 ≤ l[k].id ∧ 15 < l[k].id ∧ tblC A (l.take (k + 1)) = tblC A (l.take k)) ∨
    (∃ n : Nat, 1 ≤ n ∧ n ≤ 15 ∧ l[k].id = (n : Int) ∧ ((∃ i, tblI (l.take k) n = some i ∧ tblC A (l.take (k + 1)) = tblC A (l.take k)) ∨ (tblI (l.take k) n = none ∧ tblC A (l.take (k + 1)) = (tblC A (l.take k)).setIfInBounds n (entryV A k)))) := by
  have hs := tblI_succ hk
  by_cases h1 : l[k].id < 1
  · refine .inl ⟨h1, tblC_keep fun id _ => ?_⟩
    rw [hs id, if_neg (by omega), Option.or_none]
  · by_cases h2 : 15 < l[k].id
    · refine .inr (.inl ⟨by omega, h2, tblC_keep fun id _ => ?_⟩)
      rw [hs id, if_neg (by omega), Option.or_none]
    · refine .inr (.inr ⟨l[k].id.toNat, by omega, by omega, by omega, ?_⟩)
      have he : l[k].id = (l[k].id.toNat : Int) := by omega
      generalize l[k].id.toNat = n at *
      rcases hi : tblI (l.take k) n with _ | i
      · refine .inr ⟨rfl, (tblC_put (by omega) (by rw [hs n, hi, if_pos ⟨by omega, by omega, he⟩]; rfl) fun id _ hne => ?_).symm⟩
        rw [hs id, if_neg (fun h => hne (by omega)), Option.or_none]
      · refine .inl ⟨i, rfl, tblC_keep fun id _ => ?_⟩
        by_cases hid : id = n
        · subst hid; rw [hs id, hi]; rfl
        · rw [hs id, if_neg (fun h => hid (by omega)), Option.or_none]

set_option maxHeartbeats 2000000 in
set_option maxRecDepth 100000 in
theorem counted_any (A : Option Addr) (cap : Nat) (l : List Stt) (w : World) (B : Nat) (hl : RowsAt 4 Stt.cells w B A l) (hB : B ≤ w.heap.size) (hlen : l.length ≤ maxLen) :
    Calls Tryz.prog 33 #[.slice A l.length cap] w fun r w' => r = .returned (.pointer (some ⟨w.heap.size, 0, none⟩)) ∧ Blk w' w.heap.size 168 (tblC A l) ∧ Below w.heap.size w w' := by
  unfold maxLen at hlen
  have Hl := Lib.hid (hl.more hB)
  have hnil := tblC_nil A
  have Hnil := Lib.hid hnil
  clear hl hB hnil
  go_enter Tryz.func33, Tryz.ntmps33
  go_wp2
  go_loopw [8] (fun i wr => ∃ k : Nat, k ≤ l.length ∧ i = .int .i64 k ∧ Blk wr w.heap.size 168 (tblC A (l.take k)) ∧ Below w.heap.size w wr) (fun i _ => l.length - (intOf i).toNat)
  case atStart => exact ⟨0, Nat.zero_le _, rfl, by rw [List.take_zero, Hnil.out]; exact Blk.new _ _ _, (Below.refl _ _).alloc (Nat.le_refl _) _⟩
  case round =>
    obtain ⟨k, hk, rfl, hT, hb⟩ := hrel
    by_cases hlt : k < l.length
    · obtain ⟨b, o, rfl, -, e0, -, -, -⟩ := States.at_ (Hl.out.below hb) k hlt
      have hst := tbl_step (some ⟨b, o, none⟩) l k hlt
      have hkl : (k : Int) < (l.length : Int) := by omega
      generalize l[k].id = id at *
      have HT := Lib.hid hT
      have Hb := Lib.hid hb
      clear hT hb
      rcases hst with ⟨h1, e⟩ | ⟨h1, h2, e⟩ | ⟨n, h1, h2, rfl, ⟨i, hi, e⟩ | ⟨hi, e⟩⟩
      · have E := Lib.hid e
        clear e
        go_wp2
        go_roundw
        case measure => simp [intOf]; omega
        case rel => exact ⟨k + 1, hlt, by go_num, by rw [E.out]; exact HT.out, Hb.out⟩
      · have E := Lib.hid e
        clear e
        go_wp2
        go_roundw
        case measure => simp [intOf]; omega
        case rel => exact ⟨k + 1, hlt, by go_num, by rw [E.out]; exact HT.out, Hb.out⟩
      · have E := Lib.hid e
        have x0 : wr.cell? ⟨w.heap.size, n, none⟩ = some (.pointer (some ⟨b, o + i * 4, none⟩)) := by
          rw [HT.out.cell n, tblC_get _ _ n (by omega)]; unfold tblV; rw [hi]; rfl
        have h1' : (1 : Int) ≤ (n : Int) := by omega
        have h2' : (n : Int) ≤ 15 := by omega
        clear e hi
        go_wp2
        go_roundw
        case measure => simp [intOf]; omega
        case rel => exact ⟨k + 1, hlt, by go_num, by rw [E.out]; exact HT.out, Hb.out⟩
      · have E := Lib.hid e
        have x0 : wr.cell? ⟨w.heap.size, n, none⟩ = some (.pointer none) := by
          rw [HT.out.cell n, tblC_get _ _ n (by omega)]; unfold tblV; rw [hi]
        have f0 : wr.frozen? ⟨w.heap.size, n, none⟩ = false := HT.out.frozen n
        have h1' : (1 : Int) ≤ (n : Int) := by omega
        have h2' : (n : Int) ≤ 15 := by omega
        clear e hi
        go_wp2
        go_roundw
        case measure => simp [intOf]; omega
        case rel => exact ⟨k + 1, hlt, by go_num, by rw [E.out]; exact HT.out.set_ n _, Hb.out.setCell (Nat.le_refl _) _⟩
    · have hkk : k = l.length := by omega
      subst hkk
      rw [List.take_length] at hT
      have HT := Lib.hid hT
      have Hb := Lib.hid hb
      clear hT hb
      go_wp2
      go_ret
      exact ⟨rfl, HT.out, Hb.out⟩

end Go.Proofs.YtpnbibokddhheaaGreat

/-
  Maps by what is in them: entries of keys and values, in the order in which they were laid in, whatever the key's type.
-/
namespace Go.Proofs.YtpnbibokddhheaaGreat
open Go.RowKit Go.MapKept
open Go.ChangeMaps (setBlock)

def entL {κ : Type} (enc : κ → Value) (L : List (κ × Value)) : List (Value × Value) := L.map fun e => (enc e.1, e.2)
def entE (l : List MapEntry) : List (Value × Value) := l.map fun x => (x.key, x.val)

section
variable {κ : Type} {P : Program} {kt et mt : TypeId} {enc : κ → Value} {w w' : World} {b r : Nat} {L rest : List (κ × Value)}

/-- Block b of w is a map of just these entries. -/
def MapAt (enc : κ → Value) (w : World) (b : Nat) (L : List (κ × Value)) : Prop :=
  ∃ es clock, w.heap[b]? = some (.map es clock) ∧ entE es.toList = entL enc L ∧ (∀ x ∈ es.toList, x.born < clock) ∧ (es.toList.map (·.born)).Nodup ∧ (L.map (·.1)).Nodup
/-- Block r of w ranges over the map in block b: what is in the map, and which of it is still to come. -/
def RangeAt (enc : κ → Value) (w : World) (b r : Nat) (L rest : List (κ × Value)) : Prop :=
  ∃ es clock since seen c0, w.heap[b]? = some (.map es clock) ∧ entE es.toList = entL enc L ∧ (∀ x ∈ es.toList, x.born < clock) ∧ (es.toList.map (·.born)).Nodup ∧ (L.map (·.1)).Nodup ∧
    w.heap[r]? = some (.mapIter (some b) since seen c0) ∧ (∀ x ∈ es.toList, x.born < since) ∧ since ≤ c0 ∧ since ≤ clock ∧ entE (leftOf es seen).toList = entL enc rest

theorem MapAt.nodup (h : MapAt enc w b L) : (L.map (·.1)).Nodup := by obtain ⟨_, _, _, _, _, _, h⟩ := h; exact h
theorem MapAt.lt (h : MapAt enc w b L) : b < w.heap.size := by
  obtain ⟨_, _, h, _⟩ := h
  exact (Array.getElem?_eq_some_iff.1 h).1
theorem MapAt.same (h : MapAt enc w b L) (he : w'.heap[b]? = w.heap[b]?) : MapAt enc w' b L := by
  obtain ⟨es, clock, h, rest⟩ := h
  exact ⟨es, clock, he.trans h, rest⟩
theorem MapAt.below {B : Nat} (h : MapAt enc w b L) (hb : Below B w w') (hB : b < B) : MapAt enc w' b L := h.same (hb.block b hB)
theorem MapAt.grown {row : Option Nat} (h : MapAt enc w b L) (hg : w.grownBy w' row) (hne : some b ≠ row) : MapAt enc w' b L := h.same (hg.block b h.lt hne)
theorem MapAt.alloc (h : MapAt enc w b L) (o : Obj) : MapAt enc (w.alloc o) b L := h.same (Below.heap_alloc w o b h.lt)
theorem MapAt.drew (h : MapAt enc w b L) : MapAt enc w.drew b L := h
theorem MapAt.drewN (h : MapAt enc w b L) (n : Nat) : MapAt enc (w.drewN n) b L := h
theorem MapAt.set_ (h : MapAt enc w b L) {p : Addr} (hp : b ≠ p.block) (u : Value) : MapAt enc (w.setCell p u) b L := h.same (Below.heap_setCell w p u b hp)
theorem MapAt.new (w : World) : MapAt enc (w.alloc (.map #[] 0)) w.heap.size [] := ⟨#[], 0, heap_alloc_new w _, rfl, by simp, by simp, by simp⟩

theorem MapAt.len_run (h : MapAt enc w b L) (ht : P.underlying mt = some (.map kt et)) (ty : TypeId) : (Builtin.len_ #[mt] ty #[.map (some b)]).run P w = .ok (.int .i64 L.length) w := by
  obtain ⟨es, clock, hb, hm, -⟩ := h
  have hlen : es.size = L.length := by simpa [entE, entL] using congrArg List.length hm
  simp [Builtin.len_, run_underlying ht, MapKept.run_getObj_map hb, Result.andThen, hlen, goInt]

theorem setBlock_grown (_hb : b < w.heap.size) (o : Obj) : w.grownBy (setBlock w b o) (some b) :=
  ⟨rfl, rfl, rfl, by simp [setBlock], fun i _ hne => by
    have : b ≠ i := fun e => hne (by rw [e])
    simp [setBlock, this]⟩
theorem setBlock_size (o : Obj) : (setBlock w b o).heap.size = w.heap.size := by simp [setBlock]
theorem RangeAt.map (h : RangeAt enc w b r L rest) : MapAt enc w b L := by
  obtain ⟨es, clock, _, _, _, h1, h2, h3, h4, h5, _⟩ := h
  exact ⟨es, clock, h1, h2, h3, h4, h5⟩
theorem RangeAt.left_eq (h : RangeAt enc w b r L rest) : w.rangeLeft b r = rest.length := by
  obtain ⟨es, clock, since, seen, c0, hb, _, _, _, _, hr, _, _, _, hl⟩ := h
  have := congrArg List.length hl
  simp only [World.rangeLeft, hb, hr]
  simpa [entE, entL] using this
theorem RangeAt.ne (h : RangeAt enc w b r L rest) : r ≠ b := by
  obtain ⟨es, clock, since, seen, c0, hb, _, _, _, _, hr, _⟩ := h
  intro e
  rw [e, hb] at hr
  cases hr
theorem RangeAt.lt (h : RangeAt enc w b r L rest) : r < w.heap.size := by
  obtain ⟨es, clock, since, seen, c0, hb, _, _, _, _, hr, _⟩ := h
  exact (Array.getElem?_eq_some_iff.1 hr).1
theorem RangeAt.same (h : RangeAt enc w b r L rest) (hb' : w'.heap[b]? = w.heap[b]?) (hr' : w'.heap[r]? = w.heap[r]?) : RangeAt enc w' b r L rest := by
  obtain ⟨es, clock, since, seen, c0, hb, x1, x2, x3, x4, hr, rest⟩ := h
  exact ⟨es, clock, since, seen, c0, hb'.trans hb, x1, x2, x3, x4, hr'.trans hr, rest⟩
theorem RangeAt.grown {row : Option Nat} (h : RangeAt enc w b r L rest) (hg : w.grownBy w' row) (hb' : some b ≠ row) (hr' : some r ≠ row) : RangeAt enc w' b r L rest :=
  h.same (hg.block b h.map.lt hb') (hg.block r h.lt hr')
theorem RangeAt.below {B : Nat} (h : RangeAt enc w b r L rest) (hg : Below B w w') (hb' : b < B) (hr' : r < B) : RangeAt enc w' b r L rest := h.same (hg.block b hb') (hg.block r hr')
theorem RangeAt.alloc (h : RangeAt enc w b r L rest) (o : Obj) : RangeAt enc (w.alloc o) b r L rest := h.same (Below.heap_alloc w o b h.map.lt) (Below.heap_alloc w o r h.lt)

theorem MapAt.range_run (h : MapAt enc w b L) (ht : P.underlying mt = some (.map kt et)) :
    ∃ w', (Instr.range mt (.map (some b))).run P w = .ok (.pointer (some ⟨w.heap.size, 0, none⟩)) w' ∧ RangeAt enc w' b w.heap.size L L ∧ Below w.heap.size w w' ∧ w'.heap.size = w.heap.size + 1 := by
  have hlt := h.lt
  obtain ⟨es, clock, hb, hm, h1, h2, h3⟩ := h
  refine ⟨_, run_range_map w mt kt et b es clock ht hb, ⟨es, clock, clock, #[], clock, (Below.heap_alloc w _ b hlt).trans hb, hm, h1, h2, h3, heap_alloc_new w _, h1, Nat.le_refl _, Nat.le_refl _, ?_⟩, (Below.refl _ _).alloc (Nat.le_refl _) _, by simp⟩
  rw [← hm]
  have : leftOf es #[] = es := by unfold leftOf; exact Array.filter_eq_self.2 (by simp)
  rw [this]
theorem entL_split {l1 l2 : List MapEntry} {x : MapEntry} (_hi : ∀ a b, enc a = enc b → a = b) (h : entE (l1 ++ x :: l2) = entL enc rest) :
    ∃ pre e post, rest = pre ++ e :: post ∧ entE l1 = entL enc pre ∧ entE l2 = entL enc post ∧ x.key = enc e.1 ∧ x.val = e.2 := by
  simp only [entE, entL, List.map_append, List.map_cons] at h
  obtain ⟨pre, q, rfl, h1, h2⟩ := List.map_eq_append_iff.1 h.symm
  obtain ⟨e, post, rfl, h3, h4⟩ := List.map_eq_cons_iff.1 h2
  simp only [Prod.mk.injEq] at h3
  exact ⟨pre, e, post, rfl, h1.symm, h4.symm, h3.1.symm, h3.2.symm⟩
theorem RangeAt.next_run (h : RangeAt enc w b r L rest) (hi : ∀ a b, enc a = enc b → a = b) (ty : TypeId) :
    (rest = [] ∧ (Instr.next (.pointer (some ⟨r, 0, none⟩)) false ty).run P w = .ok (.tuple #[.bool false]) w) ∨
    ∃ pre e post w', rest = pre ++ e :: post ∧ (Instr.next (.pointer (some ⟨r, 0, none⟩)) false ty).run P w = .ok (.tuple #[.bool true, enc e.1, e.2]) w' ∧ RangeAt enc w' b r L (pre ++ post) ∧ w.grownBy w' (some r) ∧ w'.heap.size = w.heap.size ∧
      (Instr.entry (.pointer (some ⟨r, 0, none⟩))).run P w' = .ok (.tuple #[enc e.1, e.2]) w' := by
  have hne := h.ne
  obtain ⟨es, clock, since, seen, c0, hb, hm, h1, h2, h3, hr, hold, hsc, hsk, hl⟩ := h
  rcases run_next_at (P := P) w ty r b since c0 seen es clock hr hb hold hsc with ⟨h0, hrun⟩ | ⟨x, he, w1, hal, hrun⟩
  · refine Or.inl ⟨?_, hrun⟩
    have : (leftOf es seen).toList = [] := by rw [Array.eq_empty_of_size_eq_zero h0]
    rw [this] at hl
    simpa [entE, entL] using hl.symm
  · obtain ⟨hem, hes⟩ := mem_left he
    obtain ⟨l1, l2, hll⟩ := List.append_of_mem he
    rw [hll] at hl
    obtain ⟨pre, e, post, rfl, e1, e2, e3, e4⟩ := entL_split hi hl
    have hr1 : w1.heap[r]? = some (.mapIter (some b) since seen c0) := by rcases hal with rfl | rfl <;> exact hr
    have hb1 : w1.heap[b]? = some (.map es clock) := by rcases hal with rfl | rfl <;> exact hb
    have hset := heap_set (o' := .mapIter (some b) since (seen.push x.born) clock) hr1
    have hb' : (setBlock w1 r (.mapIter (some b) since (seen.push x.born) clock)).heap[b]? = some (.map es clock) := (hset.2 b (fun e1 => hne e1.symm)).trans hb1
    have hborn : ((leftOf es seen).toList.map (·.born)).Nodup := h2.sublist (List.Sublist.map _ (by unfold leftOf; rw [Array.toList_filter]; exact List.filter_sublist))
    have hleft : (leftOf es (seen.push x.born)).toList = l1 ++ l2 := by
      have : (leftOf es (seen.push x.born)).toList = (leftOf es seen).toList.filter fun y => !(y.born == x.born) := by
        unfold leftOf
        rw [Array.toList_filter, Array.toList_filter, List.filter_filter]
        refine List.filter_congr fun y _ => ?_
        rw [contains_push]
        cases seen.contains y.born <;> cases (y.born == x.born) <;> rfl
      rw [this, hll]
      rw [hll, List.map_append, List.map_cons] at hborn
      have hb2 := List.nodup_append.1 hborn
      have hb3 := List.nodup_cons.1 hb2.2.1
      rw [List.filter_append, List.filter_cons]
      simp only [beq_self_eq_true, Bool.not_true, Bool.false_eq_true, if_false]
      congr 1
      · refine List.filter_eq_self.2 fun y hy => ?_
        have := hb2.2.2 y.born (List.mem_map.2 ⟨y, hy, rfl⟩) x.born (by simp)
        simpa using this
      · refine List.filter_eq_self.2 fun y hy => ?_
        have : y.born ≠ x.born := fun e => hb3.1 (by rw [← e]; exact List.mem_map.2 ⟨y, hy, rfl⟩)
        simpa using this
    refine Or.inr ⟨pre, e, post, _, rfl, by rw [← e3, ← e4]; exact hrun, ⟨es, clock, since, seen.push x.born, clock, hb', hm, h1, h2, h3, hset.1, hold, hsk, hsk, ?_⟩, ?_, ?_, by rw [← e3, ← e4]; exact run_entry_at _ r b since seen es clock x hset.1 hb' hem h2⟩
    · rw [hleft]
      simp only [entE, entL, List.map_append] at e1 e2 ⊢
      rw [e1, e2]
    · rcases hal with rfl | rfl <;> exact ⟨rfl, rfl, rfl, by simp [setBlock], fun i _ hi => hset.2 i (fun e1 => hi (by rw [e1]))⟩
    · rcases hal with rfl | rfl <;> simp [setBlock]
end

section
variable {κ : Type} [DecidableEq κ]

def look (k : κ) : List (κ × Value) → Nat → Option (Nat × Value)
  | [], _ => none
  | e :: L, i => if e.1 = k then some (i, e.2) else look k L (i + 1)
def getL (k : κ) : List (κ × Value) → Option Value
  | [] => none
  | e :: L => if e.1 = k then some e.2 else getL k L
def setL (k : κ) (v : Value) : List (κ × Value) → List (κ × Value)
  | [] => [(k, v)]
  | e :: L => if e.1 = k then (k, v) :: L else e :: setL k v L
def dropL (k : κ) (L : List (κ × Value)) : List (κ × Value) := L.filter fun e => decide (e.1 ≠ k)

theorem look_none {k : κ} : ∀ {L : List (κ × Value)} {i : Nat}, look k L i = none → getL k L = none ∧ (∀ e ∈ L, e.1 ≠ k) ∧ ∀ v, setL k v L = L ++ [(k, v)]
  | [], _, _ => ⟨rfl, by simp, fun _ => rfl⟩
  | e :: L, i, h => by
    unfold look at h
    by_cases he : e.1 = k
    · rw [if_pos he] at h; cases h
    · rw [if_neg he] at h
      obtain ⟨h1, h2, h3⟩ := look_none h
      refine ⟨by simp [getL, he, h1], ?_, fun v => by simp [setL, he, h3 v]⟩
      intro x hx
      rcases List.mem_cons.1 hx with rfl | hx
      · exact he
      · exact h2 x hx
theorem look_some {k : κ} : ∀ {L : List (κ × Value)} {i j : Nat} {v : Value}, look k L i = some (j, v) → ∃ n, j = i + n ∧ L[n]? = some (k, v) ∧ getL k L = some v ∧ ∀ v', setL k v' L = L.set n (k, v')
  | [], _, _, _, h => by cases h
  | e :: L, i, j, v, h => by
    unfold look at h
    by_cases he : e.1 = k
    · rw [if_pos he] at h
      simp only [Option.some.injEq, Prod.mk.injEq] at h
      obtain ⟨rfl, rfl⟩ := h
      exact ⟨0, rfl, by simp [← he], by simp [getL, he], fun v' => by simp [setL, he]⟩
    · rw [if_neg he] at h
      obtain ⟨n, rfl, h1, h2, h3⟩ := look_some h
      exact ⟨n + 1, by omega, by simpa using h1, by simp [getL, he, h2], fun v' => by simp [setL, he, h3 v']⟩
theorem getL_none {k : κ} : ∀ {L : List (κ × Value)}, getL k L = none ↔ ∀ e ∈ L, e.1 ≠ k
  | [] => by simp [getL]
  | e :: L => by
    by_cases he : e.1 = k
    · simp [getL, he]
    · simp [getL, he, getL_none (k := k) (L := L)]
theorem getL_mem {k : κ} {v : Value} : ∀ {L : List (κ × Value)}, getL k L = some v → (k, v) ∈ L
  | [], h => by cases h
  | e :: L, h => by
    unfold getL at h
    by_cases he : e.1 = k
    · rw [if_pos he] at h
      simp only [Option.some.injEq] at h
      subst he h
      simp
    · rw [if_neg he] at h
      exact List.mem_cons_of_mem _ (getL_mem h)
theorem getL_of_mem {k : κ} {v : Value} : ∀ {L : List (κ × Value)}, (L.map (·.1)).Nodup → (k, v) ∈ L → getL k L = some v
  | [], _, h => by simp at h
  | e :: L, hn, h => by
    simp only [List.map_cons, List.nodup_cons] at hn
    unfold getL
    rcases List.mem_cons.1 h with rfl | h
    · simp
    · have : e.1 ≠ k := fun he => hn.1 (by rw [he]; exact List.mem_map.2 ⟨_, h, rfl⟩)
      rw [if_neg this]
      exact getL_of_mem hn.2 h
theorem setL_keys {k : κ} {v : Value} : ∀ {L : List (κ × Value)}, (L.map (·.1)).Nodup → ((setL k v L).map (·.1)).Nodup ∧ ∀ x, x ∈ (setL k v L).map (·.1) ↔ x = k ∨ x ∈ L.map (·.1)
  | [], _ => by simp [setL]
  | e :: L, hn => by
    simp only [List.map_cons, List.nodup_cons] at hn
    obtain ⟨h1, h2⟩ := setL_keys (k := k) (v := v) hn.2
    unfold setL
    by_cases he : e.1 = k
    · rw [if_pos he]
      subst he
      simp only [List.map_cons, List.nodup_cons]
      refine ⟨hn, fun x => ?_⟩
      simp
    · rw [if_neg he]
      simp only [List.map_cons, List.nodup_cons]
      refine ⟨⟨fun h => ?_, h1⟩, fun x => ?_⟩
      · rcases (h2 _).1 h with h | h
        · exact he h
        · exact hn.1 h
      · rw [List.mem_cons, h2 x, List.mem_cons]
        constructor
        · rintro (h | h | h)
          · exact .inr (.inl h)
          · exact .inl h
          · exact .inr (.inr h)
        · rintro (h | h | h)
          · exact .inr (.inl h)
          · exact .inl h
          · exact .inr (.inr h)
theorem dropL_keys {k : κ} {L : List (κ × Value)} (hn : (L.map (·.1)).Nodup) : ((dropL k L).map (·.1)).Nodup := hn.sublist ((List.filter_sublist).map _)
theorem dropL_of_not {k : κ} {L : List (κ × Value)} (h : ∀ e ∈ L, e.1 ≠ k) : dropL k L = L := List.filter_eq_self.2 fun e he => by simpa using h e he
theorem dropL_erase {k : κ} {v : Value} : ∀ {L : List (κ × Value)} {n : Nat}, (L.map (·.1)).Nodup → L[n]? = some (k, v) → dropL k L = L.eraseIdx n
  | [], n, _, h => by simp at h
  | e :: L, 0, hn, h => by
    simp only [List.getElem?_cons_zero, Option.some.injEq] at h
    subst h
    simp only [List.map_cons, List.nodup_cons] at hn
    have : dropL k L = L := dropL_of_not fun x hx he => hn.1 (by rw [← he]; exact List.mem_map.2 ⟨_, hx, rfl⟩)
    simp only [dropL] at this ⊢
    rw [List.filter_cons, this]
    simp
  | e :: L, n + 1, hn, h => by
    simp only [List.getElem?_cons_succ] at h
    simp only [List.map_cons, List.nodup_cons] at hn
    have he : e.1 ≠ k := fun he => hn.1 (by rw [he]; exact List.mem_map.2 ⟨_, List.mem_of_getElem? h, rfl⟩)
    have := dropL_erase hn.2 h
    simp only [dropL] at this ⊢
    rw [List.filter_cons, this]
    simp [he]

structure KeyOk (P : Program) (kt : TypeId) (enc : κ → Value) : Prop where
  find : ∀ (k : κ) (l : List MapEntry) (L : List (κ × Value)) (w : World), entE l = entL enc L → (Instr.findKey kt (enc k) l).run P w = .ok (look k L 0) w
  check : ∀ (e : Bool) (k : κ) (w : World), (Instr.checkKey e 10000 kt (enc k)).run P w = .ok () w
  same : ∀ k, Instr.sameBits 10000 (enc k) (enc k) = true
  inj : ∀ a b, enc a = enc b → a = b

variable {P : Program} {kt et mt : TypeId} {enc : κ → Value} {w w' : World} {b r : Nat} {L rest : List (κ × Value)}

theorem findAsking_st (eq : ∀ a b w, (Op.equal kt (enc a) (enc b)).run P w = .ok (decide (a = b)) w) (k : κ) (w : World) : ∀ (l : List MapEntry) (L : List (κ × Value)) (i : Nat), entE l = entL enc L →
    (Instr.findAsking kt (enc k) l i).run P w = .ok (look k L i) w
  | [], L, i, h => by
    have : L = [] := by simpa [entE, entL] using h.symm
    subst this
    simp [Instr.findAsking, look]
  | x :: l, [], i, h => by simp [entE, entL] at h
  | x :: l, e :: L, i, h => by
    simp only [entE, entL, List.map_cons, List.cons.injEq, Prod.mk.injEq] at h
    obtain ⟨⟨hk, hv⟩, ht⟩ := h
    have he : (Op.equal kt (enc k) x.key).run P w = .ok (decide (k = e.1)) w := by rw [hk]; exact eq _ _ w
    by_cases hq : k = e.1
    · simp only [Instr.findAsking, Sem.run_bind, he, Result.andThen_ok, look, hv]
      rw [if_pos hq.symm]
      simp [hq]
    · have hj := findAsking_st eq k w l L (i + 1) ht
      simp only [Instr.findAsking, Sem.run_bind, he, Result.andThen_ok]
      rw [show look k (e :: L) i = look k L (i + 1) by conv => lhs; unfold look; rw [if_neg (fun h => hq h.symm)]]
      simpa [hq] using hj
theorem KeyOk.of_struct {fs : Array Field} (und : P.underlying kt = some (.struct fs)) (eq : ∀ a b w, (Op.equal kt (enc a) (enc b)).run P w = .ok (decide (a = b)) w)
    (check : ∀ (e : Bool) (k : κ) (w : World), (Instr.checkKey e 10000 kt (enc k)).run P w = .ok () w) (same : ∀ k, Instr.sameBits 10000 (enc k) (enc k) = true) (inj : ∀ a b, enc a = enc b → a = b) : KeyOk P kt enc where
  find := fun k l L w h => by
    have hj := findAsking_st eq k w l L 0 h
    cases l with
    | nil =>
      have : L = [] := by simpa [entE, entL] using h.symm
      subst this
      simp [Instr.findKey, run_underlying und, Instr.findNow, look]
    | cons x l => simp only [Instr.findKey, Sem.run_bind, run_underlying und, Result.andThen_ok, Instr.findNow, Instr.sameNow]; exact hj
  check := check
  same := same
  inj := inj

theorem MapAt.look_run (h : MapAt enc w b L) (K : KeyOk P kt enc) (ht : P.underlying mt = some (.map kt et)) {z : Value} (hz : (zeroValue et).run P w = .ok z w) (k : κ) (c : Bool) :
    (Instr.lookup mt (.map (some b)) (enc k) c).run P w = .ok (if c = true then .tuple #[(getL k L).getD z, .bool (getL k L).isSome] else (getL k L).getD z) w := by
  obtain ⟨es, clock, hb, hm, -⟩ := h
  have hf := K.find k es.toList L w hm
  cases hl : look k L 0 with
  | none =>
    rw [hl] at hf
    obtain ⟨h1, -⟩ := look_none hl
    cases c <;> simp [Instr.lookup, run_underlying ht, MapKept.run_getObj_map hb, K.check, hf, hz, h1]
  | some jv =>
    obtain ⟨j, v⟩ := jv
    rw [hl] at hf
    obtain ⟨n, -, -, h1, -⟩ := look_some hl
    cases c <;> simp [Instr.lookup, run_underlying ht, MapKept.run_getObj_map hb, K.check, hf, h1]
theorem look_nil_run (K : KeyOk P kt enc) (ht : P.underlying mt = some (.map kt et)) {z : Value} (hz : (zeroValue et).run P w = .ok z w) (k : κ) (c : Bool) :
    (Instr.lookup mt (.map none) (enc k) c).run P w = .ok (if c = true then .tuple #[z, .bool false] else z) w := by
  have hf := K.find k [] [] w rfl
  simp only [look] at hf
  cases c <;> simp [Instr.lookup, run_underlying ht, K.check, hf, hz]

theorem MapAt.update_run (h : MapAt enc w b L) (K : KeyOk P kt enc) (ht : P.underlying mt = some (.map kt et)) (k : κ) (v : Value) :
    ∃ w', (Instr.mapUpdate mt (.map (some b)) (enc k) v).run P w = .ok () w' ∧ MapAt enc w' b (setL k v L) ∧ w.grownBy w' (some b) ∧ w'.heap.size = w.heap.size := by
  obtain ⟨es, clock, hb, hm, h1, h2, h3⟩ := h
  have hf := K.find k es.toList L w hm
  have hlen : es.toList.length = L.length := by simpa [entE, entL] using congrArg List.length hm
  cases hl : look k L 0 with
  | none =>
    rw [hl] at hf
    obtain ⟨-, h4, h5⟩ := look_none hl
    refine ⟨{ w with heap := w.heap.setIfInBounds b (.map (es.push { key := enc k, val := v, born := clock }) (clock + 1)) }, ?_, ⟨_, _, (heap_set hb).1, ?_, ?_, ?_, (setL_keys h3).1⟩, ⟨rfl, rfl, rfl, by simp, fun i hi hne => (heap_set hb).2 i fun e => hne (by rw [e])⟩, by simp⟩
    · simp [Instr.mapUpdate, run_underlying ht, MapKept.run_getObj_map hb, K.check, hf, MapKept.run_setObj_map _ hb, Result.andThen]
    · rw [h5 v]
      simp only [entE, entL] at hm
      simp [entE, entL, hm]
    · intro x hx
      simp only [Array.toList_push, List.mem_append, List.mem_singleton] at hx
      rcases hx with hx | rfl
      · have := h1 x hx; omega
      · exact Nat.lt_succ_self _
    · simp only [Array.toList_push, List.map_append, List.map_cons, List.map_nil]
      refine List.nodup_append.2 ⟨h2, by simp, ?_⟩
      intro a ha c hc
      simp only [List.mem_singleton] at hc
      subst hc
      obtain ⟨x, hx, rfl⟩ := List.mem_map.1 ha
      exact Nat.ne_of_lt (h1 x hx)
  | some jv =>
    obtain ⟨j, v0⟩ := jv
    rw [hl] at hf
    obtain ⟨n, hjn, h4, -, h5⟩ := look_some hl
    obtain rfl : j = n := by omega
    have hjL : j < L.length := (List.getElem?_eq_some_iff.1 h4).1
    have hjs : j < es.size := by have : es.toList.length = es.size := rfl; omega
    have hkey : es[j].key = enc k := by
      have := congrArg (fun l => l[j]?) hm
      simp only [entE, entL, List.getElem?_map, h4, Option.map_some, Array.getElem?_toList, Array.getElem?_eq_getElem hjs, Option.some.injEq, Prod.mk.injEq] at this
      exact this.1
    have hstay : (Instr.keyThatStays (enc k) (enc k)).run P w = .ok (enc k) w := by simp [Instr.keyThatStays, K.same]
    refine ⟨{ w with heap := w.heap.setIfInBounds b (.map (es.modify j fun e => { e with key := enc k, val := v }) clock) }, ?_, ⟨_, _, (heap_set hb).1, ?_, ?_, ?_, (setL_keys h3).1⟩, ⟨rfl, rfl, rfl, by simp, fun i hi hne => (heap_set hb).2 i fun e => hne (by rw [e])⟩, by simp⟩
    · simp [Instr.mapUpdate, run_underlying ht, MapKept.run_getObj_map hb, K.check, hf, Array.getElem?_eq_getElem hjs, hkey, hstay, MapKept.run_setObj_map _ hb, Result.andThen]
    · rw [h5 v]
      simp only [entL, List.map_set]
      simp only [entL] at hm
      rw [← hm]
      apply List.ext_getElem?
      intro i
      simp only [entE, List.getElem?_map, Array.getElem?_toList, Array.getElem?_modify, List.getElem?_set, List.length_map]
      by_cases hij : j = i
      · subst hij
        simp [hjs]
      · simp [hij]
    · intro x hx
      obtain ⟨i, hi⟩ := List.getElem?_of_mem hx
      rw [Array.getElem?_toList, Array.getElem?_modify] at hi
      by_cases hij : j = i
      · subst hij
        simp only [if_true, Array.getElem?_eq_getElem hjs, Option.map_some, Option.some.injEq] at hi
        rw [← hi]
        have := h1 es[j] (by simp)
        exact this
      · rw [if_neg hij] at hi
        exact h1 x (List.mem_of_getElem? (by rwa [Array.getElem?_toList]))
    · have : (es.modify j fun e => { e with key := enc k, val := v }).toList.map (·.born) = es.toList.map (·.born) := by
        apply List.ext_getElem?
        intro i
        simp only [List.getElem?_map, Array.getElem?_toList, Array.getElem?_modify]
        by_cases hij : j = i
        · subst hij
          simp only [if_true]
          cases es[j]? <;> rfl
        · simp [hij]
      rw [this]
      exact h2

theorem erase_list {es : Array MapEntry} {j : Nat} (hjs : j < es.size) : (es.eraseIdxIfInBounds j).toList = es.toList.eraseIdx j := by
  unfold Array.eraseIdxIfInBounds
  rw [dif_pos hjs]
  simp
theorem eraseIdx_map' {α β : Type} (f : α → β) : ∀ (l : List α) (n : Nat), (l.eraseIdx n).map f = (l.map f).eraseIdx n
  | [], _ => by simp
  | a :: l, 0 => by simp
  | a :: l, n + 1 => by simp [eraseIdx_map' f l n]
/-- 'delete', whether the key is there or not: the entries that are left are entries that were. -/
theorem delete_es (K : KeyOk P kt enc) (ht : P.underlying mt = some (.map kt et)) (k : κ) (ty : TypeId) {es : Array MapEntry} {clock : Nat} (hb : w.heap[b]? = some (.map es clock)) (hm : entE es.toList = entL enc L) (h3 : (L.map (·.1)).Nodup) :
    ∃ es', (Builtin.delete_ #[mt, kt] ty #[.map (some b), enc k]).run P w = .ok (.tuple #[]) (setBlock w b (.map es' clock)) ∧ es'.toList.Sublist es.toList ∧ entE es'.toList = entL enc (dropL k L) := by
  have hf := K.find k es.toList L w hm
  have hlen : es.toList.length = L.length := by simpa [entE, entL] using congrArg List.length hm
  cases hl : look k L 0 with
  | none =>
    rw [hl] at hf
    obtain ⟨-, h4, -⟩ := look_none hl
    refine ⟨es, ?_, List.Sublist.refl _, by rw [dropL_of_not h4]; exact hm⟩
    simp [Builtin.delete_, run_underlying ht, MapKept.run_getObj_map hb, K.check, hf, MapKept.run_setObj_map _ hb, Result.andThen, setBlock]
  | some jv =>
    obtain ⟨j, v0⟩ := jv
    rw [hl] at hf
    obtain ⟨n, hjn, h4, -, -⟩ := look_some hl
    obtain rfl : j = n := by omega
    have hjL : j < L.length := (List.getElem?_eq_some_iff.1 h4).1
    have hjs : j < es.size := by have : es.toList.length = es.size := rfl; omega
    refine ⟨es.eraseIdxIfInBounds j, ?_, by rw [erase_list hjs]; exact List.eraseIdx_sublist _ _, ?_⟩
    · simp [Builtin.delete_, run_underlying ht, MapKept.run_getObj_map hb, K.check, hf, MapKept.run_setObj_map _ hb, Result.andThen, setBlock]
    · rw [erase_list hjs, dropL_erase h3 h4]
      simp only [entE, entL] at hm ⊢
      rw [eraseIdx_map', eraseIdx_map', hm]
theorem MapAt.delete_run (h : MapAt enc w b L) (K : KeyOk P kt enc) (ht : P.underlying mt = some (.map kt et)) (k : κ) (ty : TypeId) :
    ∃ w', (Builtin.delete_ #[mt, kt] ty #[.map (some b), enc k]).run P w = .ok (.tuple #[]) w' ∧ MapAt enc w' b (dropL k L) ∧ w.grownBy w' (some b) ∧ w'.heap.size = w.heap.size := by
  have hlt := h.lt
  obtain ⟨es, clock, hb, hm, h1, h2, h3⟩ := h
  obtain ⟨es', hrun, hsub, hes⟩ := delete_es (ty := ty) K ht k hb hm h3
  exact ⟨_, hrun, ⟨es', clock, (heap_set hb).1, hes, fun x hx => h1 x (hsub.subset hx), h2.sublist (hsub.map _), dropL_keys h3⟩, setBlock_grown hlt _, setBlock_size _⟩
theorem RangeAt.delete_run (h : RangeAt enc w b r L rest) (K : KeyOk P kt enc) (ht : P.underlying mt = some (.map kt et)) (k : κ) (ty : TypeId) :
    ∃ w', (Builtin.delete_ #[mt, kt] ty #[.map (some b), enc k]).run P w = .ok (.tuple #[]) w' ∧ RangeAt enc w' b r (dropL k L) (dropL k rest) ∧ w.grownBy w' (some b) ∧ w'.heap.size = w.heap.size := by
  classical
  have hlt := h.map.lt
  have hne := h.ne
  obtain ⟨es, clock, since, seen, c0, hb, hm, h1, h2, h3, hr, hold, hsc, hsk, hl⟩ := h
  have hf := K.find k es.toList L w hm
  have hlen : es.toList.length = L.length := by simpa [entE, entL] using congrArg List.length hm
  have keyfilter : ∀ (l : List MapEntry) (M : List (κ × Value)), entE l = entL enc M → entE (l.filter fun x => decide (x.key ≠ enc k)) = entL enc (dropL k M) := by
    intro l
    induction l with
    | nil =>
      intro M h
      have : M = [] := by simpa [entE, entL] using h.symm
      subst this
      rfl
    | cons x l ih =>
      intro M h
      cases M with
      | nil => simp [entE, entL] at h
      | cons e M =>
        simp only [entE, entL, List.map_cons, List.cons.injEq, Prod.mk.injEq] at h
        have := ih M h.2
        by_cases he : e.1 = k
        · have hx : x.key = enc k := by rw [h.1.1, he]
          simp only [dropL, entE, entL] at this ⊢
          simp only [List.filter_cons, hx, he, ne_eq, not_true_eq_false, decide_false, Bool.false_eq_true, if_false]
          exact this
        · have hx : x.key ≠ enc k := by rw [h.1.1]; exact fun e => he (K.inj _ _ e)
          simp only [dropL, entE, entL] at this ⊢
          simp only [List.filter_cons, hx, he, ne_eq, not_false_eq_true, decide_true, if_true, List.map_cons]
          rw [this, h.1.1, h.1.2]
  obtain ⟨es', hrun, hsub, hes⟩ := delete_es (ty := ty) K ht k hb hm h3
  have hes' : es'.toList = es.toList.filter fun x => decide (x.key ≠ enc k) := by
    have e1 := keyfilter _ _ hm
    rw [← hes] at e1
    have hs2 : es'.toList.Sublist (es.toList.filter fun x => decide (x.key ≠ enc k)) := by
      have hk : ∀ x ∈ es'.toList, decide (x.key ≠ enc k) = true := by
        intro x hx
        have : (x.key, x.val) ∈ entL enc (dropL k L) := by rw [← hes]; exact List.mem_map.2 ⟨x, hx, rfl⟩
        obtain ⟨e, he, hee⟩ := List.mem_map.1 this
        simp only [Prod.mk.injEq] at hee
        have hek : e.1 ≠ k := by simpa [dropL] using (List.mem_filter.1 he).2
        rw [← hee.1]
        simpa using fun e => hek (K.inj _ _ e)
      rw [← List.filter_eq_self.2 hk]
      exact hsub.filter _
    refine hs2.eq_of_length ?_
    have := congrArg List.length e1
    simpa [entE] using this.symm
  refine ⟨_, hrun, ⟨es', clock, since, seen, c0, (heap_set hb).1, hes, fun x hx => h1 x (hsub.subset hx), h2.sublist (hsub.map _), dropL_keys h3, ((heap_set hb).2 r hne).trans hr, fun x hx => hold x (hsub.subset hx), hsc, hsk, ?_⟩, setBlock_grown hlt _, setBlock_size _⟩
  have : (leftOf es' seen).toList = (leftOf es seen).toList.filter fun x => decide (x.key ≠ enc k) := by
    unfold leftOf
    rw [Array.toList_filter, Array.toList_filter, hes', List.filter_filter, List.filter_filter]
    refine List.filter_congr fun y _ => ?_
    rw [Bool.and_comm]
  rw [this]
  exact keyfilter _ _ hl
end

section
variable {κ : Type} [DecidableEq κ] {enc : κ → Value} {P : Program} (w : World) {ops : Array Oper} {rest : List Oper} {o : Oper} {a : Act} {Q : Exit → Act → World → Prop} {b r : Nat} {L left : List (κ × Value)}

theorem wpList_lookup_st (hg : o.guard = none) (m x : Operand) (t : TypeId) (c : Bool) (hop : o.op = Op.lookup t m x c) (kt et : TypeId) (K : KeyOk P kt enc) (ht : P.underlying t = some (.map kt et)) {z : Value} (hz : (zeroValue et).run P w = .ok z w)
    (hm : a.eval m = .map (some b)) (h : MapAt enc w b L) (k : κ) (hx : a.eval x = enc k) {v : Value} (hv : (if c = true then .tuple #[(getL k L).getD z, .bool (getL k L).isSome] else (getL k L).getD z) = v)
    (hK : wpList P ops Q rest (a.put o.dst v) w) : wpList P ops Q (o :: rest) a w := by
  refine wpList_plain hg fun K' hK' => ?_
  subst hv
  have hrun := h.look_run K ht hz k c
  unfold Oper.wp
  simp [execOp, hop, hm, hx, hrun, Result.andThen]
  exact hK' _ _ hK
theorem wpList_update_st (hg : o.guard = none) (m x y : Operand) (t : TypeId) (hop : o.op = Op.mapUpdate t m x y) (kt et : TypeId) (K : KeyOk P kt enc) (ht : P.underlying t = some (.map kt et))
    (hm : a.eval m = .map (some b)) (h : MapAt enc w b L) (k : κ) (hx : a.eval x = enc k) (v : Value) (hy : a.eval y = v)
    (hK : ∀ w', MapAt enc w' b (setL k v L) → w.grownBy w' (some b) → w'.heap.size = w.heap.size → wpList P ops Q rest (a.put o.dst undef) w') : wpList P ops Q (o :: rest) a w := by
  refine wpList_plain hg fun K' hK' => ?_
  obtain ⟨w', hrun, h1, h2, h3⟩ := h.update_run K ht k v
  unfold Oper.wp
  simp [execOp, hop, hm, hx, hy, hrun, Result.andThen]
  exact hK' _ _ (hK w' h1 h2 h3)
theorem wpList_delete_st (hg : o.guard = none) (m x : Operand) (t kt : TypeId) (hop : o.op = Op.call { callee := Callee.builtin Builtin.delete, args := #[m, x], argTypes := #[t, kt] }) (et : TypeId) (K : KeyOk P kt enc) (ht : P.underlying t = some (.map kt et))
    (hm : a.eval m = .map (some b)) (h : MapAt enc w b L) (k : κ) (hx : a.eval x = enc k)
    (hK : ∀ w', MapAt enc w' b (dropL k L) → w.grownBy w' (some b) → w'.heap.size = w.heap.size → wpList P ops Q rest (a.put o.dst (.tuple #[])) w') : wpList P ops Q (o :: rest) a w := by
  refine wpList_plain hg fun K' hK' => ?_
  obtain ⟨w', hrun, h1, h2, h3⟩ := h.delete_run K ht k o.type
  unfold Oper.wp
  simp [execOp, hop, resolve, invoke, builtin, hm, hx, hrun, Result.andThen]
  exact hK' _ _ (hK w' h1 h2 h3)
theorem wpList_delete_range_st (hg : o.guard = none) (m x : Operand) (t kt : TypeId) (hop : o.op = Op.call { callee := Callee.builtin Builtin.delete, args := #[m, x], argTypes := #[t, kt] }) (et : TypeId) (K : KeyOk P kt enc) (ht : P.underlying t = some (.map kt et))
    (hm : a.eval m = .map (some b)) (h : RangeAt enc w b r L left) (k : κ) (hx : a.eval x = enc k)
    (hK : ∀ w', RangeAt enc w' b r (dropL k L) (dropL k left) → w.grownBy w' (some b) → w'.heap.size = w.heap.size → wpList P ops Q rest (a.put o.dst (.tuple #[])) w') : wpList P ops Q (o :: rest) a w := by
  refine wpList_plain hg fun K' hK' => ?_
  obtain ⟨w', hrun, h1, h2, h3⟩ := h.delete_run K ht k o.type
  unfold Oper.wp
  simp [execOp, hop, resolve, invoke, builtin, hm, hx, hrun, Result.andThen]
  exact hK' _ _ (hK w' h1 h2 h3)
end

section
variable {κ : Type} {enc : κ → Value} {P : Program} (w : World) {ops : Array Oper} {rest : List Oper} {o : Oper} {a : Act} {Q : Exit → Act → World → Prop} {b r : Nat} {L left : List (κ × Value)}
theorem wpList_len_st (hg : o.guard = none) (m : Operand) (t kt et : TypeId) (hop : o.op = Op.call { callee := Callee.builtin Builtin.len, args := #[m], argTypes := #[t] }) (ht : P.underlying t = some (.map kt et)) (hm : a.eval m = .map (some b)) (h : MapAt enc w b L)
    (hK : wpList P ops Q rest (a.put o.dst (.int .i64 L.length)) w) : wpList P ops Q (o :: rest) a w := by
  refine wpList_plain hg fun K' hK' => ?_
  have hrun := h.len_run (P := P) ht o.type
  unfold Oper.wp
  simp [execOp, hop, resolve, invoke, builtin, hm, hrun, Result.andThen]
  exact hK' _ _ hK
theorem wpList_range_st (hg : o.guard = none) (m : Operand) (t : TypeId) (hop : o.op = Op.range t m) (kt et : TypeId) (ht : P.underlying t = some (.map kt et)) (hm : a.eval m = .map (some b)) (h : MapAt enc w b L)
    (hK : ∀ w', RangeAt enc w' b w.heap.size L L → Below w.heap.size w w' → w'.heap.size = w.heap.size + 1 → wpList P ops Q rest (a.put o.dst (.pointer (some ⟨w.heap.size, 0, none⟩))) w') : wpList P ops Q (o :: rest) a w := by
  refine wpList_plain hg fun K' hK' => ?_
  obtain ⟨w', hrun, h1, h2, h3⟩ := h.range_run (P := P) ht
  unfold Oper.wp
  simp [execOp, hop, hm, hrun, Result.andThen]
  exact hK' _ _ (hK w' h1 h2 h3)
theorem wpList_next_st (hg : o.guard = none) (it : Operand) (hop : o.op = Op.next it false) (hi : ∀ a b, enc a = enc b → a = b) (hit : a.eval it = .pointer (some ⟨r, 0, none⟩)) (h : RangeAt enc w b r L left)
    (hDone : left = [] → wpList P ops Q rest (a.put o.dst (.tuple #[.bool false])) w)
    (hMore : ∀ pre e post w', left = pre ++ e :: post → RangeAt enc w' b r L (pre ++ post) → w.grownBy w' (some r) → w'.heap.size = w.heap.size → (Instr.entry (.pointer (some ⟨r, 0, none⟩))).run P w' = .ok (.tuple #[enc e.1, e.2]) w' →
      wpList P ops Q rest (a.put o.dst (.tuple #[.bool true, enc e.1, e.2])) w') : wpList P ops Q (o :: rest) a w := by
  refine wpList_plain hg fun K' hK' => ?_
  unfold Oper.wp
  rcases h.next_run (P := P) hi o.type with ⟨h0, hrun⟩ | ⟨pre, e, post, w', h1, hrun, h2, h3, h4, h5⟩
  · simp [execOp, hop, hit, hrun, Result.andThen]
    exact hK' _ _ (hDone h0)
  · simp [execOp, hop, hit, hrun, Result.andThen]
    exact hK' _ _ (hMore pre e post w' h1 h2 h3 h4 h5)
end

end Go.Proofs.YtpnbibokddhheaaGreat

/-
  clear of a map, whatever its keys.
-/
namespace Go.Proofs.YtpnbibokddhheaaGreat
open Go.RowKit Go.MapKept

section
variable {κ : Type} {P : Program} {kt et mt : TypeId} {enc : κ → Value} {w w' : World} {b : Nat} {L : List (κ × Value)}
theorem MapAt.clear_run (h : MapAt enc w b L) (ht : P.underlying mt = some (.map kt et)) (ty : TypeId) :
    ∃ w', (Builtin.clear_ #[mt] ty #[.map (some b)]).run P w = .ok (.tuple #[]) w' ∧ MapAt enc w' b ([] : List (κ × Value)) ∧ w.grownBy w' (some b) ∧ w'.heap.size = w.heap.size := by
  have hlt := h.lt
  obtain ⟨es, clock, hb, hm, h1, h2, h3⟩ := h
  refine ⟨_, ?_, ⟨#[], clock, (heap_set hb).1, rfl, by simp, by simp, by simp⟩, setBlock_grown hlt _, setBlock_size _⟩
  simp [Builtin.clear_, run_underlying ht, MapKept.run_getObj_map hb, MapKept.run_setObj_map _ hb, Result.andThen]
  rfl
variable {ops : Array Oper} {Q : Exit → Act → World → Prop} {o : Oper} {rest : List Oper} {a : Act}
theorem wpList_clear_st (hg : o.guard = none) (m : Operand) (t kt : TypeId) (hop : o.op = Op.call { callee := Callee.builtin Builtin.clear, args := #[m], argTypes := #[t] }) (et : TypeId) (ht : P.underlying t = some (.map kt et))
    (hm : a.eval m = .map (some b)) (h : MapAt enc w b L)
    (hK : ∀ w', MapAt enc w' b ([] : List (κ × Value)) → w.grownBy w' (some b) → w'.heap.size = w.heap.size → wpList P ops Q rest (a.put o.dst (.tuple #[])) w') : wpList P ops Q (o :: rest) a w := by
  refine wpList_plain hg fun K' hK' => ?_
  obtain ⟨w', hrun, h1, h2, h3⟩ := h.clear_run ht o.type
  unfold Oper.wp
  simp [execOp, hop, resolve, invoke, builtin, hm, hrun, Result.andThen]
  exact hK' _ _ (hK w' h1 h2 h3)
end

end Go.Proofs.YtpnbibokddhheaaGreat

/-
  Keys as keys of maps.
-/
namespace Go.Proofs.YtpnbibokddhheaaGreat
open Go.RowKit

structure K3 where
  kind : Int
  id : Int
  adv : Int
deriving DecidableEq
instance : Inhabited K3 := ⟨⟨0, 0, 0⟩⟩
def K3.cells (k : K3) : List Value := [.int .i64 k.kind, .int .i64 k.id, .int .i64 k.adv]
def K3.enc (k : K3) : Value := .agg #[.int .i64 k.kind, .int .i64 k.id, .int .i64 k.adv]
theorem eqK3_n (n : Nat) (a b c a' b' c' : Int) (w : World) : (Op.equalIn (n + 1 + 1) 69 (.agg #[.int .i64 a, .int .i64 b, .int .i64 c]) (.agg #[.int .i64 a', .int .i64 b', .int .i64 c'])).run Tryz.prog w = .ok (a == a' && b == b' && c == c') w := by
  have hS : Tryz.prog.underlying 69 = some (.struct (Tryz.prog.fieldsOf 69)) := by kernel_rfl
  have hp : Tryz.prog.stoodInHeld 69 = false := by kernel_rfl
  rw [run_equalIn_struct w (n + 1) 69 _ _ hS hp]
  simp only [Program.fieldsOf, Tryz.underlying69]
  go_simp
  by_cases h1 : a = a' <;> by_cases h2 : b = b' <;> by_cases h3 : c = c' <;> simp [h1, h2, h3]
theorem eqK3 (a b : K3) (w : World) : (Op.equal 69 a.enc b.enc).run Tryz.prog w = .ok (decide (a = b)) w := by
  obtain ⟨a1, a2, a3⟩ := a
  obtain ⟨b1, b2, b3⟩ := b
  refine (eqK3_n 9998 a1 a2 a3 b1 b2 b3 w).trans ?_
  by_cases h1 : a1 = b1 <;> by_cases h2 : a2 = b2 <;> by_cases h3 : a3 = b3 <;> simp [h1, h2, h3]
theorem checkInt (e : Bool) (n : Nat) (x : Int) (w : World) : (Instr.checkKey e (n + 1) 3 (.int .i64 x)).run Tryz.prog w = .ok () w := MapKept.run_checkKey Tryz.underlying3 (by simp [MapKept.IsKey]) e n
theorem checkK3_n (n : Nat) (e : Bool) (a b c : Int) (w : World) : (Instr.checkKey e (n + 1 + 1) 69 (.agg #[.int .i64 a, .int .i64 b, .int .i64 c])).run Tryz.prog w = .ok () w := by
  have hc : ∀ x w, (Instr.checkKey e (n + 1) 3 (.int .i64 x)).run Tryz.prog w = .ok () w := fun x w => checkInt e n x w
  rw [Instr.checkKey]
  simp only [Sem.run_bind, run_underlying Tryz.underlying69, Result.andThen_ok]
  rw [← Array.forIn_toList]
  go_simp
theorem sameBits_agg (n : Nat) : ∀ l : List Value, (∀ v ∈ l, Instr.sameBits n v v = true) → (l.zip l).all (fun (x, y) => Instr.sameBits n x y) = true
  | [], _ => rfl
  | v :: l, h => by
    simp only [List.zip_cons_cons, List.all_cons, Bool.and_eq_true]
    exact ⟨h v (by simp), sameBits_agg n l fun u hu => h u (by simp [hu])⟩
theorem sameBits_int (n : Nat) (x : Int) : Instr.sameBits n (.int .i64 x) (.int .i64 x) = true := by unfold Instr.sameBits; simp
theorem sameK3 (k : K3) : Instr.sameBits 10000 k.enc k.enc = true := by
  rw [show (10000 : Nat) = 9999 + 1 from rfl, K3.enc, Instr.sameBits]
  simp only [beq_self_eq_true, Bool.true_and]
  exact sameBits_agg _ _ fun v hv => by
    simp at hv
    rcases hv with rfl | rfl | rfl <;> exact sameBits_int _ _
theorem K3.enc_inj (a b : K3) (h : a.enc = b.enc) : a = b := by
  obtain ⟨a1, a2, a3⟩ := a
  obtain ⟨b1, b2, b3⟩ := b
  simp [K3.enc] at h
  simp [h]
theorem keyK3 : KeyOk Tryz.prog 69 K3.enc := KeyOk.of_struct Tryz.underlying69 eqK3 (fun e _k w => checkK3_n 9998 e _ _ _ w) sameK3 K3.enc_inj

end Go.Proofs.YtpnbibokddhheaaGreat

/-
  Rows of structs that a call made itself, whatever the struct.
-/
namespace Go.Proofs.YtpnbibokddhheaaGreat
open Go.RowKit

theorem flatR {α : Type} (cells : α → List Value) (C : Nat) (hC : ∀ x, (cells x).length = C) (l : List α) (k i : Nat) (hk : k < l.length) (hi : i < C) : (l.flatMap cells)[k * C + i]? = (cells l[k])[i]? := by
  induction l generalizing k with
  | nil => simp at hk
  | cons c l ih =>
    cases k with
    | zero => simp only [List.flatMap_cons, Nat.zero_mul, Nat.zero_add, List.getElem_cons_zero]; rw [List.getElem?_append_left (by rw [hC]; exact hi)]
    | succ k =>
      have := ih k (by simpa using hk)
      simp only [List.flatMap_cons, List.getElem_cons_succ]
      rw [List.getElem?_append_right (by rw [hC, Nat.add_mul]; omega), hC, show (k + 1) * C + i - C = k * C + i by rw [Nat.add_mul]; omega]
      exact this

/-- A row of structs (element type e, C cells each) that the call made itself: blocks from B on. -/
def OwnR {α : Type} (e : TypeId) (C : Nat) (cells : α → List Value) (w : World) (B : Nat) (v : Value) (L : List α) : Prop := w.ownsRow B e C v L.length (L.flatMap cells)
section
variable {α : Type} {e : TypeId} {C : Nat} {cells : α → List Value} {w w' : World} {B : Nat} {v : Value} {L : List α}
theorem OwnR.nil (w : World) (B : Nat) : OwnR e C cells w B (.slice none 0 0) ([] : List α) := ⟨by simp, .inl ⟨rfl, rfl⟩⟩
theorem OwnR.kept {row : Option Nat} (h : OwnR e C cells w B v L) (hg : w.grownBy w' row) (hne : v.ownBlock = none ∨ v.ownBlock ≠ row) : OwnR e C cells w' B v L := World.ownsRow.kept h hg hne
theorem OwnR.alloc (h : OwnR e C cells w B v L) (o : Obj) : OwnR e C cells (w.alloc o) B v L := World.ownsRow.alloc h o
theorem OwnR.below (h : OwnR e C cells w B v L) (hb : Below w.heap.size w w') : OwnR e C cells w' B v L :=
  h.kept (row := none) ⟨hb.os, hb.tape, hb.output, hb.size, fun k hk _ => hb.block k hk⟩ (by cases hv : v.ownBlock <;> simp)
theorem OwnR.shape (h : OwnR e C cells w B v L) : ∃ A cap, v = .slice A L.length cap := by
  rcases h.2 with ⟨rfl, hn⟩ | ⟨g, cap, cur, rfl, _⟩
  · exact ⟨none, 0, by rw [hn]⟩
  · exact ⟨_, cap, rfl⟩
theorem OwnR.block (h : OwnR e C cells w B v L) : ∀ k, v.ownBlock = some k → B ≤ k ∧ k < w.heap.size := fun k hk => World.ownsRow.lt h k hk
theorem OwnR.lower {B' : Nat} (h : OwnR e C cells w B v L) (hB : B' ≤ B) : OwnR e C cells w B' v L := by
  refine ⟨h.1, ?_⟩
  rcases h.2 with hn | ⟨g, cap, cur, e, hb, r⟩
  · exact .inl hn
  · exact .inr ⟨g, cap, cur, e, Nat.le_trans hB hb, r⟩
theorem OwnR.set_ (h : OwnR e C cells w B v L) {p : Addr} (hp : p.block < B) (u : Value) : OwnR e C cells (w.setCell p u) B v L := by
  refine h.kept (row := some p.block) ⟨rfl, rfl, rfl, by simp, fun k _ hne => Below.heap_setCell w p u k (fun e => hne (by rw [e]))⟩ ?_
  rcases hv : v.ownBlock with _ | k
  · exact .inl rfl
  · right
    intro e
    injection e with e
    have := (h.block k hv).1
    omega
/-- it can be read -/
theorem OwnR.rows (hC : ∀ x, (cells x).length = C) {A : Option Addr} {n cap : Nat} (h : OwnR e C cells w B (.slice A n cap) L) : n = L.length ∧ RowsAt C cells w w.heap.size A L := by
  rcases h.2 with ⟨hv, hn⟩ | ⟨g, cap', cur, hv, hb, hg, hnc, hcm, hcs, ht⟩
  · simp only [Value.slice.injEq] at hv
    exact ⟨by rw [hn]; exact hv.2.1, fun h0 => absurd h0 (by omega)⟩
  · simp only [Value.slice.injEq] at hv
    obtain ⟨rfl, rfl, rfl⟩ := hv
    refine ⟨rfl, fun _ => ⟨g, 0, rfl, (Array.getElem?_eq_some_iff.1 hg).1, fun k hk i u hi hu => ?_⟩⟩
    have hki : k * C + i < L.length * C := by
      have : (k + 1) * C ≤ L.length * C := Nat.mul_le_mul_right C hk
      rw [Nat.add_mul] at this
      omega
    have := World.ownsRow.cellAt (w := w) (base := B) (e := e) (size := C) (g := g) (n := L.length) (cap := cap) (xs := L.flatMap cells) h (k * C + i) hki
    rw [show 0 + k * C + i = k * C + i by omega, this, flatR cells C hC L k i hk hi, hu]
end
/-- append of one struct -/
theorem app_row {α : Type} {e sl : TypeId} {C bytes : Nat} (cells : α → List Value) (hC : ∀ x, (cells x).length = C) (hC0 : 0 < C) (hbytes : bytes ≤ 1000) {z : Value} (hinfo : (Tryz.prog.info? e).map (fun i => (i.zero, i.size, i.bytes)) = some (some z, C, bytes)) (hzs : z.cells.size = C) (hsl : Tryz.prog.underlying sl = some (.slice e))
    (h1 : ∀ x, ∀ u ∈ cells x, u.oneCell' = true)
    {w : World} {ops : Array Oper} {rest : List Oper} {o : Oper} {a : Act} {Q : Exit → Act → World → Prop} (hgd : o.guard = none) (s x : Operand)
    (ho : o.op = .call { callee := .builtin .append, args := #[s, x], argTypes := #[sl, sl] })
    (base : Nat) (v : Value) (L : List α) (hs : a.eval s = v) (hown : OwnR e C cells w base v L) (g : Nat) (n : α) (hx : a.eval x = .slice (some ⟨g, 0, none⟩) 1 1) (hr : Blk w g e (cells n).toArray)
    (hlen : L.length + 1 ≤ 2 ^ 30) (hbase : base ≤ w.heap.size)
    (h : ∀ v' w', OwnR e C cells w' base v' (L ++ [n]) → w.grownBy w' v.ownBlock → (v'.ownBlock = v.ownBlock ∨ v'.ownBlock = some w.heap.size) → wpList Tryz.prog ops Q rest (a.put o.dst v') w') : wpList Tryz.prog ops Q (o :: rest) a w := by
  obtain ⟨i0, hi, hz0, hz1, hz2⟩ := info_parts hinfo
  refine wpList_append_any _ hgd s x _ ho base e i0 z C bytes hsl hi hz0 hz1 hz2 hzs hC0 v L.length (L.flatMap cells) hs hown (g + 1) (some ⟨g, 0, none⟩) 1 1 (cells n) hx ?_ (h1 n) (by unfold maxLen; omega) ?_ hbase ?_
  · refine ⟨by rw [hC]; omega, fun _ => ⟨g, 0, rfl, Nat.lt_succ_self _, fun j y hj => ?_⟩⟩
    rw [Nat.zero_add, hr.cell j, ← hj]
    simp
  · calc (L.length + 1) * bytes ≤ 2 ^ 30 * 1000 := Nat.mul_le_mul hlen hbytes
      _ ≤ 140737488355328 := by decide
  · intro v' w' h2 h3 h4
    exact h v' w' (by simpa [OwnR, List.flatMap_append] using h2) h3 h4

/-- append of one struct, as an equation on its run -/
theorem app_row_run {α : Type} {e sl : TypeId} {C bytes : Nat} (cells : α → List Value) (hC : ∀ x, (cells x).length = C) (hC0 : 0 < C) (hbytes : bytes ≤ 1000) {z : Value} (hinfo : (Tryz.prog.info? e).map (fun i => (i.zero, i.size, i.bytes)) = some (some z, C, bytes)) (hzs : z.cells.size = C) (hsl : Tryz.prog.underlying sl = some (.slice e))
    (h1 : ∀ x, ∀ u ∈ cells x, u.oneCell' = true) {w : World} (ty : TypeId) (base : Nat) (v : Value) (L : List α) (hown : OwnR e C cells w base v L) (g : Nat) (n : α) (hr : Blk w g e (cells n).toArray) (hlen : L.length + 1 ≤ 2 ^ 30) (hbase : base ≤ w.heap.size) :
    ∃ v' w', (Builtin.append_ #[sl, sl] ty #[v, .slice (some ⟨g, 0, none⟩) 1 1]).run Tryz.prog w = .ok v' w' ∧ OwnR e C cells w' base v' (L ++ [n]) ∧ w.grownBy w' v.ownBlock ∧ (v'.ownBlock = v.ownBlock ∨ v'.ownBlock = some w.heap.size) := by
  obtain ⟨i0, hi, hz0, hz1, hz2⟩ := info_parts hinfo
  obtain ⟨v', w', h, h2, h3, h4⟩ := run_append_any (P := Tryz.prog) w base sl ty e i0 z C bytes hsl hi hz0 hz1 hz2 hzs hC0 v L.length (L.flatMap cells) hown (g + 1) (some ⟨g, 0, none⟩) 1 1 (cells n)
    ⟨by rw [hC]; omega, fun _ => ⟨g, 0, rfl, Nat.lt_succ_self _, fun j y hj => by rw [Nat.zero_add, hr.cell j, ← hj]; simp⟩⟩ (h1 n) (by unfold maxLen; omega)
    (Nat.le_trans (Nat.mul_le_mul hlen hbytes) (by decide)) hbase
  exact ⟨v', w', h, by simpa [OwnR, List.flatMap_append] using h2, h3, h4⟩

theorem flatLenR {α : Type} (cells : α → List Value) (C : Nat) (hC : ∀ x, (cells x).length = C) (l : List α) : (l.flatMap cells).length = l.length * C := by
  induction l with
  | nil => simp
  | cons c l ih => simp only [List.flatMap_cons, List.length_append, ih, hC, List.length_cons, Nat.add_mul]; omega

end Go.Proofs.YtpnbibokddhheaaGreat

/-
  append of rows of structs behind a row that the call made itself.
-/
namespace Go.Proofs.YtpnbibokddhheaaGreat
open Go.RowKit

theorem rows_reads {α : Type} {C : Nat} {cells : α → List Value} (hC : ∀ x, (cells x).length = C) (hC0 : 0 < C) {w : World} {B : Nat} {A : Option Addr} {M : List α} (hM : RowsAt C cells w B A M) : Reads w B C A M.length (M.flatMap cells) := by
  refine ⟨flatLenR cells C hC M, fun hp => ?_⟩
  obtain ⟨b, o, e, hb, hc⟩ := hM hp
  refine ⟨b, o, e, hb, fun j u hu => ?_⟩
  have hj : j < M.length * C := by rw [← flatLenR cells C hC M]; exact (List.getElem?_eq_some_iff.1 hu).1
  have hk : j / C < M.length := Nat.div_lt_of_lt_mul (by rw [Nat.mul_comm]; exact hj)
  have hi : j % C < C := Nat.mod_lt _ hC0
  have e1 := flatR cells C hC M (j / C) (j % C) hk hi
  have e2 : j / C * C + j % C = j := by rw [Nat.mul_comm]; exact Nat.div_add_mod j C
  rw [e2, hu] at e1
  have := hc (j / C) hk (j % C) u hi e1.symm
  rw [show o + j / C * C + j % C = o + j by omega] at this
  exact this
theorem app_rows {α : Type} {e sl : TypeId} {C bytes : Nat} (cells : α → List Value) (hC : ∀ x, (cells x).length = C) (hC0 : 0 < C) (hbytes : bytes ≤ 1000) {z : Value} (hinfo : (Tryz.prog.info? e).map (fun i => (i.zero, i.size, i.bytes)) = some (some z, C, bytes)) (hzs : z.cells.size = C) (hsl : Tryz.prog.underlying sl = some (.slice e))
    (h1 : ∀ x, ∀ u ∈ cells x, u.oneCell' = true)
    {w : World} {ops : Array Oper} {rest : List Oper} {o : Oper} {a : Act} {Q : Exit → Act → World → Prop} (hgd : o.guard = none) (s x : Operand)
    (ho : o.op = .call { callee := .builtin .append, args := #[s, x], argTypes := #[sl, sl] })
    (base : Nat) (v : Value) (L : List α) (hs : a.eval s = v) (hown : OwnR e C cells w base v L) (A : Option Addr) (c m : Nat) (M : List α) (hm : m = M.length) (hx : a.eval x = .slice A m c) (hM : RowsAt C cells w w.heap.size A M)
    (hlen : L.length + M.length ≤ 2 ^ 30) (hbase : base ≤ w.heap.size)
    (h : ∀ v' w', OwnR e C cells w' base v' (L ++ M) → w.grownBy w' v.ownBlock → (v'.ownBlock = v.ownBlock ∨ v'.ownBlock = some w.heap.size) → wpList Tryz.prog ops Q rest (a.put o.dst v') w') : wpList Tryz.prog ops Q (o :: rest) a w := by
  subst hm
  obtain ⟨i0, hi, hz0, hz1, hz2⟩ := info_parts hinfo
  refine wpList_append_any _ hgd s x _ ho base e i0 z C bytes hsl hi hz0 hz1 hz2 hzs hC0 v L.length (L.flatMap cells) hs hown w.heap.size A M.length c (M.flatMap cells) hx (rows_reads hC hC0 hM) ?_ (by unfold maxLen; omega) ?_ hbase ?_
  · intro u hu
    obtain ⟨y, _, hy⟩ := List.mem_flatMap.1 hu
    exact h1 y u hy
  · calc (L.length + M.length) * bytes ≤ 2 ^ 30 * 1000 := Nat.mul_le_mul hlen hbytes
      _ ≤ 140737488355328 := by decide
  · intro v' w' h2 h3 h4
    refine h v' w' ?_ h3 h4
    unfold OwnR
    rw [List.length_append, List.flatMap_append]
    exact h2
theorem rows_take {α : Type} {C : Nat} {cells : α → List Value} {w : World} {B : Nat} {A : Option Addr} {M : List α} (hM : RowsAt C cells w B A M) (n : Nat) : RowsAt C cells w B A (M.take n) := by
  intro h0
  rw [List.length_take] at h0
  obtain ⟨b, o, e, hb, hc⟩ := hM (by omega)
  refine ⟨b, o, e, hb, fun k hk i u hi hu => ?_⟩
  rw [List.length_take] at hk
  rw [List.getElem_take] at hu
  exact hc k (by omega) i u hi hu

end Go.Proofs.YtpnbibokddhheaaGreat

/-
  Edges, leaves, hops and vertices: their cells, their order, as keys of maps.
-/
namespace Go.Proofs.YtpnbibokddhheaaGreat
open Go.RowKit

structure Ed where
  fk : Int
  fi : Int
  tk : Int
  ti : Int
  cost : Int
deriving DecidableEq
structure Lf where
  router : Int
  lan : Int
  cost : Int
deriving DecidableEq
instance : Inhabited Ed := ⟨⟨0, 0, 0, 0, 0⟩⟩
instance : Inhabited Lf := ⟨⟨0, 0, 0⟩⟩

def ltE (a b : Ed) : Prop := a.fk < b.fk ∨ (a.fk = b.fk ∧ (a.fi < b.fi ∨ (a.fi = b.fi ∧ (a.tk < b.tk ∨ (a.tk = b.tk ∧ a.ti < b.ti)))))
def ltF (a b : Lf) : Prop := a.router < b.router ∨ (a.router = b.router ∧ a.lan < b.lan)
theorem sorted_ext {α : Type} {R : α → α → Prop} (irr : ∀ a, ¬ R a a) (asy : ∀ a b, R a b → ¬ R b a) : ∀ {L M : List α}, L.Pairwise R → M.Pairwise R → (∀ e, e ∈ L ↔ e ∈ M) → L = M
  | [], [], _, _, _ => rfl
  | [], b :: M, _, _, h => absurd ((h b).2 (by simp)) (by simp)
  | a :: L, [], _, _, h => absurd ((h a).1 (by simp)) (by simp)
  | a :: L, b :: M, h1, h2, h => by
    rw [List.pairwise_cons] at h1 h2
    have hab : a = b := by
      rcases List.mem_cons.1 ((h a).1 (by simp)) with e | ha
      · exact e
      · rcases List.mem_cons.1 ((h b).2 (by simp)) with e | hb
        · exact e.symm
        · exact absurd (h1.1 b hb) (asy _ _ (h2.1 a ha))
    subst hab
    rw [sorted_ext irr asy h1.2 h2.2 fun e => ?_]
    constructor
    · intro he
      rcases List.mem_cons.1 ((h e).1 (by simp [he])) with rfl | g
      · exact absurd (h1.1 e he) (irr e)
      · exact g
    · intro he
      rcases List.mem_cons.1 ((h e).2 (by simp [he])) with rfl | g
      · exact absurd (h2.1 e he) (irr e)
      · exact g
theorem ltE_irr (a : Ed) : ¬ ltE a a := by unfold ltE; omega
theorem ltE_asy (a b : Ed) : ltE a b → ¬ ltE b a := by unfold ltE; omega
theorem ltF_irr (a : Lf) : ¬ ltF a a := by unfold ltF; omega
theorem ltF_asy (a b : Lf) : ltF a b → ¬ ltF b a := by unfold ltF; omega
def Ed.cells (e : Ed) : List Value := [.int .i64 e.fk, .int .i64 e.fi, .int .i64 e.tk, .int .i64 e.ti, .int .i64 e.cost]
def Lf.cells (e : Lf) : List Value := [.int .i64 e.router, .int .i64 e.lan, .int .i64 e.cost]
theorem onesE (x : Ed) : ∀ u ∈ Ed.cells x, u.oneCell' = true := by
  intro u hu
  simp [Ed.cells] at hu
  rcases hu with rfl | rfl | rfl | rfl | rfl <;> rfl
theorem onesF (x : Lf) : ∀ u ∈ Lf.cells x, u.oneCell' = true := by
  intro u hu
  simp [Lf.cells] at hu
  rcases hu with rfl | rfl | rfl <;> rfl
structure Hp where
  lan : Int
  id : Int
deriving DecidableEq
def Hp.cells (k : Hp) : List Value := [.int .i64 k.lan, .int .i64 k.id]
def Hp.enc (k : Hp) : Value := .agg #[.int .i64 k.lan, .int .i64 k.id]
theorem eqV2_n (n : Nat) (a b a' b' : Int) (w : World) : (Op.equalIn (n + 1 + 1) 39 (.agg #[.int .i64 a, .int .i64 b]) (.agg #[.int .i64 a', .int .i64 b'])).run Tryz.prog w = .ok (a == a' && b == b') w := by
  have hS : Tryz.prog.underlying 39 = some (.struct (Tryz.prog.fieldsOf 39)) := by kernel_rfl
  have hp : Tryz.prog.stoodInHeld 39 = false := by kernel_rfl
  rw [run_equalIn_struct w (n + 1) 39 _ _ hS hp]
  simp only [Program.fieldsOf, Tryz.underlying39]
  go_simp
  by_cases h1 : a = a' <;> by_cases h2 : b = b' <;> simp [h1, h2]
theorem eqHp_n (n : Nat) (a b a' b' : Int) (w : World) : (Op.equalIn (n + 1 + 1) 95 (.agg #[.int .i64 a, .int .i64 b]) (.agg #[.int .i64 a', .int .i64 b'])).run Tryz.prog w = .ok (a == a' && b == b') w := by
  have hS : Tryz.prog.underlying 95 = some (.struct (Tryz.prog.fieldsOf 95)) := by kernel_rfl
  have hp : Tryz.prog.stoodInHeld 95 = false := by kernel_rfl
  rw [run_equalIn_struct w (n + 1) 95 _ _ hS hp]
  simp only [Program.fieldsOf, Tryz.underlying95]
  go_simp
  by_cases h1 : a = a' <;> by_cases h2 : b = b' <;> simp [h1, h2]
theorem eqHp (a b : Hp) (w : World) : (Op.equal 95 a.enc b.enc).run Tryz.prog w = .ok (decide (a = b)) w := by
  obtain ⟨a1, a2⟩ := a
  obtain ⟨b1, b2⟩ := b
  refine (eqHp_n 9998 a1 a2 b1 b2 w).trans ?_
  by_cases h1 : a1 = b1 <;> by_cases h2 : a2 = b2 <;> simp [h1, h2]
theorem checkV2_n (n : Nat) (e : Bool) (a b : Int) (w : World) : (Instr.checkKey e (n + 1 + 1) 39 (.agg #[.int .i64 a, .int .i64 b])).run Tryz.prog w = .ok () w := by
  have hc : ∀ x w, (Instr.checkKey e (n + 1) 3 (.int .i64 x)).run Tryz.prog w = .ok () w := fun x w => checkInt e n x w
  rw [Instr.checkKey]
  simp only [Sem.run_bind, run_underlying Tryz.underlying39, Result.andThen_ok]
  rw [← Array.forIn_toList]
  go_simp
theorem checkHp_n (n : Nat) (e : Bool) (a b : Int) (w : World) : (Instr.checkKey e (n + 1 + 1) 95 (.agg #[.int .i64 a, .int .i64 b])).run Tryz.prog w = .ok () w := by
  have hc : ∀ x w, (Instr.checkKey e (n + 1) 3 (.int .i64 x)).run Tryz.prog w = .ok () w := fun x w => checkInt e n x w
  rw [Instr.checkKey]
  simp only [Sem.run_bind, run_underlying Tryz.underlying95, Result.andThen_ok]
  rw [← Array.forIn_toList]
  go_simp
theorem sameHp (k : Hp) : Instr.sameBits 10000 k.enc k.enc = true := by
  rw [show (10000 : Nat) = 9999 + 1 from rfl, Hp.enc, Instr.sameBits]
  simp only [beq_self_eq_true, Bool.true_and]
  exact sameBits_agg _ _ fun v hv => by
    simp at hv
    rcases hv with rfl | rfl <;> exact sameBits_int _ _
theorem Hp.enc_inj (a b : Hp) (h : a.enc = b.enc) : a = b := by
  obtain ⟨a1, a2⟩ := a
  obtain ⟨b1, b2⟩ := b
  simp [Hp.enc] at h
  simp [h]
theorem keyHp : KeyOk Tryz.prog 95 Hp.enc := KeyOk.of_struct Tryz.underlying95 eqHp (fun e _k w => checkHp_n 9998 e _ _ w) sameHp Hp.enc_inj
def encI (k : Int) : Value := .int .i64 k
theorem findNow_int (k : Int) : ∀ (l : List MapEntry) (L : List (Int × Value)) (i : Nat), entE l = entL encI L → Instr.findNow (.int .i64) (encI k) l i = some (look k L i)
  | [], [], _, _ => rfl
  | [], e :: L, _, h => by simp [entE, entL] at h
  | x :: l, [], _, h => by simp [entE, entL] at h
  | x :: l, e :: L, i, h => by
    simp only [entE, entL, List.map_cons, List.cons.injEq, Prod.mk.injEq] at h
    obtain ⟨⟨h1, h2⟩, h3⟩ := h
    have ih := findNow_int k l L (i + 1) h3
    unfold Instr.findNow look
    rw [h1, h2]
    unfold encI Instr.sameNow at *
    by_cases he : e.1 = k
    · subst he
      simp
    · have he2 : ¬ k = e.1 := fun e => he e.symm
      simp only [if_true, he, if_false]
      have : (k == e.1) = false := by simpa using he2
      rw [this]
      exact ih
theorem keyInt : KeyOk Tryz.prog 3 encI where
  find := fun k l L w h => by
    have hj := findNow_int k l L 0 h
    simp only [Instr.findKey, Sem.run_bind, run_underlying Tryz.underlying3, Result.andThen_ok]
    rw [hj]
    rfl
  check := fun e k w => checkInt e 9999 k w
  same := fun k => sameBits_int _ _
  inj := fun a b h => by unfold encI at h; injection h
theorem getL_set {κ : Type} [DecidableEq κ] (k k' : κ) (v : Value) : ∀ S : List (κ × Value), getL k (setL k' v S) = if k = k' then some v else getL k S
  | [] => by
    unfold setL getL
    by_cases h : k = k'
    · simp [h]
    · simp [h, Ne.symm h, getL]
  | e :: S => by
    have ih := getL_set k k' v S
    unfold setL
    by_cases h1 : e.1 = k'
    · rw [if_pos h1]
      by_cases h2 : k = k'
      · simp [getL, h2]
      · have h3 : ¬ e.1 = k := fun e' => h2 (by rw [← e', h1])
        have h4 : ¬ k' = k := fun e' => h2 e'.symm
        simp [getL, h2, h3, h4]
    · rw [if_neg h1]
      unfold getL
      by_cases h2 : e.1 = k
      · have h3 : ¬ k = k' := fun e' => h1 (by rw [h2, e'])
        simp [h2, h3]
      · simp [h2, ih]

theorem infoE : (Tryz.prog.info? 133).map (fun i => (i.zero, i.size, i.bytes)) = some (some (.agg #[.int .i64 0, .int .i64 0, .int .i64 0, .int .i64 0, .int .i64 0]), 5, 40) := by kernel_rfl
theorem rowsE_of_blk {w : World} {g B : Nat} {t : TypeId} {L : List Ed} (h : Blk w g t (L.flatMap Ed.cells).toArray) (hB : g < B) : RowsAt 5 Ed.cells w B (some ⟨g, 0, none⟩) L := by
  intro _
  refine ⟨g, 0, rfl, hB, fun k hk i u hi hu => ?_⟩
  rw [show 0 + k * 5 + i = k * 5 + i by omega, h.cell, List.getElem?_toArray, flatR Ed.cells 5 (fun _ => rfl) L k i hk hi]
  exact hu
theorem eqE_n (n : Nat) (a b c d e a' b' c' d' e' : Int) (w : World) : (Op.equalIn (n + 1 + 1 + 1) 133 (.agg #[.int .i64 a, .int .i64 b, .int .i64 c, .int .i64 d, .int .i64 e]) (.agg #[.int .i64 a', .int .i64 b', .int .i64 c', .int .i64 d', .int .i64 e'])).run Tryz.prog w = .ok (a == a' && b == b' && c == c' && d == d' && e == e') w := by
  have hS : Tryz.prog.underlying 133 = some (.struct (Tryz.prog.fieldsOf 133)) := by kernel_rfl
  have hp : Tryz.prog.stoodInHeld 133 = false := by kernel_rfl
  rw [run_equalIn_struct w (n + 1 + 1) 133 _ _ hS hp]
  simp only [Program.fieldsOf, Tryz.underlying133]
  have hv := eqV2_n n
  go_simp
  by_cases h1 : a = a' <;> by_cases h2 : b = b' <;> by_cases h3 : c = c' <;> by_cases h4 : d = d' <;> by_cases h5 : e = e' <;> simp [h1, h2, h3, h4, h5]
theorem eqE_same (x : Ed) (w : World) : (Op.equalIn 10000 133 (.agg #[.int .i64 x.fk, .int .i64 x.fi, .int .i64 x.tk, .int .i64 x.ti, .int .i64 x.cost]) (.agg #[.int .i64 x.fk, .int .i64 x.fi, .int .i64 x.tk, .int .i64 x.ti, .int .i64 x.cost])).run Tryz.prog w = .ok true w := by
  refine (eqE_n 9997 _ _ _ _ _ _ _ _ _ _ w).trans ?_
  simp
theorem row_ed {w : World} {B : Nat} {A : Option Addr} {l : List Ed} (h : RowsAt 5 Ed.cells w B A l) (k : Nat) (hk : k < l.length) :
    ∃ b o, A = some ⟨b, o, none⟩ ∧ b < B ∧ w.cell? ⟨b, o + k * 5, none⟩ = some (.int .i64 l[k].fk) ∧ w.cell? ⟨b, o + k * 5 + 1, none⟩ = some (.int .i64 l[k].fi) ∧ w.cell? ⟨b, o + k * 5 + 2, none⟩ = some (.int .i64 l[k].tk) ∧ w.cell? ⟨b, o + k * 5 + 3, none⟩ = some (.int .i64 l[k].ti) ∧ w.cell? ⟨b, o + k * 5 + 4, none⟩ = some (.int .i64 l[k].cost) := by
  obtain ⟨b, o, e, hb, hc⟩ := h (by omega)
  exact ⟨b, o, e, hb, by simpa using hc k hk 0 _ (by omega) rfl, hc k hk 1 _ (by omega) rfl, hc k hk 2 _ (by omega) rfl, hc k hk 3 _ (by omega) rfl, hc k hk 4 _ (by omega) rfl⟩
theorem row_lf {w : World} {B : Nat} {A : Option Addr} {l : List Lf} (h : RowsAt 3 Lf.cells w B A l) (k : Nat) (hk : k < l.length) :
    ∃ b o, A = some ⟨b, o, none⟩ ∧ b < B ∧ w.cell? ⟨b, o + k * 3, none⟩ = some (.int .i64 l[k].router) ∧ w.cell? ⟨b, o + k * 3 + 1, none⟩ = some (.int .i64 l[k].lan) ∧ w.cell? ⟨b, o + k * 3 + 2, none⟩ = some (.int .i64 l[k].cost) := by
  obtain ⟨b, o, e, hb, hc⟩ := h (by omega)
  exact ⟨b, o, e, hb, by simpa using hc k hk 0 _ (by omega) rfl, hc k hk 1 _ (by omega) rfl, hc k hk 2 _ (by omega) rfl⟩

/-- a vertex -/
structure Vx where
  kind : Int
  id : Int
deriving DecidableEq
def Vx.enc (v : Vx) : Value := .agg #[.int .i64 v.kind, .int .i64 v.id]
theorem eqVx (a b : Vx) (w : World) : (Op.equal 39 a.enc b.enc).run Tryz.prog w = .ok (decide (a = b)) w := by
  obtain ⟨a1, a2⟩ := a
  obtain ⟨b1, b2⟩ := b
  refine (eqV2_n 9998 a1 a2 b1 b2 w).trans ?_
  by_cases h1 : a1 = b1 <;> by_cases h2 : a2 = b2 <;> simp [h1, h2]
theorem eqVxN (a b a' b' : Int) (w : World) : (Op.equalIn 10000 39 (.agg #[.int .i64 a, .int .i64 b]) (.agg #[.int .i64 a', .int .i64 b'])).run Tryz.prog w = .ok (decide ((⟨a, b⟩ : Vx) = ⟨a', b'⟩)) w := eqVx ⟨a, b⟩ ⟨a', b'⟩ w
theorem eqHpN (a b a' b' : Int) (w : World) : (Op.equalIn 10000 95 (.agg #[.int .i64 a, .int .i64 b]) (.agg #[.int .i64 a', .int .i64 b'])).run Tryz.prog w = .ok (decide ((⟨a, b⟩ : Hp) = ⟨a', b'⟩)) w := eqHp ⟨a, b⟩ ⟨a', b'⟩ w
theorem sameVx (k : Vx) : Instr.sameBits 10000 k.enc k.enc = true := by
  rw [show (10000 : Nat) = 9999 + 1 from rfl, Vx.enc, Instr.sameBits]
  simp only [beq_self_eq_true, Bool.true_and]
  exact sameBits_agg _ _ fun v hv => by
    simp at hv
    rcases hv with rfl | rfl <;> exact sameBits_int _ _
theorem Vx.enc_inj (a b : Vx) (h : a.enc = b.enc) : a = b := by
  obtain ⟨a1, a2⟩ := a
  obtain ⟨b1, b2⟩ := b
  simp [Vx.enc] at h
  simp [h]
theorem keyVx : KeyOk Tryz.prog 39 Vx.enc := KeyOk.of_struct Tryz.underlying39 eqVx (fun e _k w => checkV2_n 9998 e _ _ w) sameVx Vx.enc_inj

end Go.Proofs.YtpnbibokddhheaaGreat
