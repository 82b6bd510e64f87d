/-
  flood.over: how a description goes on one network.
-/
import Derived.Test.YtmjjmkdjjfmhhaaFlA
import Derived.Test.YtmjjmkdjjfmhhaaAppInt
namespace Go.Proofs.Ytmjjmkdjjfmhhaa
open Go.RowKit

structure Spr where
  lan : Int
  listed : List Int
  sent : Bool
  to : Int
def goesB (hs : Peer → Bool) (came : Bool) (fr : Int) (p : Peer) : Bool := decide (4 ≤ p.state) && !(came && p.id == fr) && !hs p
def listedL (hs : Peer → Bool) (came : Bool) (fr : Int) (l : List Peer) : List Int := (l.filter (goesB hs came fr)).map Peer.id
def toldB (came : Bool) (fr dr bdr st : Int) : Bool := came && (fr == dr || fr == bdr || st == 3)
def overS (hs : Peer → Bool) (came : Bool) (fr : Int) (v : Viw) : Spr :=
  let l := listedL hs came fr v.peers
  let s := decide (0 < l.length) && !toldB came fr v.dr v.bdr v.state
  ⟨v.lan, l, s, if s = true then destI v.state else 0⟩
theorem listed_succ (hs : Peer → Bool) (came : Bool) (fr : Int) (l : List Peer) (k : Nat) (hk : k < l.length) :
    listedL hs came fr (l.take (k + 1)) = listedL hs came fr (l.take k) ++ (if goesB hs came fr l[k] = true then [l[k].id] else []) := by
  unfold listedL
  rw [List.take_succ_eq_append_getElem hk, List.filter_append, List.map_append]
  congr 1
  by_cases h : goesB hs came fr l[k] = true <;> simp [h]
theorem listed_len (hs : Peer → Bool) (came : Bool) (fr : Int) (l : List Peer) : (listedL hs came fr l).length ≤ l.length := by
  unfold listedL; rw [List.length_map]; exact List.length_filter_le _ _
theorem goes_cases (hs : Peer → Bool) (came : Bool) (fr : Int) (p : Peer) :
    (¬4 ≤ p.state ∧ goesB hs came fr p = false) ∨
    (4 ≤ p.state ∧ came = true ∧ (p.id == fr) = true ∧ goesB hs came fr p = false) ∨
    (4 ≤ p.state ∧ came = true ∧ (p.id == fr) = false ∧ hs p = true ∧ goesB hs came fr p = false) ∨
    (4 ≤ p.state ∧ came = true ∧ (p.id == fr) = false ∧ hs p = false ∧ goesB hs came fr p = true) ∨
    (4 ≤ p.state ∧ came = false ∧ hs p = true ∧ goesB hs came fr p = false) ∨
    (4 ≤ p.state ∧ came = false ∧ hs p = false ∧ goesB hs came fr p = true) := by
  unfold goesB
  by_cases h : 4 ≤ p.state <;> cases came <;> cases (p.id == fr) <;> cases hs p <;> simp [h]

def Hd.row (h : Hd) : Array Value := #[.int .i64 h.age, .int .i64 h.kind, .int .i64 h.id, .int .i64 h.adv, .int .i64 h.seq, .int .i64 h.sum, .int .i64 h.long]

/-- Where the loop stands. -/
structure OvAt (w wr : World) (hr vr : Array Value) (lan : Int) (sv : Value) (l : List Int) (b : Bool) (to : Int) : Prop where
  h : Blk wr w.heap.size 23 hr
  v : Blk wr (w.heap.size + 1) 104 vr
  r : Blk wr (w.heap.size + 2) 106 #[.int .i64 0, .slice none 0 0, .bool false, .int .i64 0]
  s : Blk wr (w.heap.size + 3) 106 #[.int .i64 lan, sv, .bool b, .int .i64 to]
  own : OwnI wr (w.heap.size + 4) sv l
  bel : Below w.heap.size w wr
  size : w.heap.size + 4 ≤ wr.heap.size
theorem ov_start (w : World) (hr vr : Array Value) (lan : Int) :
    OvAt w ((((w.alloc (.cells hr 23)).alloc (.cells vr 104)).alloc (.cells #[.int .i64 0, .slice none 0 0, .bool false, .int .i64 0] 106)).alloc (.cells #[.int .i64 lan, .slice none 0 0, .bool false, .int .i64 0] 106)) hr vr lan (.slice none 0 0) [] false 0 where
  h := (((Blk.new w _ hr).alloc _).alloc _).alloc _
  v := ((Blk.size (w := w.alloc (.cells hr 23)) (by simp)).alloc _).alloc _
  r := (Blk.size (w := (w.alloc (.cells hr 23)).alloc (.cells vr 104)) (by simp)).alloc _
  s := Blk.size (by simp)
  own := OwnI.nil _ _
  bel := (((Below.refl _ _).alloc (Nat.le_refl _) _).alloc (by simp) _).alloc (by simp; omega) _ |>.alloc (by simp; omega) _
  size := by simp
section
variable {w wr w' : World} {hr vr : Array Value} {lan : Int} {sv : Value} {l : List Int} {b : Bool} {to : Int}
theorem OvAt.below (h : OvAt w wr hr vr lan sv l b to) (hb : Below wr.heap.size wr w') : OvAt w w' hr vr lan sv l b to where
  h := h.h.below hb h.h.lt
  v := h.v.below hb h.v.lt
  r := h.r.below hb h.r.lt
  s := h.s.below hb h.s.lt
  own := h.own.below hb
  bel := h.bel.trans (hb.mono h.bel.size)
  size := Nat.le_trans h.size hb.size
theorem OvAt.alloc (h : OvAt w wr hr vr lan sv l b to) (o : Obj) : OvAt w (wr.alloc o) hr vr lan sv l b to := h.below ((Below.refl _ _).alloc (Nat.le_refl _) o)
/-- one more is listed -/
theorem OvAt.app (h : OvAt w wr hr vr lan sv l b to) {sv' : Value} {x : Int} (hown : OwnI w' (w.heap.size + 4) sv' (l ++ [x])) (hg : wr.grownBy w' sv.ownBlock) :
    Blk w' (w.heap.size + 3) 106 #[.int .i64 lan, sv, .bool b, .int .i64 to] ∧ OvAt w (w'.setCell ⟨w.heap.size + 3, 1, none⟩ sv') hr vr lan sv' (l ++ [x]) b to := by
  have hk := h.own.block
  have hk' := hown.block
  have hs := h.size
  have hsz := hg.size
  have n : ∀ j, j < w.heap.size + 4 → some j ≠ sv.ownBlock := fun j hj e => by have := hk j e.symm; omega
  have b3 := h.s.grown hg (n _ (by omega))
  refine ⟨b3, (h.h.grown hg (n _ (by omega))).far (by simp) _, (h.v.grown hg (n _ (by omega))).far (by simp) _, (h.r.grown hg (n _ (by omega))).far (by simp) _, by simpa using b3.set_ 1 sv', ?_, ?_, ?_⟩
  · refine hown.kept (row := some (w.heap.size + 3)) ⟨rfl, rfl, rfl, by simp, fun k _ hne => Below.heap_setCell w' _ _ k (fun e => hne (by rw [e]))⟩ ?_
    rcases hv : sv'.ownBlock with _ | k
    · exact .inl rfl
    · right
      intro e
      injection e with e
      have := hk' k hv
      omega
  · exact (h.bel.grown hg h.bel.size (fun k e => by have := hk k e; omega)).setCell (by simp) _
  · simp; omega
theorem OwnI.set_ {w : World} {B : Nat} {v : Value} {l : List Int} (h : OwnI w B v l) {p : Addr} (hp : p.block < B) (u : Value) : OwnI (w.setCell p u) B v l := by
  refine h.kept (row := some p.block) ⟨rfl, rfl, rfl, by simp, fun k _ hne => Below.heap_setCell w p u k (fun e => hne (by rw [e]))⟩ ?_
  rcases hv : v.ownBlock with _ | k
  · exact .inl rfl
  · right
    intro e
    injection e with e
    have := (h.block k hv).1
    omega
theorem OvAt.sent (h : OvAt w wr hr vr lan sv l b to) (b' : Bool) : ∃ w1, wr.setCell ⟨w.heap.size + 3, 2, none⟩ (.bool b') = w1 ∧ OvAt w w1 hr vr lan sv l b' to :=
  ⟨_, rfl, h.h.far (by simp) _, h.v.far (by simp) _, h.r.far (by simp) _, by simpa using h.s.set_ 2 (.bool b'), h.own.set_ (by simp) _, h.bel.setCell (by simp) _, by simpa using h.size⟩
theorem OvAt.to_ (h : OvAt w wr hr vr lan sv l b to) (t' : Int) : ∃ w1, wr.setCell ⟨w.heap.size + 3, 3, none⟩ (.int .i64 t') = w1 ∧ OvAt w w1 hr vr lan sv l b t' :=
  ⟨_, rfl, h.h.far (by simp) _, h.v.far (by simp) _, h.r.far (by simp) _, by simpa using h.s.set_ 3 (.int .i64 t'), h.own.set_ (by simp) _, h.bel.setCell (by simp) _, by simpa using h.size⟩
end

theorem Blk.cells7 {w : World} {g : Nat} {t : TypeId} {a b c d e f x : Value} (h : Blk w g t #[a, b, c, d, e, f, x]) : w.cell? ⟨g, 0, none⟩ = some a ∧ w.cell? ⟨g, 1, none⟩ = some b ∧ w.cell? ⟨g, 2, none⟩ = some c ∧ w.cell? ⟨g, 3, none⟩ = some d ∧ w.cell? ⟨g, 4, none⟩ = some e ∧ w.cell? ⟨g, 5, none⟩ = some f ∧ w.cell? ⟨g, 6, none⟩ = some x :=
  ⟨h.cell 0, h.cell 1, h.cell 2, h.cell 3, h.cell 4, h.cell 5, h.cell 6⟩
theorem Blk.cells9 {w : World} {g : Nat} {t : TypeId} {a b c d e f x y z : Value} (h : Blk w g t #[a, b, c, d, e, f, x, y, z]) : w.cell? ⟨g, 0, none⟩ = some a ∧ w.cell? ⟨g, 1, none⟩ = some b ∧ w.cell? ⟨g, 2, none⟩ = some c ∧ w.cell? ⟨g, 3, none⟩ = some d ∧ w.cell? ⟨g, 4, none⟩ = some e ∧ w.cell? ⟨g, 5, none⟩ = some f ∧ w.cell? ⟨g, 6, none⟩ = some x ∧ w.cell? ⟨g, 7, none⟩ = some y ∧ w.cell? ⟨g, 8, none⟩ = some z :=
  ⟨h.cell 0, h.cell 1, h.cell 2, h.cell 3, h.cell 4, h.cell 5, h.cell 6, h.cell 7, h.cell 8⟩
theorem ov_peer {w wr : World} {hr vr : Array Value} {lan : Int} {sv : Value} {l : List Int} {b : Bool} {to : Int} (h : OvAt w wr hr vr lan sv l b to) (ps : Array Value) :
    ∃ wp gp, wr.heap.size = gp ∧ wr.alloc (.cells ps 100) = wp ∧ OvAt w wp hr vr lan sv l b to ∧ Blk wp gp 100 ps :=
  ⟨_, _, rfl, rfl, h.alloc _, Blk.new _ _ _⟩
theorem ov_end {w w4 : World} {hr vr : Array Value} {lan : Int} {sv : Value} {l : List Int} {b : Bool} {to : Int} (h : OvAt w w4 hr vr lan sv l b to) (x y z u : Value) :
    OwnI ((((w4.setCell ⟨w.heap.size + 1 + 1, 0, none⟩ x).setCell ⟨w.heap.size + 1 + 1, 1, none⟩ y).setCell ⟨w.heap.size + 1 + 1, 2, none⟩ z).setCell ⟨w.heap.size + 1 + 1, 3, none⟩ u) w.heap.size sv l ∧
    Below w.heap.size w ((((w4.setCell ⟨w.heap.size + 1 + 1, 0, none⟩ x).setCell ⟨w.heap.size + 1 + 1, 1, none⟩ y).setCell ⟨w.heap.size + 1 + 1, 2, none⟩ z).setCell ⟨w.heap.size + 1 + 1, 3, none⟩ u) :=
  ⟨((((h.own.set_ (by simp) _).set_ (by simp) _).set_ (by simp) _).set_ (by simp) _).lower (by omega), (((h.bel.setCell (by simp; omega) _).setCell (by simp; omega) _).setCell (by simp; omega) _).setCell (by simp; omega) _⟩
theorem told_cases (came : Bool) (fr dr bdr st : Int) : (came = false ∧ toldB came fr dr bdr st = false) ∨ (came = true ∧ (fr == dr) = true ∧ toldB came fr dr bdr st = true) ∨ (came = true ∧ (fr == dr) = false ∧ (fr == bdr) = true ∧ toldB came fr dr bdr st = true) ∨
    (came = true ∧ (fr == dr) = false ∧ (fr == bdr) = false ∧ (st == 3) = true ∧ toldB came fr dr bdr st = true) ∨ (came = true ∧ (fr == dr) = false ∧ (fr == bdr) = false ∧ (st == 3) = false ∧ toldB came fr dr bdr st = false) := by
  unfold toldB
  cases came <;> cases (fr == dr) <;> cases (fr == bdr) <;> cases (st == 3) <;> simp

set_option maxHeartbeats 4000000 in
set_option maxRecDepth 100000 in
theorem over_any (hs : Peer → Bool) (age kind hid adv seq sum long : Int) (came : Bool) (fr lan cost self prio state dr bdr : Int) (pa : Option Addr) (pcap : Nat) (peers : List Peer) (wa : Option Addr) (wcap : Nat) (wants : List Wnt)
    (w : World) (B : Nat) (hok : RowsAt 7 Peer.cells w B pa peers) (hB : B ≤ w.heap.size) (hlen : peers.length ≤ 1000)
    (hhas : ∀ p ∈ peers, ∀ w', Below w.heap.size w w' → Calls Try.prog 123 #[.agg #[.int .i64 age, .int .i64 kind, .int .i64 hid, .int .i64 adv, .int .i64 seq, .int .i64 sum, .int .i64 long], p.val, .slice wa wants.length wcap] w' fun r w'' => r = .returned (.bool (hs p)) ∧ Below w'.heap.size w' w'')
    {L : List Int} {sent : Bool} {to : Int} (hS : overS hs came fr ⟨lan, cost, self, prio, state, dr, bdr, pa, pcap, peers, wa, wcap, wants⟩ = ⟨lan, L, sent, to⟩) :
    Calls Try.prog 95 #[.agg #[.int .i64 age, .int .i64 kind, .int .i64 hid, .int .i64 adv, .int .i64 seq, .int .i64 sum, .int .i64 long], .bool came, .int .i64 fr,
        .agg #[.int .i64 lan, .int .i64 cost, .int .i64 self, .int .i64 prio, .int .i64 state, .int .i64 dr, .int .i64 bdr, .slice pa peers.length pcap, .slice wa wants.length wcap]] w
      fun r w' => ∃ sv, r = .returned (.agg #[.int .i64 lan, sv, .bool sent, .int .i64 to]) ∧ OwnI w' w.heap.size sv L ∧ Below w.heap.size w w' := by
  have hSl : listedL hs came fr peers = L := congrArg Spr.listed hS
  have hSs : (decide (0 < (listedL hs came fr peers).length) && !toldB came fr dr bdr state) = sent := congrArg Spr.sent hS
  have hSt : (if (decide (0 < (listedL hs came fr peers).length) && !toldB came fr dr bdr state) = true then destI state else 0) = to := congrArg Spr.to hS
  rw [hSs] at hSt
  rw [hSl] at hSs
  have HSl := Lib.hid hSl
  have HSs := Lib.hid hSs
  have HSt := Lib.hid hSt
  clear hS hSl hSs hSt
  have Hok := Lib.hid (hok.more hB)
  have Hhas := Lib.hid hhas
  have Hst := Lib.hid (ov_start w #[.int .i64 age, .int .i64 kind, .int .i64 hid, .int .i64 adv, .int .i64 seq, .int .i64 sum, .int .i64 long] #[.int .i64 lan, .int .i64 cost, .int .i64 self, .int .i64 prio, .int .i64 state, .int .i64 dr, .int .i64 bdr, .slice pa peers.length pcap, .slice wa wants.length wcap] lan)
  clear hok hhas hB
  go_enter Try.func95, Try.ntmps95
  go_wp2
  go_loopw [19] (fun i wr => ∃ (j : Nat) (sv : Value), j ≤ peers.length ∧ i = .int .i64 j ∧ OvAt w wr #[.int .i64 age, .int .i64 kind, .int .i64 hid, .int .i64 adv, .int .i64 seq, .int .i64 sum, .int .i64 long] #[.int .i64 lan, .int .i64 cost, .int .i64 self, .int .i64 prio, .int .i64 state, .int .i64 dr, .int .i64 bdr, .slice pa peers.length pcap, .slice wa wants.length wcap] lan sv (listedL hs came fr (peers.take j)) false 0) (fun i _ => peers.length - (intOf i).toNat)
  case atStart => exact ⟨0, _, Nat.zero_le _, rfl, Hst.out⟩
  case round =>
    obtain ⟨j, sv, hj, rfl, hov⟩ := hrel
    by_cases hjt : j < peers.length
    · obtain ⟨b', o', rfl, hbB', x0, x1, x2, x3, x4, x5, x6⟩ := Peers.at_ (Hok.out.below hov.bel) j hjt
      have hsucc := listed_succ hs came fr peers j hjt
      have hmem := List.getElem_mem hjt
      have hll := listed_len hs came fr (peers.take j)
      rw [List.length_take] at hll
      generalize peers[j] = p at *
      generalize listedL hs came fr (peers.take j) = M at *
      have hgo := goes_cases hs came fr p
      generalize hhp : hs p = hp at *
      rcases p with ⟨pi, pp, pd, pb, ps, pt, pat⟩
      have hcall := fun w' hb => Hhas.out _ hmem w' hb
      rw [hhp] at hcall
      simp only [Peer.val] at hcall
      obtain ⟨wp, gp, hgp, hWp, hov1, hbp⟩ := ov_peer hov #[.int .i64 pi, .int .i64 pp, .int .i64 pd, .int .i64 pb, .int .i64 ps, .bool pt, .int .i64 pat]
      have Hcall := Lib.hid hcall
      have Hov := Lib.hid hov1
      have Hbp := Lib.hid hbp
      have Hsucc := Lib.hid hsucc
      have Hll := Lib.hid (show M.length ≤ 1000 by omega)
      have Hhp := Lib.hid hhp
      obtain ⟨c0, c1, c2, c3, c4, c5, c6⟩ := Blk.cells7 hov1.h
      obtain ⟨v0, v1, v2, v3, v4, v5, v6, v7, v8⟩ := Blk.cells9 hov1.v
      obtain ⟨s0, s1, s2, s3, f0, f1, f2, f3⟩ := Blk.cells4 hov1.s
      obtain ⟨y0, y1, y2, y3, y4, y5, y6⟩ := Blk.cells7 hbp
      clear hov hov1 hbp hcall hmem hsucc hll hbB' hhp
      simp only at hgo
      rcases hgo with ⟨g1, hg⟩ | ⟨g1, rfl, g3, hg⟩ | ⟨g1, rfl, g3, rfl, hg⟩ | ⟨g1, rfl, g3, rfl, hg⟩ | ⟨g1, rfl, rfl, hg⟩ | ⟨g1, rfl, rfl, hg⟩
      · have Hg := Lib.hid hg
        clear hg
        go_wp2
        go_roundw
        case measure => simp [intOf]; omega
        case rel => exact ⟨j + 1, _, hjt, by go_num, by rw [Hsucc.out, Hg.out]; simpa using Hov.out⟩
      · have Hg := Lib.hid hg
        clear hg
        go_wp2
        go_roundw
        case measure => simp [intOf]; omega
        case rel => exact ⟨j + 1, _, hjt, by go_num, by rw [Hsucc.out, Hg.out]; simpa using Hov.out⟩
      · have Hg := Lib.hid hg
        clear hg
        go_wp2_with (go_at_call 123; (with_reducible refine Calls.mono (Hcall.out _ Hov.out.bel) ?_); rintro r w2 ⟨rfl, hb2⟩; have hov2 := Hov.out.below hb2; have hbp2 := Hbp.out.below hb2 Hbp.out.lt; obtain ⟨s0, s1, s2, s3, f0, f1, f2, f3⟩ := Blk.cells4 hov2.s; obtain ⟨y0, y1, y2, y3, y4, y5, y6⟩ := Blk.cells7 hbp2; have Hov := Lib.hid hov2; have Hbp := Lib.hid hbp2; clear hb2 hov2 hbp2)
        go_roundw
        case measure => simp [intOf]; omega
        case rel => exact ⟨j + 1, _, hjt, by go_num, by rw [Hsucc.out, Hg.out]; simpa using Hov.out⟩
      · have Hg := Lib.hid hg
        clear hg
        go_wp2_with (first
          | (go_at_call 123; (with_reducible refine Calls.mono (Hcall.out _ Hov.out.bel) ?_); rintro r w2 ⟨rfl, hb2⟩; have hov2 := (Hov.out.below hb2).alloc (.cells #[.int .i64 pi] 3); have hbp2 := Hbp.out.below hb2 Hbp.out.lt; have hs2 := hov2.s; have hs3 := (Hov.out.below hb2).s; obtain ⟨s0, s1, s2, s3, f0, f1, f2, f3⟩ := Blk.cells4 hs3; obtain ⟨y0, y1, y2, y3, y4, y5, y6⟩ := Blk.cells7 hbp2; obtain ⟨z0, z1, z2, z3, j0, j1, j2, j3⟩ := Blk.cells4 hs2; have Hov := Lib.hid hov2; have Hbp := Lib.hid hbp2; clear hb2 hov2 hbp2 hs2 hs3)
          | (at_builtin; refine app_int rfl _ _ rfl (w.heap.size + 4) sv M rfl Hov.out.own w2.heap.size pi rfl ((Blk.new _ _ _).cell 0) (by have := Hll.out; omega) Hov.out.size ?_; intro sv' w5 hown5 hg5; have hap := Hov.out.app hown5 hg5; obtain ⟨A5, cap5, rfl⟩ := hown5.shape; obtain ⟨z0, z1, z2, z3, j0, j1, j2, j3⟩ := Blk.cells4 hap.1; have Hap := Lib.hid hap.2; clear hap hown5 hg5))
        go_roundw
        case measure => simp [intOf]; omega
        case rel => exact ⟨j + 1, _, hjt, by go_num, by rw [Hsucc.out, Hg.out]; simpa using Hap.out⟩
      · have Hg := Lib.hid hg
        clear hg
        go_wp2_with (go_at_call 123; (with_reducible refine Calls.mono (Hcall.out _ Hov.out.bel) ?_); rintro r w2 ⟨rfl, hb2⟩; have hov2 := Hov.out.below hb2; have hbp2 := Hbp.out.below hb2 Hbp.out.lt; obtain ⟨s0, s1, s2, s3, f0, f1, f2, f3⟩ := Blk.cells4 hov2.s; obtain ⟨y0, y1, y2, y3, y4, y5, y6⟩ := Blk.cells7 hbp2; have Hov := Lib.hid hov2; have Hbp := Lib.hid hbp2; clear hb2 hov2 hbp2)
        go_roundw
        case measure => simp [intOf]; omega
        case rel => exact ⟨j + 1, _, hjt, by go_num, by rw [Hsucc.out, Hg.out]; simpa using Hov.out⟩
      · have Hg := Lib.hid hg
        clear hg
        go_wp2_with (first
          | (go_at_call 123; (with_reducible refine Calls.mono (Hcall.out _ Hov.out.bel) ?_); rintro r w2 ⟨rfl, hb2⟩; have hov2 := (Hov.out.below hb2).alloc (.cells #[.int .i64 pi] 3); have hbp2 := Hbp.out.below hb2 Hbp.out.lt; have hs2 := hov2.s; have hs3 := (Hov.out.below hb2).s; obtain ⟨s0, s1, s2, s3, f0, f1, f2, f3⟩ := Blk.cells4 hs3; obtain ⟨y0, y1, y2, y3, y4, y5, y6⟩ := Blk.cells7 hbp2; obtain ⟨z0, z1, z2, z3, j0, j1, j2, j3⟩ := Blk.cells4 hs2; have Hov := Lib.hid hov2; have Hbp := Lib.hid hbp2; clear hb2 hov2 hbp2 hs2 hs3)
          | (at_builtin; refine app_int rfl _ _ rfl (w.heap.size + 4) sv M rfl Hov.out.own w2.heap.size pi rfl ((Blk.new _ _ _).cell 0) (by have := Hll.out; omega) Hov.out.size ?_; intro sv' w5 hown5 hg5; have hap := Hov.out.app hown5 hg5; obtain ⟨A5, cap5, rfl⟩ := hown5.shape; obtain ⟨z0, z1, z2, z3, j0, j1, j2, j3⟩ := Blk.cells4 hap.1; have Hap := Lib.hid hap.2; clear hap hown5 hg5))
        go_roundw
        case measure => simp [intOf]; omega
        case rel => exact ⟨j + 1, _, hjt, by go_num, by rw [Hsucc.out, Hg.out]; simpa using Hap.out⟩
    · have : j = peers.length := by omega
      subst this
      rw [List.take_length] at hov
      have hll := listed_len hs came fr peers
      have htc := told_cases came fr dr bdr state
      have hSs := HSs.out
      have hSt := HSt.out
      rw [HSl.out] at hll hov
      obtain ⟨told, ht⟩ : ∃ b, toldB came fr dr bdr state = b := ⟨_, rfl⟩
      rw [ht] at htc hSs
      obtain ⟨A1, cap1, rfl⟩ := hov.own.shape
      obtain ⟨c0, c1, c2, c3, c4, c5, c6⟩ := Blk.cells7 hov.h
      obtain ⟨v0, v1, v2, v3, v4, v5, v6, v7, v8⟩ := Blk.cells9 hov.v
      obtain ⟨s0, s1, s2, s3, f0, f1, f2, f3⟩ := Blk.cells4 hov.s
      have Hov := Lib.hid hov
      have hll3 : L.length ≤ 1000 := by omega
      clear hov ht hll
      obtain ⟨w1, hW1, hov1⟩ := Hov.out.sent sent
      obtain ⟨x0, x1, x2, x3, j0, j1, j2, j3⟩ := Blk.cells4 hov1.s
      obtain ⟨z0, z1, z2, z3, z4, z5, z6, z7, z8⟩ := Blk.cells9 hov1.v
      obtain ⟨o0, o1, o2, o3, i0, i1, i2, i3⟩ := Blk.cells4 hov1.r
      have Hov1 := Lib.hid hov1
      clear hov1
      by_cases h0 : 0 < L.length
      · have h0' : (0 : Int) < (L.length : Int) := by omega
        rw [decide_eq_true h0] at hSs
        rcases htc with ⟨rfl, rfl⟩ | ⟨rfl, t1, rfl⟩ | ⟨rfl, t1, t2, rfl⟩ | ⟨rfl, t1, t2, t3, rfl⟩ | ⟨rfl, t1, t2, t3, rfl⟩
        · simp at hSs; subst hSs
          rw [if_pos rfl] at hSt; subst hSt
          go_wp2_with (go_at_call 124; (with_reducible refine Calls.mono (dest_any _ _ _ _ _ _) ?_); rintro r w3 ⟨rfl, hb3⟩; have hov3 := Hov1.out.below hb3; obtain ⟨x0, x1, x2, x3, j0, j1, j2, j3⟩ := Blk.cells4 hov3.s; obtain ⟨w4, hW4, hov4⟩ := hov3.to_ (destI state); obtain ⟨q0, q1, q2, q3, m0, m1, m2, m3⟩ := Blk.cells4 hov4.s; obtain ⟨o0, o1, o2, o3, i0, i1, i2, i3⟩ := Blk.cells4 hov4.r; have Hov4 := Lib.hid hov4; clear hb3 hov3 hov4)
          refine bodyPost_ret (v := .agg #[.int .i64 lan, _, .bool true, .int .i64 (destI state)]) (by simp [results, Try.results95, go_sem, o0, o1, o2, o3]) rfl ⟨_, rfl, (ov_end Hov4.out _ _ _ _).1, (ov_end Hov4.out _ _ _ _).2⟩
        · simp at hSs; subst hSs
          rw [if_neg (by simp)] at hSt; subst hSt
          go_wp2
          refine bodyPost_ret (v := .agg #[.int .i64 lan, _, .bool false, .int .i64 0]) (by simp [results, Try.results95, go_sem, o0, o1, o2, o3]) rfl ⟨_, rfl, (ov_end Hov1.out _ _ _ _).1, (ov_end Hov1.out _ _ _ _).2⟩
        · simp at hSs; subst hSs
          rw [if_neg (by simp)] at hSt; subst hSt
          go_wp2
          refine bodyPost_ret (v := .agg #[.int .i64 lan, _, .bool false, .int .i64 0]) (by simp [results, Try.results95, go_sem, o0, o1, o2, o3]) rfl ⟨_, rfl, (ov_end Hov1.out _ _ _ _).1, (ov_end Hov1.out _ _ _ _).2⟩
        · simp at hSs; subst hSs
          rw [if_neg (by simp)] at hSt; subst hSt
          go_wp2
          refine bodyPost_ret (v := .agg #[.int .i64 lan, _, .bool false, .int .i64 0]) (by simp [results, Try.results95, go_sem, o0, o1, o2, o3]) rfl ⟨_, rfl, (ov_end Hov1.out _ _ _ _).1, (ov_end Hov1.out _ _ _ _).2⟩
        · simp at hSs; subst hSs
          rw [if_pos rfl] at hSt; subst hSt
          go_wp2_with (go_at_call 124; (with_reducible refine Calls.mono (dest_any _ _ _ _ _ _) ?_); rintro r w3 ⟨rfl, hb3⟩; have hov3 := Hov1.out.below hb3; obtain ⟨x0, x1, x2, x3, j0, j1, j2, j3⟩ := Blk.cells4 hov3.s; obtain ⟨w4, hW4, hov4⟩ := hov3.to_ (destI state); obtain ⟨q0, q1, q2, q3, m0, m1, m2, m3⟩ := Blk.cells4 hov4.s; obtain ⟨o0, o1, o2, o3, i0, i1, i2, i3⟩ := Blk.cells4 hov4.r; have Hov4 := Lib.hid hov4; clear hb3 hov3 hov4)
          refine bodyPost_ret (v := .agg #[.int .i64 lan, _, .bool true, .int .i64 (destI state)]) (by simp [results, Try.results95, go_sem, o0, o1, o2, o3]) rfl ⟨_, rfl, (ov_end Hov4.out _ _ _ _).1, (ov_end Hov4.out _ _ _ _).2⟩
      · have h0' : ¬(0 : Int) < (L.length : Int) := by omega
        rw [decide_eq_false h0] at hSs
        rcases htc with ⟨rfl, rfl⟩ | ⟨rfl, t1, rfl⟩ | ⟨rfl, t1, t2, rfl⟩ | ⟨rfl, t1, t2, t3, rfl⟩ | ⟨rfl, t1, t2, t3, rfl⟩
        · simp at hSs; subst hSs
          rw [if_neg (by simp)] at hSt; subst hSt
          go_wp2
          refine bodyPost_ret (v := .agg #[.int .i64 lan, _, .bool false, .int .i64 0]) (by simp [results, Try.results95, go_sem, o0, o1, o2, o3]) rfl ⟨_, rfl, (ov_end Hov1.out _ _ _ _).1, (ov_end Hov1.out _ _ _ _).2⟩
        · simp at hSs; subst hSs
          rw [if_neg (by simp)] at hSt; subst hSt
          go_wp2
          refine bodyPost_ret (v := .agg #[.int .i64 lan, _, .bool false, .int .i64 0]) (by simp [results, Try.results95, go_sem, o0, o1, o2, o3]) rfl ⟨_, rfl, (ov_end Hov1.out _ _ _ _).1, (ov_end Hov1.out _ _ _ _).2⟩
        · simp at hSs; subst hSs
          rw [if_neg (by simp)] at hSt; subst hSt
          go_wp2
          refine bodyPost_ret (v := .agg #[.int .i64 lan, _, .bool false, .int .i64 0]) (by simp [results, Try.results95, go_sem, o0, o1, o2, o3]) rfl ⟨_, rfl, (ov_end Hov1.out _ _ _ _).1, (ov_end Hov1.out _ _ _ _).2⟩
        · simp at hSs; subst hSs
          rw [if_neg (by simp)] at hSt; subst hSt
          go_wp2
          refine bodyPost_ret (v := .agg #[.int .i64 lan, _, .bool false, .int .i64 0]) (by simp [results, Try.results95, go_sem, o0, o1, o2, o3]) rfl ⟨_, rfl, (ov_end Hov1.out _ _ _ _).1, (ov_end Hov1.out _ _ _ _).2⟩
        · simp at hSs; subst hSs
          rw [if_neg (by simp)] at hSt; subst hSt
          go_wp2
          refine bodyPost_ret (v := .agg #[.int .i64 lan, _, .bool false, .int .i64 0]) (by simp [results, Try.results95, go_sem, o0, o1, o2, o3]) rfl ⟨_, rfl, (ov_end Hov1.out _ _ _ _).1, (ov_end Hov1.out _ _ _ _).2⟩

end Go.Proofs.Ytmjjmkdjjfmhhaa
