/-
  The reference's Over: how a description goes on one network.
-/
import Derived.Test.YtahgjfecffcknaaFlOver
import Derived.Test.YtahgjfecffcknaaFlOverL
namespace Go.Proofs.Ytahgjfecffcknaa
open Go.RowKit

set_option maxHeartbeats 400000 in
theorem atWork_any (a b c d e : Int) (t : Bool) (f : Int) (w : World) :
    Calls Try.prog 19 #[.agg #[.int .i64 a, .int .i64 b, .int .i64 c, .int .i64 d, .int .i64 e, .bool t, .int .i64 f]] w fun r w' => r = .returned (.bool (worksB ⟨a, b, c, d, e, t, f⟩)) ∧ Below w.heap.size w w' := by
  have hb0 : ∀ o, Below w.heap.size w (w.alloc o) := fun o => (Below.refl _ _).alloc (Nat.le_refl _) o
  have Hb0 := Lib.hid hb0
  clear hb0
  by_cases h4 : e = 4
  · subst h4
    go_enter Try.func19, Try.ntmps19
    go_wp2
    go_ret
    exact ⟨by simp [worksB], Hb0.out _⟩
  · go_enter Try.func19, Try.ntmps19
    go_wp2
    go_ret
    exact ⟨by simp [worksB], Hb0.out _⟩
def hasB (tl : Peer → Bool) (p : Peer) : Bool := worksB p && tl p
theorem refGoes_cases (tl : Peer → Bool) (came : Bool) (fr : Int) (p : Peer) :
    (p.state < 4 ∧ goesB (hasB tl) came fr p = false) ∨
    (¬p.state < 4 ∧ came = true ∧ (p.id == fr) = true ∧ goesB (hasB tl) came fr p = false) ∨
    (¬p.state < 4 ∧ came = true ∧ (p.id == fr) = false ∧ worksB p = false ∧ goesB (hasB tl) came fr p = true) ∨
    (¬p.state < 4 ∧ came = true ∧ (p.id == fr) = false ∧ worksB p = true ∧ tl p = false ∧ goesB (hasB tl) came fr p = true) ∨
    (¬p.state < 4 ∧ came = true ∧ (p.id == fr) = false ∧ worksB p = true ∧ tl p = true ∧ goesB (hasB tl) came fr p = false) ∨
    (¬p.state < 4 ∧ came = false ∧ worksB p = false ∧ goesB (hasB tl) came fr p = true) ∨
    (¬p.state < 4 ∧ came = false ∧ worksB p = true ∧ tl p = false ∧ goesB (hasB tl) came fr p = true) ∨
    (¬p.state < 4 ∧ came = false ∧ worksB p = true ∧ tl p = true ∧ goesB (hasB tl) came fr p = false) := by
  unfold goesB hasB
  by_cases h : p.state < 4
  · exact .inl ⟨h, by have : ¬4 ≤ p.state := by omega
                      simp [this]⟩
  · have h' : 4 ≤ p.state := by omega
    cases came <;> cases (p.id == fr) <;> cases worksB p <;> cases tl p <;> simp [h, h']
theorem refTold_cases (came : Bool) (fr dr bdr st : Int) : (came = false ∧ toldB came fr dr bdr st = false) ∨ (came = true ∧ (dr == fr) = true ∧ toldB came fr dr bdr st = true) ∨ (came = true ∧ (dr == fr) = false ∧ (bdr == fr) = true ∧ toldB came fr dr bdr st = true) ∨
    (came = true ∧ (dr == fr) = false ∧ (bdr == fr) = false ∧ (st == 3) = true ∧ toldB came fr dr bdr st = true) ∨ (came = true ∧ (dr == fr) = false ∧ (bdr == fr) = false ∧ (st == 3) = false ∧ toldB came fr dr bdr st = false) := by
  have e1 : (fr == dr) = (dr == fr) := by rw [Bool.eq_iff_iff, beq_iff_eq, beq_iff_eq]; exact eq_comm
  have e2 : (fr == bdr) = (bdr == fr) := by rw [Bool.eq_iff_iff, beq_iff_eq, beq_iff_eq]; exact eq_comm
  unfold toldB
  rw [e1, e2]
  cases came <;> cases (dr == fr) <;> cases (bdr == fr) <;> cases (st == 3) <;> simp
theorem dest_cases2 (c : Int) : ((c != 3) = false ∧ destI c = 0) ∨ ((c != 3) = true ∧ (c != 4) = false ∧ destI c = 0) ∨ ((c != 3) = true ∧ (c != 4) = true ∧ destI c = 16) := by
  unfold destI
  by_cases h3 : c = 3
  · exact .inl ⟨by simp [h3], by simp [h3]⟩
  · by_cases h4 : c = 4
    · exact .inr (.inl ⟨by simp [h3], by simp [h4], by simp [h4]⟩)
    · exact .inr (.inr ⟨by simp [h3], by simp [h4], by simp [h3, h4]⟩)

set_option maxHeartbeats 4000000 in
set_option maxRecDepth 100000 in
theorem refOver_any (tl : Peer → Bool) (age kind hid adv seq sum long : Int) (came : Bool) (lan0 fr lan cost self prio state dr bdr : Int) (pa : Option Addr) (pcap : Nat) (peers : List Peer) (wa : Option Addr) (wcap : Nat) (wants : List Wnt)
    (w : World) (B : Nat) (hok : RowsAt 7 Peer.cells w B pa peers) (hB : B ≤ w.heap.size) (hlen : peers.length ≤ 1000)
    (hcame : (0 < fr ∧ (lan0 == lan) = came) ∨ (¬0 < fr ∧ came = false))
    (hhas : ∀ p ∈ peers, ∀ w', Below w.heap.size w w' → Calls Try.prog 21 #[.agg #[.int .i64 age, .int .i64 kind, .int .i64 hid, .int .i64 adv, .int .i64 seq, .int .i64 sum, .int .i64 long], p.val, .slice wa wants.length wcap] w' fun r w'' => r = .returned (.bool (tl p)) ∧ Below w'.heap.size w' w'')
    {L : List Int} {sent : Bool} {to : Int} (hS : overS (hasB tl) came fr ⟨lan, cost, self, prio, state, dr, bdr, pa, pcap, peers, wa, wcap, wants⟩ = ⟨lan, L, sent, to⟩) :
    Calls Try.prog 14 #[.agg #[.int .i64 age, .int .i64 kind, .int .i64 hid, .int .i64 adv, .int .i64 seq, .int .i64 sum, .int .i64 long], .int .i64 lan0, .int .i64 fr,
        .agg #[.int .i64 lan, .int .i64 cost, .int .i64 self, .int .i64 prio, .int .i64 state, .int .i64 dr, .int .i64 bdr, .slice pa peers.length pcap, .slice wa wants.length wcap]] w
      fun r w' => ∃ sv, r = .returned (.agg #[.int .i64 lan, sv, .bool sent, .int .i64 to]) ∧ OwnI w' w.heap.size sv L ∧ Below w.heap.size w w' := by
  have hSl : listedL (hasB tl) came fr peers = L := congrArg Spr.listed hS
  have hSs : (decide (0 < (listedL (hasB tl) came fr peers).length) && !toldB came fr dr bdr state) = sent := congrArg Spr.sent hS
  have hSt : (if (decide (0 < (listedL (hasB tl) came fr peers).length) && !toldB came fr dr bdr state) = true then destI state else 0) = to := congrArg Spr.to hS
  rw [hSs] at hSt
  rw [hSl] at hSs
  have HSl := Lib.hid hSl
  have HSs := Lib.hid hSs
  have HSt := Lib.hid hSt
  clear hS hSl hSs hSt
  have Hok := Lib.hid (hok.more hB)
  have Hhas := Lib.hid hhas
  have Hst := Lib.hid (ov_start w #[.int .i64 age, .int .i64 kind, .int .i64 hid, .int .i64 adv, .int .i64 seq, .int .i64 sum, .int .i64 long] #[.int .i64 lan, .int .i64 cost, .int .i64 self, .int .i64 prio, .int .i64 state, .int .i64 dr, .int .i64 bdr, .slice pa peers.length pcap, .slice wa wants.length wcap] lan)
  clear hok hhas hB
  rcases hcame with ⟨hfr, hlc⟩ | ⟨hfr, hcf⟩
  all_goals
    go_enter Try.func14, Try.ntmps14
    go_wp2
    go_loopw [11] (fun i wr => ∃ (j : Nat) (sv : Value), j ≤ peers.length ∧ i = .int .i64 j ∧ OvAt w wr #[.int .i64 age, .int .i64 kind, .int .i64 hid, .int .i64 adv, .int .i64 seq, .int .i64 sum, .int .i64 long] #[.int .i64 lan, .int .i64 cost, .int .i64 self, .int .i64 prio, .int .i64 state, .int .i64 dr, .int .i64 bdr, .slice pa peers.length pcap, .slice wa wants.length wcap] lan sv (listedL (hasB tl) came fr (peers.take j)) false 0) (fun i _ => peers.length - (intOf i).toNat)
    case atStart => exact ⟨0, _, Nat.zero_le _, rfl, Hst.out⟩
    case round =>
      obtain ⟨j, sv, hj, rfl, hov⟩ := hrel
      by_cases hjt : j < peers.length
      · obtain ⟨b', o', rfl, hbB', x0, x1, x2, x3, x4, x5, x6⟩ := Peers.at_ (Hok.out.below hov.bel) j hjt
        have hsucc := listed_succ (hasB tl) came fr peers j hjt
        have hmem := List.getElem_mem hjt
        have hll := listed_len (hasB tl) came fr (peers.take j)
        rw [List.length_take] at hll
        generalize peers[j] = p at *
        generalize listedL (hasB tl) came fr (peers.take j) = M at *
        have hgo := refGoes_cases tl came fr p
        obtain ⟨tp, htp⟩ : ∃ t, tl p = t := ⟨_, rfl⟩
        rw [htp] at hgo
        rcases p with ⟨pi, pp, pd, pb, ps, pt, pat⟩
        have hcall := fun w' hb => Hhas.out _ hmem w' hb
        rw [htp] at hcall
        simp only [Peer.val] at hcall
        obtain ⟨wp, gp, hgp, hWp, hov1, hbp⟩ := ov_peer hov #[.int .i64 pi, .int .i64 pp, .int .i64 pd, .int .i64 pb, .int .i64 ps, .bool pt, .int .i64 pat]
        have Hcall := Lib.hid hcall
        have Hov := Lib.hid hov1
        have Hbp := Lib.hid hbp
        have Hsucc := Lib.hid hsucc
        have Hll := Lib.hid (show M.length ≤ 1000 by omega)
        obtain ⟨w0_0, w0_1, w0_2, w0_3, w0_4, w0_5, w0_6, w0_7, w0_8⟩ := Blk.cells9 hov.v
        obtain ⟨c0, c1, c2, c3, c4, c5, c6⟩ := Blk.cells7 hov1.h
        obtain ⟨v0, v1, v2, v3, v4, v5, v6, v7, v8⟩ := Blk.cells9 hov1.v
        obtain ⟨s0, s1, s2, s3, f0, f1, f2, f3⟩ := Blk.cells4 hov1.s
        obtain ⟨y0, y1, y2, y3, y4, y5, y6⟩ := Blk.cells7 hbp
        clear hov hov1 hbp hcall hmem hsucc hll hbB' htp
        simp only at hgo
        rcases hgo with ⟨g1, hg⟩ | ⟨g1, rfl, g3, hg⟩ | ⟨g1, rfl, g3, hwk, hg⟩ | ⟨g1, rfl, g3, hwk, rfl, hg⟩ | ⟨g1, rfl, g3, hwk, rfl, hg⟩ | ⟨g1, rfl, hwk, hg⟩ | ⟨g1, rfl, hwk, rfl, hg⟩ | ⟨g1, rfl, hwk, rfl, hg⟩
        · first
            | exact absurd hcf (by decide)
            | (have Hg := Lib.hid hg
               clear hg
               go_wp2
               go_roundw
               case measure => simp [intOf]; omega
               case rel => exact ⟨j + 1, _, hjt, by go_num, by rw [Hsucc.out, Hg.out]; simpa using Hov.out⟩)
        · first
            | exact absurd hcf (by decide)
            | (have Hg := Lib.hid hg
               clear hg
               go_wp2
               go_roundw
               case measure => simp [intOf]; omega
               case rel => exact ⟨j + 1, _, hjt, by go_num, by rw [Hsucc.out, Hg.out]; simpa using Hov.out⟩)
        · first
            | exact absurd hcf (by decide)
            | (have Hg := Lib.hid hg
               have HW := Lib.hid hwk
               clear hg hwk
               go_wp2_with (first
                 | (go_at_call 19; (with_reducible refine Calls.mono (atWork_any _ _ _ _ _ _ _ _) ?_); rw [HW.out]; rintro r w2 ⟨rfl, hb2⟩; have hov2 := (Hov.out.below hb2).alloc (.cells #[.int .i64 pi] 3); have hbp2 := Hbp.out.below hb2 Hbp.out.lt; have hs2 := hov2.s; have hs3 := (Hov.out.below hb2).s; obtain ⟨s0, s1, s2, s3, f0, f1, f2, f3⟩ := Blk.cells4 hs3; obtain ⟨y0, y1, y2, y3, y4, y5, y6⟩ := Blk.cells7 hbp2; obtain ⟨z0, z1, z2, z3, j0, j1, j2, j3⟩ := Blk.cells4 hs2; have Hov := Lib.hid hov2; have Hbp := Lib.hid hbp2; clear hb2 hov2 hbp2 hs2 hs3)
                 | (at_builtin; refine app_int rfl _ _ rfl (w.heap.size + 4) sv M rfl Hov.out.own w2.heap.size pi rfl ((Blk.new _ _ _).cell 0) (by have := Hll.out; omega) Hov.out.size ?_; intro sv' w5 hown5 hg5; have hap := Hov.out.app hown5 hg5; obtain ⟨A5, cap5, rfl⟩ := hown5.shape; obtain ⟨z0, z1, z2, z3, j0, j1, j2, j3⟩ := Blk.cells4 hap.1; have Hap := Lib.hid hap.2; clear hap hown5 hg5))
               go_roundw
               case measure => simp [intOf]; omega
               case rel => exact ⟨j + 1, _, hjt, by go_num, by rw [Hsucc.out, Hg.out]; simpa using Hap.out⟩)
        · first
            | exact absurd hcf (by decide)
            | (have Hg := Lib.hid hg
               have HW := Lib.hid hwk
               clear hg hwk
               go_wp2_with (first
                 | (go_at_call 19; (with_reducible refine Calls.mono (atWork_any _ _ _ _ _ _ _ _) ?_); rw [HW.out]; rintro r w9 ⟨rfl, hb9⟩; have hov9 := Hov.out.below hb9; have hbp9 := Hbp.out.below hb9 Hbp.out.lt; obtain ⟨c0, c1, c2, c3, c4, c5, c6⟩ := Blk.cells7 hov9.h; obtain ⟨v0, v1, v2, v3, v4, v5, v6, v7, v8⟩ := Blk.cells9 hov9.v; obtain ⟨s0, s1, s2, s3, f0, f1, f2, f3⟩ := Blk.cells4 hov9.s; obtain ⟨y0, y1, y2, y3, y4, y5, y6⟩ := Blk.cells7 hbp9; have Hov := Lib.hid hov9; have Hbp := Lib.hid hbp9; clear hb9 hov9 hbp9)
                 | (go_at_call 21; (with_reducible refine Calls.mono (Hcall.out _ Hov.out.bel) ?_); rintro r w2 ⟨rfl, hb2⟩; have hov2 := (Hov.out.below hb2).alloc (.cells #[.int .i64 pi] 3); have hbp2 := Hbp.out.below hb2 Hbp.out.lt; have hs2 := hov2.s; have hs3 := (Hov.out.below hb2).s; obtain ⟨s0, s1, s2, s3, f0, f1, f2, f3⟩ := Blk.cells4 hs3; obtain ⟨y0, y1, y2, y3, y4, y5, y6⟩ := Blk.cells7 hbp2; obtain ⟨z0, z1, z2, z3, j0, j1, j2, j3⟩ := Blk.cells4 hs2; have Hov := Lib.hid hov2; have Hbp := Lib.hid hbp2; clear hb2 hov2 hbp2 hs2 hs3)
                 | (at_builtin; refine app_int rfl _ _ rfl (w.heap.size + 4) sv M rfl Hov.out.own w2.heap.size pi rfl ((Blk.new _ _ _).cell 0) (by have := Hll.out; omega) Hov.out.size ?_; intro sv' w5 hown5 hg5; have hap := Hov.out.app hown5 hg5; obtain ⟨A5, cap5, rfl⟩ := hown5.shape; obtain ⟨z0, z1, z2, z3, j0, j1, j2, j3⟩ := Blk.cells4 hap.1; have Hap := Lib.hid hap.2; clear hap hown5 hg5))
               go_roundw
               case measure => simp [intOf]; omega
               case rel => exact ⟨j + 1, _, hjt, by go_num, by rw [Hsucc.out, Hg.out]; simpa using Hap.out⟩)
        · first
            | exact absurd hcf (by decide)
            | (have Hg := Lib.hid hg
               have HW := Lib.hid hwk
               clear hg hwk
               go_wp2_with (first
                 | (go_at_call 19; (with_reducible refine Calls.mono (atWork_any _ _ _ _ _ _ _ _) ?_); rw [HW.out]; rintro r w9 ⟨rfl, hb9⟩; have hov9 := Hov.out.below hb9; have hbp9 := Hbp.out.below hb9 Hbp.out.lt; obtain ⟨c0, c1, c2, c3, c4, c5, c6⟩ := Blk.cells7 hov9.h; obtain ⟨v0, v1, v2, v3, v4, v5, v6, v7, v8⟩ := Blk.cells9 hov9.v; obtain ⟨s0, s1, s2, s3, f0, f1, f2, f3⟩ := Blk.cells4 hov9.s; obtain ⟨y0, y1, y2, y3, y4, y5, y6⟩ := Blk.cells7 hbp9; have Hov := Lib.hid hov9; have Hbp := Lib.hid hbp9; clear hb9 hov9 hbp9)
                 | (go_at_call 21; (with_reducible refine Calls.mono (Hcall.out _ Hov.out.bel) ?_); rintro r w9 ⟨rfl, hb9⟩; have hov9 := Hov.out.below hb9; have hbp9 := Hbp.out.below hb9 Hbp.out.lt; obtain ⟨c0, c1, c2, c3, c4, c5, c6⟩ := Blk.cells7 hov9.h; obtain ⟨v0, v1, v2, v3, v4, v5, v6, v7, v8⟩ := Blk.cells9 hov9.v; obtain ⟨s0, s1, s2, s3, f0, f1, f2, f3⟩ := Blk.cells4 hov9.s; obtain ⟨y0, y1, y2, y3, y4, y5, y6⟩ := Blk.cells7 hbp9; have Hov := Lib.hid hov9; have Hbp := Lib.hid hbp9; clear hb9 hov9 hbp9))
               go_roundw
               case measure => simp [intOf]; omega
               case rel => exact ⟨j + 1, _, hjt, by go_num, by rw [Hsucc.out, Hg.out]; simpa using Hov.out⟩)
        · first
            | exact absurd hcf (by decide)
            | (have Hg := Lib.hid hg
               have HW := Lib.hid hwk
               clear hg hwk
               go_wp2_with (first
                 | (go_at_call 19; (with_reducible refine Calls.mono (atWork_any _ _ _ _ _ _ _ _) ?_); rw [HW.out]; rintro r w2 ⟨rfl, hb2⟩; have hov2 := (Hov.out.below hb2).alloc (.cells #[.int .i64 pi] 3); have hbp2 := Hbp.out.below hb2 Hbp.out.lt; have hs2 := hov2.s; have hs3 := (Hov.out.below hb2).s; obtain ⟨s0, s1, s2, s3, f0, f1, f2, f3⟩ := Blk.cells4 hs3; obtain ⟨y0, y1, y2, y3, y4, y5, y6⟩ := Blk.cells7 hbp2; obtain ⟨z0, z1, z2, z3, j0, j1, j2, j3⟩ := Blk.cells4 hs2; have Hov := Lib.hid hov2; have Hbp := Lib.hid hbp2; clear hb2 hov2 hbp2 hs2 hs3)
                 | (at_builtin; refine app_int rfl _ _ rfl (w.heap.size + 4) sv M rfl Hov.out.own w2.heap.size pi rfl ((Blk.new _ _ _).cell 0) (by have := Hll.out; omega) Hov.out.size ?_; intro sv' w5 hown5 hg5; have hap := Hov.out.app hown5 hg5; obtain ⟨A5, cap5, rfl⟩ := hown5.shape; obtain ⟨z0, z1, z2, z3, j0, j1, j2, j3⟩ := Blk.cells4 hap.1; have Hap := Lib.hid hap.2; clear hap hown5 hg5))
               go_roundw
               case measure => simp [intOf]; omega
               case rel => exact ⟨j + 1, _, hjt, by go_num, by rw [Hsucc.out, Hg.out]; simpa using Hap.out⟩)
        · first
            | exact absurd hcf (by decide)
            | (have Hg := Lib.hid hg
               have HW := Lib.hid hwk
               clear hg hwk
               go_wp2_with (first
                 | (go_at_call 19; (with_reducible refine Calls.mono (atWork_any _ _ _ _ _ _ _ _) ?_); rw [HW.out]; rintro r w9 ⟨rfl, hb9⟩; have hov9 := Hov.out.below hb9; have hbp9 := Hbp.out.below hb9 Hbp.out.lt; obtain ⟨c0, c1, c2, c3, c4, c5, c6⟩ := Blk.cells7 hov9.h; obtain ⟨v0, v1, v2, v3, v4, v5, v6, v7, v8⟩ := Blk.cells9 hov9.v; obtain ⟨s0, s1, s2, s3, f0, f1, f2, f3⟩ := Blk.cells4 hov9.s; obtain ⟨y0, y1, y2, y3, y4, y5, y6⟩ := Blk.cells7 hbp9; have Hov := Lib.hid hov9; have Hbp := Lib.hid hbp9; clear hb9 hov9 hbp9)
                 | (go_at_call 21; (with_reducible refine Calls.mono (Hcall.out _ Hov.out.bel) ?_); rintro r w2 ⟨rfl, hb2⟩; have hov2 := (Hov.out.below hb2).alloc (.cells #[.int .i64 pi] 3); have hbp2 := Hbp.out.below hb2 Hbp.out.lt; have hs2 := hov2.s; have hs3 := (Hov.out.below hb2).s; obtain ⟨s0, s1, s2, s3, f0, f1, f2, f3⟩ := Blk.cells4 hs3; obtain ⟨y0, y1, y2, y3, y4, y5, y6⟩ := Blk.cells7 hbp2; obtain ⟨z0, z1, z2, z3, j0, j1, j2, j3⟩ := Blk.cells4 hs2; have Hov := Lib.hid hov2; have Hbp := Lib.hid hbp2; clear hb2 hov2 hbp2 hs2 hs3)
                 | (at_builtin; refine app_int rfl _ _ rfl (w.heap.size + 4) sv M rfl Hov.out.own w2.heap.size pi rfl ((Blk.new _ _ _).cell 0) (by have := Hll.out; omega) Hov.out.size ?_; intro sv' w5 hown5 hg5; have hap := Hov.out.app hown5 hg5; obtain ⟨A5, cap5, rfl⟩ := hown5.shape; obtain ⟨z0, z1, z2, z3, j0, j1, j2, j3⟩ := Blk.cells4 hap.1; have Hap := Lib.hid hap.2; clear hap hown5 hg5))
               go_roundw
               case measure => simp [intOf]; omega
               case rel => exact ⟨j + 1, _, hjt, by go_num, by rw [Hsucc.out, Hg.out]; simpa using Hap.out⟩)
        · first
            | exact absurd hcf (by decide)
            | (have Hg := Lib.hid hg
               have HW := Lib.hid hwk
               clear hg hwk
               go_wp2_with (first
                 | (go_at_call 19; (with_reducible refine Calls.mono (atWork_any _ _ _ _ _ _ _ _) ?_); rw [HW.out]; rintro r w9 ⟨rfl, hb9⟩; have hov9 := Hov.out.below hb9; have hbp9 := Hbp.out.below hb9 Hbp.out.lt; obtain ⟨c0, c1, c2, c3, c4, c5, c6⟩ := Blk.cells7 hov9.h; obtain ⟨v0, v1, v2, v3, v4, v5, v6, v7, v8⟩ := Blk.cells9 hov9.v; obtain ⟨s0, s1, s2, s3, f0, f1, f2, f3⟩ := Blk.cells4 hov9.s; obtain ⟨y0, y1, y2, y3, y4, y5, y6⟩ := Blk.cells7 hbp9; have Hov := Lib.hid hov9; have Hbp := Lib.hid hbp9; clear hb9 hov9 hbp9)
                 | (go_at_call 21; (with_reducible refine Calls.mono (Hcall.out _ Hov.out.bel) ?_); rintro r w9 ⟨rfl, hb9⟩; have hov9 := Hov.out.below hb9; have hbp9 := Hbp.out.below hb9 Hbp.out.lt; obtain ⟨c0, c1, c2, c3, c4, c5, c6⟩ := Blk.cells7 hov9.h; obtain ⟨v0, v1, v2, v3, v4, v5, v6, v7, v8⟩ := Blk.cells9 hov9.v; obtain ⟨s0, s1, s2, s3, f0, f1, f2, f3⟩ := Blk.cells4 hov9.s; obtain ⟨y0, y1, y2, y3, y4, y5, y6⟩ := Blk.cells7 hbp9; have Hov := Lib.hid hov9; have Hbp := Lib.hid hbp9; clear hb9 hov9 hbp9))
               go_roundw
               case measure => simp [intOf]; omega
               case rel => exact ⟨j + 1, _, hjt, by go_num, by rw [Hsucc.out, Hg.out]; simpa using Hov.out⟩)
      · have : j = peers.length := by omega
        subst this
        rw [List.take_length] at hov
        have hll := listed_len (hasB tl) came fr peers
        have htc := refTold_cases came fr dr bdr state
        have hSs := HSs.out
        have hSt := HSt.out
        rw [HSl.out] at hll hov
        obtain ⟨told, ht⟩ : ∃ b, toldB came fr dr bdr state = b := ⟨_, rfl⟩
        rw [ht] at htc hSs
        obtain ⟨A1, cap1, rfl⟩ := hov.own.shape
        obtain ⟨c0, c1, c2, c3, c4, c5, c6⟩ := Blk.cells7 hov.h
        obtain ⟨v0, v1, v2, v3, v4, v5, v6, v7, v8⟩ := Blk.cells9 hov.v
        obtain ⟨s0, s1, s2, s3, f0, f1, f2, f3⟩ := Blk.cells4 hov.s
        obtain ⟨r0, r1, r2, r3, b0, b1, b2, b3⟩ := Blk.cells4 hov.r
        have Hov := Lib.hid hov
        have hll3 : L.length ≤ 1000 := by omega
        clear hov ht hll
        obtain ⟨w1, hW1, hov1⟩ := Hov.out.sent sent
        obtain ⟨x0, x1, x2, x3, j0, j1, j2, j3⟩ := Blk.cells4 hov1.s
        obtain ⟨z0, z1, z2, z3, z4, z5, z6, z7, z8⟩ := Blk.cells9 hov1.v
        obtain ⟨o0, o1, o2, o3, i0, i1, i2, i3⟩ := Blk.cells4 hov1.r
        have Hov1 := Lib.hid hov1
        clear hov1
        by_cases h0 : 0 < L.length
        · have h0' : (0 : Int) < (L.length : Int) := by omega
          rw [decide_eq_true h0] at hSs
          rcases htc with ⟨rfl, rfl⟩ | ⟨rfl, t1, rfl⟩ | ⟨rfl, t1, t2, rfl⟩ | ⟨rfl, t1, t2, t3, rfl⟩ | ⟨rfl, t1, t2, t3, rfl⟩
          · first
              | exact absurd hcf (by decide)
              | (simp at hSs; subst hSs
                 rw [if_pos rfl] at hSt
                 rcases dest_cases2 state with ⟨u1, hD⟩ | ⟨u1, u2, hD⟩ | ⟨u1, u2, hD⟩
                 · rw [hD] at hSt
                   subst hSt
                   clear hD
                   go_wp2
                   all_goals refine bodyPost_ret (v := .agg #[.int .i64 lan, _, .bool true, .int .i64 0]) (by simp [results, Try.results14, go_sem, o0, o1, o2, o3]) rfl ⟨_, rfl, (ov_end Hov1.out _ _ _ _).1, (ov_end Hov1.out _ _ _ _).2⟩
                 · rw [hD] at hSt
                   subst hSt
                   clear hD
                   go_wp2
                   all_goals refine bodyPost_ret (v := .agg #[.int .i64 lan, _, .bool true, .int .i64 0]) (by simp [results, Try.results14, go_sem, o0, o1, o2, o3]) rfl ⟨_, rfl, (ov_end Hov1.out _ _ _ _).1, (ov_end Hov1.out _ _ _ _).2⟩
                 · rw [hD] at hSt
                   subst hSt
                   clear hD
                   obtain ⟨w4, hW4, hov4⟩ := Hov1.out.to_ 16
                   obtain ⟨q0, q1, q2, q3, m0, m1, m2, m3⟩ := Blk.cells4 hov4.s
                   obtain ⟨n0, n1, n2, n3, l0, l1, l2, l3⟩ := Blk.cells4 hov4.r
                   have Hov4 := Lib.hid hov4
                   clear hov4
                   go_wp2
                   all_goals refine bodyPost_ret (v := .agg #[.int .i64 lan, _, .bool true, .int .i64 16]) (by simp [results, Try.results14, go_sem, n0, n1, n2, n3]) rfl ⟨_, rfl, (ov_end Hov4.out _ _ _ _).1, (ov_end Hov4.out _ _ _ _).2⟩)
          · first
              | exact absurd hcf (by decide)
              | (simp at hSs; subst hSs
                 rw [if_neg (by simp)] at hSt; subst hSt
                 go_wp2
                 all_goals refine bodyPost_ret (v := .agg #[.int .i64 lan, _, .bool false, .int .i64 0]) (by simp [results, Try.results14, go_sem, r0, r1, r2, r3]) rfl ⟨_, rfl, (ov_end Hov.out _ _ _ _).1, (ov_end Hov.out _ _ _ _).2⟩)
          · first
              | exact absurd hcf (by decide)
              | (simp at hSs; subst hSs
                 rw [if_neg (by simp)] at hSt; subst hSt
                 go_wp2
                 all_goals refine bodyPost_ret (v := .agg #[.int .i64 lan, _, .bool false, .int .i64 0]) (by simp [results, Try.results14, go_sem, r0, r1, r2, r3]) rfl ⟨_, rfl, (ov_end Hov.out _ _ _ _).1, (ov_end Hov.out _ _ _ _).2⟩)
          · first
              | exact absurd hcf (by decide)
              | (simp at hSs; subst hSs
                 rw [if_neg (by simp)] at hSt; subst hSt
                 go_wp2
                 all_goals refine bodyPost_ret (v := .agg #[.int .i64 lan, _, .bool false, .int .i64 0]) (by simp [results, Try.results14, go_sem, r0, r1, r2, r3]) rfl ⟨_, rfl, (ov_end Hov.out _ _ _ _).1, (ov_end Hov.out _ _ _ _).2⟩)
          · first
              | exact absurd hcf (by decide)
              | (simp at hSs; subst hSs
                 rw [if_pos rfl] at hSt
                 rcases dest_cases2 state with ⟨u1, hD⟩ | ⟨u1, u2, hD⟩ | ⟨u1, u2, hD⟩
                 · rw [hD] at hSt
                   subst hSt
                   clear hD
                   go_wp2
                   all_goals refine bodyPost_ret (v := .agg #[.int .i64 lan, _, .bool true, .int .i64 0]) (by simp [results, Try.results14, go_sem, o0, o1, o2, o3]) rfl ⟨_, rfl, (ov_end Hov1.out _ _ _ _).1, (ov_end Hov1.out _ _ _ _).2⟩
                 · rw [hD] at hSt
                   subst hSt
                   clear hD
                   go_wp2
                   all_goals refine bodyPost_ret (v := .agg #[.int .i64 lan, _, .bool true, .int .i64 0]) (by simp [results, Try.results14, go_sem, o0, o1, o2, o3]) rfl ⟨_, rfl, (ov_end Hov1.out _ _ _ _).1, (ov_end Hov1.out _ _ _ _).2⟩
                 · rw [hD] at hSt
                   subst hSt
                   clear hD
                   obtain ⟨w4, hW4, hov4⟩ := Hov1.out.to_ 16
                   obtain ⟨q0, q1, q2, q3, m0, m1, m2, m3⟩ := Blk.cells4 hov4.s
                   obtain ⟨n0, n1, n2, n3, l0, l1, l2, l3⟩ := Blk.cells4 hov4.r
                   have Hov4 := Lib.hid hov4
                   clear hov4
                   go_wp2
                   all_goals refine bodyPost_ret (v := .agg #[.int .i64 lan, _, .bool true, .int .i64 16]) (by simp [results, Try.results14, go_sem, n0, n1, n2, n3]) rfl ⟨_, rfl, (ov_end Hov4.out _ _ _ _).1, (ov_end Hov4.out _ _ _ _).2⟩)
        · have h0' : ¬(0 : Int) < (L.length : Int) := by omega
          have hz : L = [] := List.eq_nil_of_length_eq_zero (by omega)
          rw [decide_eq_false h0] at hSs
          simp at hSs; subst hSs
          rw [if_neg (by simp)] at hSt; subst hSt
          subst hz
          go_wp2
          all_goals refine bodyPost_ret (v := .agg #[.int .i64 lan, _, .bool false, .int .i64 0]) (by simp [results, Try.results14, go_sem, r0, r1, r2, r3]) rfl ⟨_, rfl, (ov_end Hov.out _ _ _ _).1, (ov_end Hov.out _ _ _ _).2⟩

end Go.Proofs.Ytahgjfecffcknaa
