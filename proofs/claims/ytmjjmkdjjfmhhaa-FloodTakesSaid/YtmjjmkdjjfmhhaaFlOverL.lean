/-
  The walk of flood.Over.
-/
import Derived.Test.YtmjjmkdjjfmhhaaFlOvers
namespace Go.Proofs.Ytmjjmkdjjfmhhaa
open Go.RowKit

def cameB (lan fr : Int) (v : Viw) : Bool := decide (0 < fr) && v.lan == lan
theorem overS_lan (hs : Peer → Bool) (came : Bool) (fr : Int) (v : Viw) : (overS hs came fr v).lan = v.lan := rfl
theorem map_take_succ {α β : Type} (f : α → β) (l : List α) (k : Nat) (hk : k < l.length) : (l.take (k + 1)).map f = (l.take k).map f ++ [f l[k]] := by
  rw [List.take_succ_eq_append_getElem hk, List.map_append]; rfl

/-- what is known when one more spread is there -/
theorem overL_step {w wv w2 : World} {v sv : Value} {L : List SV} {L' : List Int} {vlan : Int} {sent : Bool} {to : Int} {hr : Array Value} (hown : OwnS wv (w.heap.size + 1) v L) (hsv : OwnI w2 wv.heap.size sv L') (hb2 : Below wv.heap.size wv w2)
    (hblk : Blk wv w.heap.size 23 hr) (hwv : Below w.heap.size w wv) :
    OwnS w2 (w.heap.size + 1) v L ∧ OwnI w2 (w.heap.size + 1) sv (⟨vlan, L', sent, to⟩ : Spr).listed ∧ (sv.ownBlock = none ∨ sv.ownBlock ≠ v.ownBlock) ∧ w.heap.size + 1 ≤ w2.heap.size ∧
    ∀ (o : Obj) (w5 : World), (w2.alloc o).grownBy w5 v.ownBlock → Blk w5 w.heap.size 23 hr ∧ Below w.heap.size w w5 := by
  have hlt := hblk.lt
  have hs := hb2.size
  have hk : ∀ k, v.ownBlock = some k → w.heap.size + 1 ≤ k ∧ k < wv.heap.size := fun k hk => World.ownsRow.lt hown.row k hk
  have hb3 := hwv.trans (hb2.mono hwv.size)
  refine ⟨hown.below hb2, hsv.lower (by omega), ?_, by omega, fun o w5 hg => ⟨((hblk.below hb2 hlt).alloc o).grown hg (fun e => by have := hk _ e.symm; omega), (hb3.alloc hb3.size o).grown hg (hb3.alloc hb3.size o).size (fun k e => by have := hk k e; omega)⟩⟩
  rcases hv : sv.ownBlock with _ | k
  · exact .inl rfl
  · right
    intro e
    have h1 := (hsv.block k hv).1
    have h2 := hk k e.symm
    omega

set_option maxHeartbeats 4000000 in
set_option maxRecDepth 100000 in
theorem Over_any (hs : Viw → Peer → Bool) (age kind hid adv seq sum long lan fr : Int) (A : Option Addr) (cap : Nat) (l : List Viw) (w : World) (B : Nat) (hl : ViewsAt w B A l) (hB : B ≤ w.heap.size) (hlen : l.length ≤ 1000) (hpl : ∀ v ∈ l, v.peers.length ≤ 1000)
    (hhas : ∀ v ∈ l, ∀ p ∈ v.peers, ∀ w', Below w.heap.size w w' → Calls Try.prog 123 #[.agg #[.int .i64 age, .int .i64 kind, .int .i64 hid, .int .i64 adv, .int .i64 seq, .int .i64 sum, .int .i64 long], p.val, .slice v.wa v.wants.length v.wcap] w' fun r w'' => r = .returned (.bool (hs v p)) ∧ Below w'.heap.size w' w'') :
    Calls Try.prog 60 #[.agg #[.int .i64 age, .int .i64 kind, .int .i64 hid, .int .i64 adv, .int .i64 seq, .int .i64 sum, .int .i64 long], .int .i64 lan, .int .i64 fr, .slice A l.length cap] w
      fun r w' => ∃ v L, r = .returned v ∧ OwnS w' w.heap.size v L ∧ L.map (·.1) = l.map (fun v => overS (hs v) (cameB lan fr v) fr v) ∧ Below w.heap.size w w' := by
  have Hl := Lib.hid (hl.more hB)
  have Hhas := Lib.hid hhas
  have Hpl := Lib.hid hpl
  have hb0 : Below w.heap.size w (w.alloc (.cells #[.int .i64 age, .int .i64 kind, .int .i64 hid, .int .i64 adv, .int .i64 seq, .int .i64 sum, .int .i64 long] 23)) := (Below.refl _ _).alloc (Nat.le_refl _) _
  have Hb0 := Lib.hid hb0
  clear hl hhas hB hpl hb0
  go_enter Try.func60, Try.ntmps60
  go_wp2
  go_loopw [9, 14] (fun v i wr => ∃ (k : Nat) (L : List SV), k ≤ l.length ∧ i = .int .i64 k ∧ OwnS wr (w.heap.size + 1) v L ∧ L.map (·.1) = (l.take k).map (fun v => overS (hs v) (cameB lan fr v) fr v) ∧ Blk wr w.heap.size 23 #[.int .i64 age, .int .i64 kind, .int .i64 hid, .int .i64 adv, .int .i64 seq, .int .i64 sum, .int .i64 long] ∧ Below w.heap.size w wr) (fun _ i _ => l.length - (intOf i).toNat)
  case atStart => exact ⟨0, [], Nat.zero_le _, rfl, OwnS.nil _ _, rfl, Blk.new _ _ _, Hb0.out⟩
  case round =>
    obtain ⟨k, L, hk, rfl, hown, hL, hblk, hb⟩ := hrel
    by_cases hlt : k < l.length
    · obtain ⟨b, o, rfl, hbB, _, e0, e1, e2, e3, e4, e5, e6, e7, e8⟩ := (Hl.out.below hb).at_ k hlt
      have hok := Hl.out.2 l[k] (List.getElem_mem hlt)
      have hhk := Hhas.out l[k] (List.getElem_mem hlt)
      have hpk := Hpl.out l[k] (List.getElem_mem hlt)
      have hsucc := map_take_succ (fun v => overS (hs v) (cameB lan fr v) fr v) l k hlt
      rw [← hL] at hsucc
      have hLl : L.length = k := by
        have := congrArg List.length hL
        simp at this; omega
      generalize l[k] = v at *
      rcases hS : overS (hs v) (cameB lan fr v) fr v with ⟨lan', L', sent, to⟩
      have hlan' : lan' = v.lan := (congrArg Spr.lan hS).symm
      subst hlan'
      rw [hS] at hsucc
      obtain ⟨hv, hhv⟩ : ∃ f, hs v = f := ⟨_, rfl⟩
      rw [hhv] at hS hhk
      obtain ⟨A0, c0', rfl⟩ := hown.shape
      rcases v with ⟨vlan, cost, self, prio, state, dr, bdr, pa, pcap, peers, wa, wcap, wants⟩
      simp only at hsucc hpk
      have hwv := hb.alloc hb.size (.cells #[.int .i64 vlan, .int .i64 cost, .int .i64 self, .int .i64 prio, .int .i64 state, .int .i64 dr, .int .i64 bdr, .slice pa peers.length pcap, .slice wa wants.length wcap] 104)
      have hcall : ∀ came, cameB lan fr ⟨vlan, cost, self, prio, state, dr, bdr, pa, pcap, peers, wa, wcap, wants⟩ = came → _ := fun came hc => over_any hv age kind hid adv seq sum long came fr vlan cost self prio state dr bdr pa pcap peers wa wcap wants
        (wr.alloc (.cells #[.int .i64 vlan, .int .i64 cost, .int .i64 self, .int .i64 prio, .int .i64 state, .int .i64 dr, .int .i64 bdr, .slice pa peers.length pcap, .slice wa wants.length wcap] 104)) w.heap.size (hok.1.below hwv) hwv.size hpk
        (fun p hp w' hb' => hhk p hp w' (hwv.trans (hb'.mono hwv.size))) (hc ▸ hS)
      have hblk1 := hblk.alloc (.cells #[.int .i64 vlan, .int .i64 cost, .int .i64 self, .int .i64 prio, .int .i64 state, .int .i64 dr, .int .i64 bdr, .slice pa peers.length pcap, .slice wa wants.length wcap] 104)
      obtain ⟨c0, c1, c2, c3, c4, c5, c6⟩ := Blk.cells7 hblk1
      obtain ⟨u0, u1, u2, u3, u4, u5, u6⟩ := Blk.cells7 hblk
      have Hown := Lib.hid (hown.alloc (.cells #[.int .i64 vlan, .int .i64 cost, .int .i64 self, .int .i64 prio, .int .i64 state, .int .i64 dr, .int .i64 bdr, .slice pa peers.length pcap, .slice wa wants.length wcap] 104))
      have Hblk := Lib.hid hblk1
      have Hwv := Lib.hid hwv
      have Hcall := Lib.hid hcall
      have Hsucc := Lib.hid hsucc
      have HLl := Lib.hid hLl
      clear hok hhk hpk hsucc hS hwv hcall hblk1 hblk hown hb hL hbB hhv hLl
      by_cases hfr : 0 < fr
      · have hc : cameB lan fr ⟨vlan, cost, self, prio, state, dr, bdr, pa, pcap, peers, wa, wcap, wants⟩ = (vlan == lan) := by simp [cameB, hfr]
        have Hcall2 := Lib.hid (Hcall.out _ hc)
        clear hc Hcall
        go_wp2_with (first
          | (go_at_call 95; (with_reducible refine Calls.mono Hcall2.out ?_); rintro r w2 ⟨sv, rfl, hown2, hb2⟩; obtain ⟨A2, cap2, rfl⟩ := hown2.shape; have Hstep := Lib.hid (overL_step (vlan := vlan) (sent := sent) (to := to) Hown.out hown2 hb2 Hblk.out Hwv.out); clear hown2 hb2 u0 u1 u2 u3 u4 u5 u6 c0 c1 c2 c3 c4 c5 c6 e0 e1 e2 e3 e4 e5 e6 e7 e8)
          | (at_builtin; refine app_spr rfl _ _ rfl (w.heap.size + 1) (.slice A0 L.length c0') L rfl (Hstep.out.1.alloc _) w2.heap.size (⟨⟨vlan, L', sent, to⟩, .slice A2 L'.length cap2⟩ : SV) rfl (Blk.new _ _ _) (Hstep.out.2.1.alloc _) Hstep.out.2.2.1 (by have := HLl.out; omega) (by have := Hstep.out.2.2.2.1; simp; omega) ?_; intro v' w5 hown5 hg5; have Hend := Lib.hid (And.intro hown5 (Hstep.out.2.2.2.2 _ _ hg5)); clear hown5 hg5))
        go_roundw
        case measure => simp [intOf]; omega
        case rel => exact ⟨k + 1, _, hlt, by go_num, Hend.out.1, by rw [Hsucc.out, List.map_append]; rfl, Hend.out.2.1, Hend.out.2.2⟩
      · have hc : cameB lan fr ⟨vlan, cost, self, prio, state, dr, bdr, pa, pcap, peers, wa, wcap, wants⟩ = false := by simp [cameB, hfr]
        have Hcall2 := Lib.hid (Hcall.out _ hc)
        clear hc Hcall
        go_wp2_with (first
          | (go_at_call 95; (with_reducible refine Calls.mono Hcall2.out ?_); rintro r w2 ⟨sv, rfl, hown2, hb2⟩; obtain ⟨A2, cap2, rfl⟩ := hown2.shape; have Hstep := Lib.hid (overL_step (vlan := vlan) (sent := sent) (to := to) Hown.out hown2 hb2 Hblk.out Hwv.out); clear hown2 hb2 u0 u1 u2 u3 u4 u5 u6 c0 c1 c2 c3 c4 c5 c6 e0 e1 e2 e3 e4 e5 e6 e7 e8)
          | (at_builtin; refine app_spr rfl _ _ rfl (w.heap.size + 1) (.slice A0 L.length c0') L rfl (Hstep.out.1.alloc _) w2.heap.size (⟨⟨vlan, L', sent, to⟩, .slice A2 L'.length cap2⟩ : SV) rfl (Blk.new _ _ _) (Hstep.out.2.1.alloc _) Hstep.out.2.2.1 (by have := HLl.out; omega) (by have := Hstep.out.2.2.2.1; simp; omega) ?_; intro v' w5 hown5 hg5; have Hend := Lib.hid (And.intro hown5 (Hstep.out.2.2.2.2 _ _ hg5)); clear hown5 hg5))
        go_roundw
        case measure => simp [intOf]; omega
        case rel => exact ⟨k + 1, _, hlt, by go_num, Hend.out.1, by rw [Hsucc.out, List.map_append]; rfl, Hend.out.2.1, Hend.out.2.2⟩
    · have : k = l.length := by omega
      subst this
      rw [List.take_length] at hL
      have Hend := Lib.hid (And.intro (hown.lower (B' := w.heap.size) (by omega)) (And.intro hL hb))
      obtain ⟨A0, c0', rfl⟩ := hown.shape
      clear hown hL hblk hb
      go_wp2
      go_ret
      exact ⟨_, L, rfl, Hend.out.1, Hend.out.2.1, Hend.out.2.2⟩

end Go.Proofs.Ytmjjmkdjjfmhhaa
