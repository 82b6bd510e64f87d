/-
  flood: who is at work, to whom it is sent, whether views are too great.
-/
import Derived.Test.YtahgjfecffcknaaFlTypes
namespace Go.Proofs.Ytahgjfecffcknaa
open Go.RowKit

def worksB (p : Peer) : Bool := p.state == 4 || p.state == 5
def Peer.val (p : Peer) : Value := .agg #[.int .i64 p.id, .int .i64 p.prio, .int .i64 p.dr, .int .i64 p.bdr, .int .i64 p.state, .bool p.two, .int .i64 p.at_]
def busyV (v : Viw) : Bool := v.peers.any worksB
def busyL (l : List Viw) : Bool := l.any busyV
def lateW (x : Wnt) : Bool := decide (x.head.age < 0) || decide (60 < x.head.age)
def greatV (v : Viw) : Bool := decide (30 < v.peers.length) || decide (30 < v.wants.length) || v.wants.any lateW
def greatL (l : List Viw) : Bool := l.any greatV || decide (10 < l.length)

theorem RowsAt.at_ {α : Type} {C : Nat} {cells : α → List Value} {w : World} {B : Nat} {A : Option Addr} {R : List α} (h : RowsAt C cells w B A R) (k : Nat) (hk : k < R.length) :
    ∃ b o, A = some ⟨b, o, none⟩ ∧ b < B ∧ ∀ i u, i < C → (cells R[k])[i]? = some u → w.cell? ⟨b, o + k * C + i, none⟩ = some u := by
  obtain ⟨b, o, e, hb, hc⟩ := h (by omega)
  exact ⟨b, o, e, hb, hc k hk⟩
theorem Peers.at_ {w : World} {B : Nat} {A : Option Addr} {l : List Peer} (h : RowsAt 7 Peer.cells w B A l) (k : Nat) (hk : k < l.length) : ∃ b o, A = some ⟨b, o, none⟩ ∧ b < B ∧
    w.cell? ⟨b, o + k * 7, none⟩ = some (.int .i64 l[k].id) ∧ w.cell? ⟨b, o + k * 7 + 1, none⟩ = some (.int .i64 l[k].prio) ∧ w.cell? ⟨b, o + k * 7 + 2, none⟩ = some (.int .i64 l[k].dr) ∧ w.cell? ⟨b, o + k * 7 + 3, none⟩ = some (.int .i64 l[k].bdr) ∧
    w.cell? ⟨b, o + k * 7 + 4, none⟩ = some (.int .i64 l[k].state) ∧ w.cell? ⟨b, o + k * 7 + 5, none⟩ = some (.bool l[k].two) ∧ w.cell? ⟨b, o + k * 7 + 6, none⟩ = some (.int .i64 l[k].at_) := by
  obtain ⟨b, o, e, hb, hc⟩ := RowsAt.at_ h k hk
  exact ⟨b, o, e, hb, hc 0 _ (by omega) rfl, hc 1 _ (by omega) rfl, hc 2 _ (by omega) rfl, hc 3 _ (by omega) rfl, hc 4 _ (by omega) rfl, hc 5 _ (by omega) rfl, hc 6 _ (by omega) rfl⟩
theorem Wants.at_ {w : World} {B : Nat} {A : Option Addr} {l : List Wnt} (h : RowsAt 8 Wnt.cells w B A l) (k : Nat) (hk : k < l.length) : ∃ b o, A = some ⟨b, o, none⟩ ∧ b < B ∧
    w.cell? ⟨b, o + k * 8, none⟩ = some (.int .i64 l[k].id) ∧ w.cell? ⟨b, o + k * 8 + 1, none⟩ = some (.int .i64 l[k].head.age) ∧ w.cell? ⟨b, o + k * 8 + 2, none⟩ = some (.int .i64 l[k].head.kind) ∧ w.cell? ⟨b, o + k * 8 + 3, none⟩ = some (.int .i64 l[k].head.id) ∧
    w.cell? ⟨b, o + k * 8 + 4, none⟩ = some (.int .i64 l[k].head.adv) ∧ w.cell? ⟨b, o + k * 8 + 5, none⟩ = some (.int .i64 l[k].head.seq) ∧ w.cell? ⟨b, o + k * 8 + 6, none⟩ = some (.int .i64 l[k].head.sum) ∧ w.cell? ⟨b, o + k * 8 + 7, none⟩ = some (.int .i64 l[k].head.long) := by
  obtain ⟨b, o, e, hb, hc⟩ := RowsAt.at_ h k hk
  exact ⟨b, o, e, hb, hc 0 _ (by omega) rfl, hc 1 _ (by omega) rfl, hc 2 _ (by omega) rfl, hc 3 _ (by omega) rfl, hc 4 _ (by omega) rfl, hc 5 _ (by omega) rfl, hc 6 _ (by omega) rfl, hc 7 _ (by omega) rfl⟩
theorem ViewsAt.at_ {w : World} {B : Nat} {A : Option Addr} {l : List Viw} (h : ViewsAt w B A l) (k : Nat) (hk : k < l.length) : ∃ b o, A = some ⟨b, o, none⟩ ∧ b < B ∧ l[k].ok w B ∧
    w.cell? ⟨b, o + k * 9, none⟩ = some (.int .i64 l[k].lan) ∧ w.cell? ⟨b, o + k * 9 + 1, none⟩ = some (.int .i64 l[k].cost) ∧ w.cell? ⟨b, o + k * 9 + 2, none⟩ = some (.int .i64 l[k].self) ∧ w.cell? ⟨b, o + k * 9 + 3, none⟩ = some (.int .i64 l[k].prio) ∧
    w.cell? ⟨b, o + k * 9 + 4, none⟩ = some (.int .i64 l[k].state) ∧ w.cell? ⟨b, o + k * 9 + 5, none⟩ = some (.int .i64 l[k].dr) ∧ w.cell? ⟨b, o + k * 9 + 6, none⟩ = some (.int .i64 l[k].bdr) ∧
    w.cell? ⟨b, o + k * 9 + 7, none⟩ = some (.slice l[k].pa l[k].peers.length l[k].pcap) ∧ w.cell? ⟨b, o + k * 9 + 8, none⟩ = some (.slice l[k].wa l[k].wants.length l[k].wcap) := by
  obtain ⟨b, o, e, hb, hc⟩ := RowsAt.at_ h.1 k hk
  exact ⟨b, o, e, hb, h.2 _ (List.getElem_mem hk), hc 0 _ (by omega) rfl, hc 1 _ (by omega) rfl, hc 2 _ (by omega) rfl, hc 3 _ (by omega) rfl, hc 4 _ (by omega) rfl, hc 5 _ (by omega) rfl, hc 6 _ (by omega) rfl, hc 7 _ (by omega) rfl, hc 8 _ (by omega) rfl⟩

theorem any_take_succ {α : Type} (f : α → Bool) (l : List α) (k : Nat) (hk : k < l.length) : (l.take (k + 1)).any f = ((l.take k).any f || f l[k]) := by
  rw [List.take_succ_eq_append_getElem hk, List.any_append]; simp
theorem any_true {α : Type} {f : α → Bool} {l : List α} {k : Nat} (hk : k < l.length) (h : f l[k] = true) : l.any f = true := List.any_eq_true.2 ⟨_, List.getElem_mem hk, h⟩

set_option maxHeartbeats 400000 in
theorem works_any (a b c d e : Int) (t : Bool) (f : Int) (w : World) :
    Calls Try.prog 18 #[.agg #[.int .i64 a, .int .i64 b, .int .i64 c, .int .i64 d, .int .i64 e, .bool t, .int .i64 f]] w fun r w' => r = .returned (.bool (worksB ⟨a, b, c, d, e, t, f⟩)) ∧ Below w.heap.size w w' := by
  have hb0 : ∀ o, Below w.heap.size w (w.alloc o) := fun o => (Below.refl _ _).alloc (Nat.le_refl _) o
  have Hb0 := Lib.hid hb0
  clear hb0
  by_cases h4 : e = 4
  · subst h4
    go_enter Try.func18, Try.ntmps18
    go_wp2
    go_ret
    exact ⟨by simp [worksB], Hb0.out _⟩
  · go_enter Try.func18, Try.ntmps18
    go_wp2
    go_ret
    exact ⟨by simp [worksB], Hb0.out _⟩
def destI (st : Int) : Int := if st = 4 ∨ st = 3 then 0 else 16
set_option maxHeartbeats 400000 in
theorem dest_any (a b c d e : Int) (w : World) :
    Calls Try.prog 15 #[.agg #[.int .i64 a, .int .i64 b, .int .i64 c, .int .i64 d, .int .i64 e]] w fun r w' => r = .returned (.int .i64 (destI c)) ∧ Below w.heap.size w w' := by
  have hb0 : ∀ o, Below w.heap.size w (w.alloc o) := fun o => (Below.refl _ _).alloc (Nat.le_refl _) o
  have Hb0 := Lib.hid hb0
  clear hb0
  by_cases h4 : c = 4
  · subst h4
    go_enter Try.func15, Try.ntmps15
    go_wp2
    go_ret
    exact ⟨by simp [destI], Hb0.out _⟩
  · by_cases h3 : c = 3
    · subst h3
      go_enter Try.func15, Try.ntmps15
      go_wp2
      go_ret
      exact ⟨by simp [destI], Hb0.out _⟩
    · have t4 : (c == 4) = false := by simp [h4]
      have t3 : (c == 3) = false := by simp [h3]
      go_enter Try.func15, Try.ntmps15
      go_wp2
      go_ret
      exact ⟨by simp [destI, h3, h4], Hb0.out _⟩

set_option maxHeartbeats 2000000 in
set_option maxRecDepth 100000 in
theorem busy_any (A : Option Addr) (cap : Nat) (l : List Viw) (w : World) (B : Nat) (hl : ViewsAt w B A l) (hB : B ≤ w.heap.size) (hm : l.length ≤ maxLen) :
    Calls Try.prog 11 #[.slice A l.length cap] w fun r w' => r = .returned (.bool (busyL l)) ∧ Below w.heap.size w w' := by
  unfold maxLen at hm
  have Hl := Lib.hid (hl.more hB)
  clear hl hB
  go_enter Try.func11, Try.ntmps11
  go_wp2
  go_loopw [9] (fun i wr => ∃ k : Nat, k ≤ l.length ∧ i = .int .i64 k ∧ (l.take k).any busyV = false ∧ Below w.heap.size w wr) (fun i _ => l.length - (intOf i).toNat)
  case atStart => exact ⟨0, Nat.zero_le _, rfl, by simp, Below.refl _ _⟩
  case round =>
    obtain ⟨k, hk, rfl, hno, hb⟩ := hrel
    by_cases hlt : k < l.length
    · obtain ⟨b, o, rfl, hbB, _, e0, e1, e2, e3, e4, e5, e6, e7, e8⟩ := (Hl.out.below hb).at_ k hlt
      have hok := Hl.out.2 l[k] (List.getElem_mem hlt)
      have hsucc := any_take_succ busyV l k hlt
      have htrue := fun h => any_true (f := busyV) hlt h
      generalize l[k] = v at *
      rcases v with ⟨lan, cost, self, prio, state, dr, bdr, pa, pcap, peers, wa, wcap, wants⟩
      have hpm := hok.2.2.1
      unfold maxLen at hpm
      simp only at hpm
      have hb1 := hb.alloc hb.size (.cells #[.int .i64 lan, .int .i64 cost, .int .i64 self, .int .i64 prio, .int .i64 state, .int .i64 dr, .int .i64 bdr, .slice pa peers.length pcap, .slice wa wants.length wcap] 48)
      have Hno := Lib.hid hno
      have Hok := Lib.hid hok
      have Hb1 := Lib.hid hb1
      have Hsucc := Lib.hid hsucc
      have Htrue := Lib.hid htrue
      clear hno hok hb1 hsucc htrue hb hbB
      go_wp2
      go_loopw [16] (fun i wi => ∃ j : Nat, j ≤ peers.length ∧ i = .int .i64 j ∧ (peers.take j).any worksB = false ∧ Below w.heap.size w wi) (fun i _ => peers.length - (intOf i).toNat)
      case atStart => exact ⟨0, Nat.zero_le _, rfl, by simp, Hb1.out⟩
      case round =>
        obtain ⟨j, hj, rfl, hnoj, hbj⟩ := hrel
        by_cases hjt : j < peers.length
        · obtain ⟨b', o', rfl, hbB', x0, x1, x2, x3, x4, x5, x6⟩ := Peers.at_ (Hok.out.1.below hbj) j hjt
          have hps := any_take_succ worksB peers j hjt
          have hpt := fun h => any_true (f := worksB) hjt h
          generalize peers[j] = p at *
          rcases p with ⟨pi, pp, pd, pb, ps, pt, pat⟩
          have hbj1 := hbj.alloc hbj.size (.cells #[.int .i64 pi, .int .i64 pp, .int .i64 pd, .int .i64 pb, .int .i64 ps, .bool pt, .int .i64 pat] 55)
          have Hnoj := Lib.hid hnoj
          have Hbj1 := Lib.hid hbj1
          have Hps := Lib.hid hps
          have Hpt := Lib.hid hpt
          clear hnoj hbj1 hps hpt hbj hbB'
          cases hw : worksB ⟨pi, pp, pd, pb, ps, pt, pat⟩
          · have Hw := Lib.hid hw
            clear hw
            go_wp2_with (go_at_call 18; (with_reducible refine Calls.mono (works_any _ _ _ _ _ _ _ _) ?_); rw [Hw.out]; rintro r w2 ⟨rfl, hb2⟩; have Hb2 := Lib.hid (Hbj1.out.trans (hb2.mono Hbj1.out.size)); clear hb2)
            go_roundw
            case measure => simp [intOf]; omega
            case rel => exact ⟨j + 1, hjt, by go_num, by rw [Hps.out, Hnoj.out, Hw.out]; rfl, Hb2.out⟩
          · have Hw := Lib.hid hw
            clear hw
            go_wp2_with (go_at_call 18; (with_reducible refine Calls.mono (works_any _ _ _ _ _ _ _ _) ?_); rw [Hw.out]; rintro r w2 ⟨rfl, hb2⟩; have Hb2 := Lib.hid (Hbj1.out.trans (hb2.mono Hbj1.out.size)); clear hb2)
            go_ret
            exact ⟨by rw [show busyL l = true from Htrue.out (Hpt.out Hw.out)]; rfl, Hb2.out⟩
        · have : j = peers.length := by omega
          subst this
          have Hnoj := Lib.hid hnoj
          have Hbj := Lib.hid hbj
          clear hnoj hbj
          go_wp2
          go_roundw
          case measure => simp [intOf]; omega
          case rel => exact ⟨k + 1, hlt, by go_num, by rw [Hsucc.out, Hno.out]; simpa [busyV] using Hnoj.out, Hbj.out⟩
    · have : k = l.length := by omega
      subst this
      have Hno := Lib.hid hno
      have Hb := Lib.hid hb
      clear hno hb
      go_wp2
      go_ret
      exact ⟨by rw [show busyL l = false by simpa [busyL] using Hno.out]; rfl, Hb.out⟩

theorem below_view {w wr : World} (hb : Below w.heap.size w wr) (o : Obj) : Below w.heap.size w (wr.alloc o) := hb.alloc hb.size o

set_option maxHeartbeats 2000000 in
set_option maxRecDepth 100000 in
theorem great_any (A : Option Addr) (cap : Nat) (l : List Viw) (w : World) (B : Nat) (hl : ViewsAt w B A l) (hB : B ≤ w.heap.size) (hm : l.length ≤ maxLen) :
    Calls Try.prog 9 #[.slice A l.length cap] w fun r w' => r = .returned (.bool (greatL l)) ∧ Below w.heap.size w w' := by
  unfold maxLen at hm
  have Hl := Lib.hid (hl.more hB)
  clear hl hB
  go_enter Try.func9, Try.ntmps9
  go_wp2
  go_loopw [9] (fun i wr => ∃ k : Nat, k ≤ l.length ∧ i = .int .i64 k ∧ (l.take k).any greatV = false ∧ Below w.heap.size w wr) (fun i _ => l.length - (intOf i).toNat)
  case atStart => exact ⟨0, Nat.zero_le _, rfl, by simp, Below.refl _ _⟩
  case round =>
    obtain ⟨k, hk, rfl, hno, hb⟩ := hrel
    by_cases hlt : k < l.length
    · obtain ⟨b, o, rfl, hbB, _, e0, e1, e2, e3, e4, e5, e6, e7, e8⟩ := (Hl.out.below hb).at_ k hlt
      have hok := Hl.out.2 l[k] (List.getElem_mem hlt)
      have hsucc := any_take_succ greatV l k hlt
      have htrue := fun h => any_true (f := greatV) hlt h
      generalize l[k] = v at *
      rcases v with ⟨lan, cost, self, prio, state, dr, bdr, pa, pcap, peers, wa, wcap, wants⟩
      have hwm := hok.2.2.2
      have hpm := hok.2.2.1
      unfold maxLen at hwm hpm
      simp only at hwm hpm
      have Hno := Lib.hid hno
      have Hok := Lib.hid hok
      have Hb1 := Lib.hid (below_view hb (.cells #[.int .i64 lan, .int .i64 cost, .int .i64 self, .int .i64 prio, .int .i64 state, .int .i64 dr, .int .i64 bdr, .slice pa peers.length pcap, .slice wa wants.length wcap] 48))
      have Hsucc := Lib.hid hsucc
      have Htrue := Lib.hid htrue
      clear hno hok hsucc htrue hb hbB
      by_cases hp30 : 30 < peers.length
      · have Hp := Lib.hid hp30
        go_wp2
        go_ret
        exact ⟨by rw [show greatL l = true by unfold greatL; rw [Htrue.out (by simp [greatV, Hp.out])]; rfl]; rfl, Hb1.out⟩
      · by_cases hw30 : 30 < wants.length
        · have Hw := Lib.hid hw30
          go_wp2
          go_ret
          exact ⟨by rw [show greatL l = true by unfold greatL; rw [Htrue.out (by simp [greatV, Hw.out])]; rfl]; rfl, Hb1.out⟩
        · go_wp2
          go_loopw [26] (fun i wi => ∃ j : Nat, j ≤ wants.length ∧ i = .int .i64 j ∧ (wants.take j).any lateW = false ∧ Below w.heap.size w wi) (fun i _ => wants.length - (intOf i).toNat)
          case atStart => exact ⟨0, Nat.zero_le _, rfl, by simp, Hb1.out⟩
          case round =>
            obtain ⟨j, hj, rfl, hnoj, hbj⟩ := hrel
            by_cases hjt : j < wants.length
            · obtain ⟨b', o', rfl, hbB', x0, x1, x2, x3, x4, x5, x6, x7⟩ := Wants.at_ (Hok.out.2.1.below hbj) j hjt
              have hps := any_take_succ lateW wants j hjt
              have hpt := fun h => any_true (f := lateW) hjt h
              generalize wants[j] = p at *
              rcases p with ⟨wi9, ⟨age, kind, hid, adv, seq, sum, long⟩⟩
              have Hbj1 := Lib.hid (below_view hbj (.cells #[.int .i64 wi9, .int .i64 age, .int .i64 kind, .int .i64 hid, .int .i64 adv, .int .i64 seq, .int .i64 sum, .int .i64 long] 60))
              have Hnoj := Lib.hid hnoj
              have Hps := Lib.hid hps
              have Hpt := Lib.hid hpt
              clear hnoj hps hpt hbj hbB'
              by_cases ha : age < 0
              · have Ha := Lib.hid ha
                go_wp2
                go_ret
                exact ⟨by rw [show greatL l = true by unfold greatL; rw [Htrue.out (by simp only [greatV, Bool.or_eq_true]; exact .inr (Hpt.out (by simp [lateW, Ha.out])))]; rfl]; rfl, Hbj1.out⟩
              · by_cases hc : 60 < age
                · have Hc := Lib.hid hc
                  go_wp2
                  go_ret
                  exact ⟨by rw [show greatL l = true by unfold greatL; rw [Htrue.out (by simp only [greatV, Bool.or_eq_true]; exact .inr (Hpt.out (by simp [lateW, Hc.out])))]; rfl]; rfl, Hbj1.out⟩
                · go_wp2
                  go_roundw
                  case measure => simp [intOf]; omega
                  case rel => exact ⟨j + 1, hjt, by go_num, by rw [Hps.out, Hnoj.out]; simp [lateW, ha, hc], Hbj1.out⟩
            · have : j = wants.length := by omega
              subst this
              have Hnoj := Lib.hid hnoj
              have Hbj := Lib.hid hbj
              clear hnoj hbj
              go_wp2
              go_roundw
              case measure => simp [intOf]; omega
              case rel => exact ⟨k + 1, hlt, by go_num, by rw [Hsucc.out, Hno.out]; have := Hnoj.out; rw [List.take_length] at this; simp only [greatV, this, Bool.or_false, decide_eq_false hp30, decide_eq_false hw30], Hbj.out⟩
    · have : k = l.length := by omega
      subst this
      have Hno := Lib.hid hno
      have Hb := Lib.hid hb
      clear hno hb
      have h10 : greatL l = decide ((10 : Int) < (l.length : Int)) := by
        have h := Hno.out
        rw [List.take_length] at h
        simp only [greatL, h, Bool.false_or]
        exact decide_eq_decide.2 (by omega)
      have H10 := Lib.hid h10
      clear h10
      go_wp2
      go_ret
      exact ⟨by rw [H10.out]; rfl, Hb.out⟩

end Go.Proofs.Ytahgjfecffcknaa
