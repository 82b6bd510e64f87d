/-
  The reference's Busy, and its Same.
-/
import Derived.BigRegion
import Derived.Deep.QuietTactic
import Derived.Test.YtahgjfecffcknaaFlRefOver
namespace Go.Proofs.Ytahgjfecffcknaa
open Go.RowKit

theorem any_take_or2 {α : Type} (f : α → Bool) (l : List α) (k : Nat) (hk : k < l.length) (b : Bool) : (b || (l.take (k + 1)).any f) = ((b || (l.take k).any f) || f l[k]) := by
  rw [any_take_succ f l k hk, Bool.or_assoc]

set_option maxHeartbeats 4000000 in
set_option maxRecDepth 100000 in
theorem refBusy_any (A : Option Addr) (cap : Nat) (l : List Viw) (w : World) (B : Nat) (hl : ViewsAt w B A l) (hB : B ≤ w.heap.size) (hlen : l.length ≤ 10) (hpl : ∀ v ∈ l, v.peers.length ≤ 30) {x : Bool} (hx : busyL l = x) :
    Calls Try.prog 12 #[.slice A l.length cap] w fun r w' => r = .returned (.bool x) ∧ Below w.heap.size w w' := by
  have Hl := Lib.hid (hl.more hB)
  have Hpl := Lib.hid hpl
  have Hx := Lib.hid hx
  clear hl hB hpl hx
  go_enter Try.func12, Try.ntmps12
  go_wp2
  go_loopw [3, 4] (fun c i wr => ∃ k n : Nat, k ≤ l.length ∧ i = .int .i64 k ∧ c = .int .i64 n ∧ n ≤ 30 * k ∧ decide (0 < n) = (l.take k).any busyV ∧ Below w.heap.size w wr) (fun _ i _ => l.length - (intOf i).toNat)
  case atStart => exact ⟨0, 0, Nat.zero_le _, rfl, rfl, Nat.le_refl _, by simp, Below.refl _ _⟩
  case round =>
    obtain ⟨k, n, hk, rfl, rfl, hn, hq, hb⟩ := hrel
    by_cases hlt : k < l.length
    · have hok := Hl.out.2 l[k] (List.getElem_mem hlt)
      have hview : ∀ wi, Below w.heap.size w wi → _ := fun wi hbi => (Hl.out.below hbi).at_ k hlt
      have hpk := Hpl.out l[k] (List.getElem_mem hlt)
      have hsucc := any_take_succ busyV l k hlt
      generalize l[k] = v at *
      rcases v with ⟨lan, cost, self, prio, state, dr, bdr, pa, pcap, peers, wa, wcap, wants⟩
      simp only at hpk
      have Hok := Lib.hid hok.1
      have Hb := Lib.hid hb
      have Hq := Lib.hid hq
      have Hsucc := Lib.hid hsucc
      have Hview := Lib.hid hview
      clear hok hsucc hb hview hq
      go_wp2
      go_loopw [3, 5] (fun c i wi => ∃ j m : Nat, j ≤ peers.length ∧ i = .int .i64 j ∧ c = .int .i64 m ∧ m ≤ 30 * k + j ∧ decide (0 < m) = ((l.take k).any busyV || (peers.take j).any worksB) ∧ Below w.heap.size w wi) (fun _ i _ => peers.length - (intOf i).toNat)
      case atStart => exact ⟨0, n, Nat.zero_le _, rfl, rfl, hn, by simpa using Hq.out, Hb.out⟩
      case round =>
        obtain ⟨j, m, hj, rfl, rfl, hm, hqj, hbj⟩ := hrel
        obtain ⟨b, o, rfl, hbB, _, e0, e1, e2, e3, e4, e5, e6, e7, e8⟩ := Hview.out _ hbj
        by_cases hjt : j < peers.length
        · obtain ⟨b', o', rfl, hbB', x0, x1, x2, x3, x4, x5, x6⟩ := Peers.at_ (Hok.out.below hbj) j hjt
          have hps := any_take_or2 worksB peers j hjt ((l.take k).any busyV)
          generalize peers[j] = p at *
          rw [← hqj] at hps
          rcases p with ⟨pi, pp, pd, pb, ps, pt, pat⟩
          have Hbj := Lib.hid hbj
          have Hqj := Lib.hid hqj
          have Hps := Lib.hid hps
          clear hps hqj hbj hbB' hbB
          cases hw : worksB ⟨pi, pp, pd, pb, ps, pt, pat⟩
          · have Hw := Lib.hid hw
            clear hw
            go_wp2_with (go_at_call 19; (with_reducible refine Calls.mono (atWork_any _ _ _ _ _ _ _ _) ?_); rw [Hw.out]; rintro r w2 ⟨rfl, hb2⟩; have Hb2 := Lib.hid (Hbj.out.trans (hb2.mono Hbj.out.size)); clear hb2)
            go_roundw
            case measure => simp [intOf]; omega
            case rel => exact ⟨j + 1, m, hjt, by go_num, rfl, by omega, by rw [Hps.out, Hw.out]; simp, Hb2.out⟩
          · have Hw := Lib.hid hw
            clear hw
            go_wp2_with (go_at_call 19; (with_reducible refine Calls.mono (atWork_any _ _ _ _ _ _ _ _) ?_); rw [Hw.out]; rintro r w2 ⟨rfl, hb2⟩; have Hb2 := Lib.hid (Hbj.out.trans (hb2.mono Hbj.out.size)); clear hb2)
            go_roundw
            case measure => simp [intOf]; omega
            case rel => exact ⟨j + 1, m + 1, hjt, by go_num, by go_num, by omega, by rw [Hps.out, Hw.out]; simp, Hb2.out⟩
        · have : j = peers.length := by omega
          subst this
          rw [List.take_length] at hqj
          have hq2 : decide (0 < m) = (l.take (k + 1)).any busyV := by rw [Hsucc.out, hqj]; rfl
          have Hq2 := Lib.hid hq2
          have Hbj := Lib.hid hbj
          clear hqj hq2 hbj hbB
          go_wp2
          go_roundw
          case measure => simp [intOf]; omega
          case rel => exact ⟨k + 1, m, hlt, by go_num, rfl, by omega, Hq2.out, Hbj.out⟩
    · have : k = l.length := by omega
      subst this
      rw [List.take_length] at hq
      have hq' : decide (0 < n) = x := hq.trans Hx.out
      have Hq := Lib.hid hq'
      have Hb := Lib.hid hb
      clear hq hq' hb
      go_wp2
      go_ret
      exact ⟨by rw [← Hq.out]; rfl, Hb.out⟩

set_option maxHeartbeats 1000000 in
set_option maxRecDepth 100000 in
/-- two rows of the same numbers are alike -/
theorem ints_same (l : List Int) (hlen : l.length ≤ 1000) (v v' : Value) (B B' : Nat) (w : World) (h1 : OwnI w B v l) (h2 : OwnI w B' v' l) :
    Calls Try.prog 20 #[v, v'] w fun r w' => r = .returned (.bool true) ∧ Below w.heap.size w w' := by
  have H1 := Lib.hid h1
  have H2 := Lib.hid h2
  obtain ⟨A1, c1, rfl⟩ := h1.shape
  obtain ⟨A2, c2, rfl⟩ := h2.shape
  clear h1 h2
  go_enter Try.func20, Try.ntmps20
  go_wp2
  go_loopw [5] (fun i wr => ∃ k : Nat, k ≤ l.length ∧ i = .int .i64 k ∧ Below w.heap.size w wr) (fun i _ => l.length - (intOf i).toNat)
  case atStart => exact ⟨0, Nat.zero_le _, rfl, Below.refl _ _⟩
  case round =>
    obtain ⟨k, hk, rfl, hb⟩ := hrel
    by_cases hlt : k < l.length
    · obtain ⟨g, cp, e, _, _, x0⟩ := (H1.out.below hb).at_ k hlt
      obtain ⟨g', cp', e', _, _, y0⟩ := (H2.out.below hb).at_ k hlt
      simp only [Value.slice.injEq] at e e'
      obtain ⟨rfl, _, rfl⟩ := e
      obtain ⟨rfl, _, rfl⟩ := e'
      generalize l[k] = z at *
      have Hb := Lib.hid hb
      clear hb
      go_wp2_with fail
      go_region
      all_goals
        go_wp2
        go_roundw
        case measure => simp [intOf]; omega
        case rel => exact ⟨k + 1, hlt, by go_num, Hb.out.drew⟩
    · have Hb := Lib.hid hb
      clear hb
      go_wp2
      go_ret
      exact ⟨rfl, Hb.out⟩

end Go.Proofs.Ytahgjfecffcknaa
