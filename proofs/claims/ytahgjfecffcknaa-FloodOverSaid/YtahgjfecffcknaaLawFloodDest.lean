/-
  The law FloodDest: its walk.
-/
import Derived.Test.YtahgjfecffcknaaFlWakes
namespace Go.Proofs.Ytahgjfecffcknaa
open Go.RowKit

theorem great_v {A : Option Addr} {cap : Nat} {l : List Viw} {w : World} {B : Nat} (hl : ViewsAt w B A l) (hB : B ≤ w.heap.size) (hm : l.length ≤ maxLen) {b : Bool} (hb : greatL l = b) :
    Calls Try.prog 9 #[.slice A l.length cap] w fun r w' => r = .returned (.bool b) ∧ Below w.heap.size w w' := by
  subst hb; exact great_any A cap l w B hl hB hm
theorem busy_v {A : Option Addr} {cap : Nat} {l : List Viw} {w : World} {B : Nat} (hl : ViewsAt w B A l) (hB : B ≤ w.heap.size) (hm : l.length ≤ maxLen) {b : Bool} (hb : busyL l = b) :
    Calls Try.prog 11 #[.slice A l.length cap] w fun r w' => r = .returned (.bool b) ∧ Below w.heap.size w w' := by
  subst hb; exact busy_any A cap l w B hl hB hm
theorem dest_v {a b c d e : Int} {w : World} {x : Int} (hx : destI c = x) :
    Calls Try.prog 15 #[.agg #[.int .i64 a, .int .i64 b, .int .i64 c, .int .i64 d, .int .i64 e]] w fun r w' => r = .returned (.int .i64 x) ∧ Below w.heap.size w w' := by
  subst hx; exact dest_any a b c d e w
theorem destI_cases (c : Int) : ((c == 3) = true ∧ destI c = 0) ∨ ((c == 3) = false ∧ (c == 4) = true ∧ destI c = 0) ∨ ((c == 3) = false ∧ (c == 4) = false ∧ destI c = 16) := by
  unfold destI
  by_cases h3 : c = 3
  · exact .inl ⟨by simp [h3], by simp [h3]⟩
  · by_cases h4 : c = 4
    · exact .inr (.inl ⟨by simp [h3], by simp [h4], by simp [h4]⟩)
    · exact .inr (.inr ⟨by simp [h3], by simp [h4], by simp [h3, h4]⟩)
theorem worksB_cases (b : Bool) (p : Peer) : (b = true ∧ (b || worksB p) = true) ∨ (b = false ∧ (p.state == 4) = true ∧ (b || worksB p) = true) ∨ (b = false ∧ (p.state == 4) = false ∧ (p.state == 5) = true ∧ (b || worksB p) = true) ∨ (b = false ∧ (p.state == 4) = false ∧ (p.state == 5) = false ∧ (b || worksB p) = false) := by
  unfold worksB
  cases b <;> cases (p.state == 4) <;> cases (p.state == 5) <;> simp
theorem destR0 {w : World} {a b c d e : Int} {w1 : World} (hb1 : Below (w.alloc (.cells #[.int .i64 a, .int .i64 b, .int .i64 c, .int .i64 d, .int .i64 e] 44)).heap.size (w.alloc (.cells #[.int .i64 a, .int .i64 b, .int .i64 c, .int .i64 d, .int .i64 e] 44)) w1) :
    Blk w1 w.heap.size 44 #[.int .i64 a, .int .i64 b, .int .i64 c, .int .i64 d, .int .i64 e] ∧ Below w.heap.size w w1 :=
  ⟨(Blk.new w _ _).below hb1 (by simp), ((Below.refl _ _).alloc (Nat.le_refl _) _).trans (hb1.mono (by simp))⟩
theorem any_take_or {α : Type} (f : α → Bool) (l : List α) (k : Nat) (hk : k < l.length) (b : Bool) : (b || (l.take (k + 1)).any f) = ((b || (l.take k).any f) || f l[k]) := by
  rw [any_take_succ f l k hk, Bool.or_assoc]

set_option maxHeartbeats 4000000 in
set_option maxRecDepth 100000 in
theorem floodDest_any (a b c d e : Int) (A : Option Addr) (cap : Nat) (l : List Viw) (w : World) (hl : ViewsAt w w.heap.size A l) (hm : l.length ≤ maxLen) :
    Calls Try.prog 5 #[.agg #[.int .i64 a, .int .i64 b, .int .i64 c, .int .i64 d, .int .i64 e], .slice A l.length cap] w fun r w' => r = .returned (.bool true) ∧ Below w.heap.size w w' := by
  have Hl := Lib.hid hl
  have Hm := Lib.hid hm
  unfold maxLen at hm
  clear hl
  cases hg : greatL l
  · have Hg := Lib.hid hg
    clear hg
    obtain ⟨D, hd⟩ : ∃ D, ((c == 3) = true ∧ destI c = D ∧ D = 0) ∨ ((c == 3) = false ∧ (c == 4) = true ∧ destI c = D ∧ D = 0) ∨ ((c == 3) = false ∧ (c == 4) = false ∧ destI c = D ∧ D = 16) := by
      rcases destI_cases c with ⟨h1, h2⟩ | ⟨h1, h2, h3⟩ | ⟨h1, h2, h3⟩
      · exact ⟨_, .inl ⟨h1, h2, rfl⟩⟩
      · exact ⟨_, .inr (.inl ⟨h1, h2, h3, rfl⟩)⟩
      · exact ⟨_, .inr (.inr ⟨h1, h2, h3, rfl⟩)⟩
    rcases hd with ⟨t1, hD, rfl⟩ | ⟨t1, t2, hD, rfl⟩ | ⟨t1, t2, hD, rfl⟩
    all_goals
     have HD := Lib.hid hD
     clear hD
     go_enter Try.func5, Try.ntmps5
     go_wp2_with (first
       | (go_at_call 6; (with_reducible refine Calls.mono (wakes18 _) ?_); rintro r w1 ⟨rfl, hb1⟩; have hB := (destR0 hb1).1; have hb := (destR0 hb1).2; have HB := Lib.hid hB; clear hB hb1)
       | (go_at_call 9; (with_reducible refine Calls.mono (great_v (Hl.out.below hb) hb.size Hm.out Hg.out) ?_); rintro r w2 ⟨rfl, hb2⟩; have hB := HB.out.below hb2 HB.out.lt; obtain ⟨c0, c1, c2, c3, c4⟩ : w2.cell? ⟨w.heap.size, 0, none⟩ = _ ∧ w2.cell? ⟨w.heap.size, 1, none⟩ = _ ∧ w2.cell? ⟨w.heap.size, 2, none⟩ = _ ∧ w2.cell? ⟨w.heap.size, 3, none⟩ = _ ∧ w2.cell? ⟨w.heap.size, 4, none⟩ = _ := ⟨hB.cell 0, hB.cell 1, hB.cell 2, hB.cell 3, hB.cell 4⟩; have Hb := Lib.hid (hb.trans (hb2.mono hb.size)); have HB := Lib.hid hB; clear hB hb2 hb))
     go_loopw [6, 25] (fun q i wr => ∃ k : Nat, k ≤ l.length ∧ i = .int .i64 k ∧ q = .bool ((l.take k).any busyV) ∧ Blk wr w.heap.size 44 #[.int .i64 a, .int .i64 b, .int .i64 c, .int .i64 d, .int .i64 e] ∧ Below w.heap.size w wr) (fun _ i _ => l.length - (intOf i).toNat)
     case atStart => exact ⟨0, Nat.zero_le _, rfl, by simp, HB.out, Hb.out⟩
     case round =>
       obtain ⟨k, hk, rfl, rfl, hB, hb⟩ := hrel
       by_cases hlt : k < l.length
       · obtain ⟨b0, o, rfl, hbB, _, e0, e1, e2, e3, e4, e5, e6, e7, e8⟩ := (Hl.out.below hb).at_ k hlt
         have hok := Hl.out.2 l[k] (List.getElem_mem hlt)
         have hsucc := any_take_succ busyV l k hlt
         generalize l[k] = v at *
         rcases v with ⟨lan, cost, self, prio, state, dr, bdr, pa, pcap, peers, wa, wcap, wants⟩
         have hpm := hok.2.2.1
         unfold maxLen at hpm
         simp only at hpm
         have Hok := Lib.hid hok.1
         have Hb1 := Lib.hid (below_view hb (.cells #[.int .i64 lan, .int .i64 cost, .int .i64 self, .int .i64 prio, .int .i64 state, .int .i64 dr, .int .i64 bdr, .slice pa peers.length pcap, .slice wa wants.length wcap] 48))
         have HB1 := Lib.hid (hB.alloc (.cells #[.int .i64 lan, .int .i64 cost, .int .i64 self, .int .i64 prio, .int .i64 state, .int .i64 dr, .int .i64 bdr, .slice pa peers.length pcap, .slice wa wants.length wcap] 48))
         have Hsucc := Lib.hid hsucc
         clear hok hsucc hb hbB hB
         generalize (l.take k).any busyV = q0 at *
         go_wp2
         go_loopw [6, 32] (fun q i wi => ∃ j : Nat, j ≤ peers.length ∧ i = .int .i64 j ∧ q = .bool (q0 || (peers.take j).any worksB) ∧ Blk wi w.heap.size 44 #[.int .i64 a, .int .i64 b, .int .i64 c, .int .i64 d, .int .i64 e] ∧ Below w.heap.size w wi) (fun _ i _ => peers.length - (intOf i).toNat)
         case atStart => exact ⟨0, Nat.zero_le _, rfl, by simp, HB1.out, Hb1.out⟩
         case round =>
           obtain ⟨j, hj, rfl, rfl, hBj, hbj⟩ := hrel
           by_cases hjt : j < peers.length
           · obtain ⟨b', o', rfl, hbB', x0, x1, x2, x3, x4, x5, x6⟩ := Peers.at_ (Hok.out.below hbj) j hjt
             have hps := any_take_or worksB peers j hjt q0
             generalize peers[j] = p at *
             generalize (q0 || (peers.take j).any worksB) = q1 at *
             have hwc := worksB_cases q1 p
             rw [← hps] at hwc
             rcases p with ⟨pi, pp, pd, pb, ps, pt, pat⟩
             simp only at hwc
             have Hbj1 := Lib.hid (below_view hbj (.cells #[.int .i64 pi, .int .i64 pp, .int .i64 pd, .int .i64 pb, .int .i64 ps, .bool pt, .int .i64 pat] 55))
             have HBj1 := Lib.hid (hBj.alloc (.cells #[.int .i64 pi, .int .i64 pp, .int .i64 pd, .int .i64 pb, .int .i64 ps, .bool pt, .int .i64 pat] 55))
             clear hps hbj hbB' hBj
             rcases hwc with ⟨rfl, hq⟩ | ⟨rfl, u1, hq⟩ | ⟨rfl, u1, u2, hq⟩ | ⟨rfl, u1, u2, hq⟩
             all_goals
               have Hq := Lib.hid hq
               clear hq
               go_wp2
               go_roundw
               case measure => simp [intOf]; omega
               case rel => exact ⟨j + 1, hjt, by go_num, by rw [Hq.out], HBj1.out, Hbj1.out⟩
           · have : j = peers.length := by omega
             subst this
             rw [List.take_length]
             have hq : (q0 || peers.any worksB) = (l.take (k + 1)).any busyV := by rw [Hsucc.out]; rfl
             rw [hq]
             have HBj := Lib.hid hBj
             have Hbj := Lib.hid hbj
             clear hBj hbj hq
             go_wp2
             go_roundw
             case measure => simp [intOf]; omega
             case rel => exact ⟨k + 1, hlt, by go_num, rfl, HBj.out, Hbj.out⟩
       · have : k = l.length := by omega
         subst this
         rw [List.take_length]
         have hq : l.any busyV = busyL l := rfl
         rw [hq]
         obtain ⟨q2, hq2⟩ : ∃ q, busyL l = q := ⟨_, rfl⟩
         rw [hq2]
         have Hq2 := Lib.hid hq2
         obtain ⟨c0, c1, c2, c3, c4⟩ : wr.cell? ⟨w.heap.size, 0, none⟩ = _ ∧ wr.cell? ⟨w.heap.size, 1, none⟩ = _ ∧ wr.cell? ⟨w.heap.size, 2, none⟩ = _ ∧ wr.cell? ⟨w.heap.size, 3, none⟩ = _ ∧ wr.cell? ⟨w.heap.size, 4, none⟩ = _ := ⟨hB.cell 0, hB.cell 1, hB.cell 2, hB.cell 3, hB.cell 4⟩
         have Hb := Lib.hid hb
         clear hq hq2 hB hb
         go_wp2_with (first
           | (go_at_call 15; (with_reducible refine Calls.mono (dest_v HD.out) ?_); rintro r w5 ⟨rfl, hb5⟩; have Hb5 := Lib.hid (Hb.out.trans (hb5.mono Hb.out.size)); clear hb5)
           | (go_at_call 11; (with_reducible refine Calls.mono (busy_v (Hl.out.below Hb5.out) Hb5.out.size Hm.out Hq2.out) ?_); rintro r w6 ⟨rfl, hb6⟩; have Hb6 := Lib.hid (Hb5.out.trans (hb6.mono Hb5.out.size)); clear hb6))
         go_ret
         exact ⟨by simp, Hb6.out⟩
  · have Hg := Lib.hid hg
    clear hg
    go_enter Try.func5, Try.ntmps5
    go_wp2_with (first
      | (go_at_call 6; (with_reducible refine Calls.mono (wakes18 _) ?_); rintro r w1 ⟨rfl, hb1⟩; have hb := (destR0 hb1).2; clear hb1)
      | (go_at_call 9; (with_reducible refine Calls.mono (great_v (Hl.out.below hb) hb.size Hm.out Hg.out) ?_); rintro r w2 ⟨rfl, hb2⟩; have Hb := Lib.hid (hb.trans (hb2.mono hb.size)); clear hb2 hb))
    go_ret
    exact ⟨rfl, Hb.out⟩

end Go.Proofs.Ytahgjfecffcknaa
