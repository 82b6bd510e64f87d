/-
  Layer 27: whether there is more than a statement takes.
-/
import Derived.Test.YtfhikkmgclkcdaaAuTable
namespace Go.Proofs.Ytfhikkmgclkcdaa
open Go.RowKit

def wideL (x : Lsa) : Bool := decide (20 < x.links.length) || decide (20 < x.members.length)
def greatS (s : Stt) : Bool := decide (6 < s.views.length) || decide (30 < s.lsas.length) || decide (30 < s.rn) || s.lsas.any wideL
def greatT (l : List Stt) : Bool := l.any greatS || decide (8 < l.length)
theorem Lsas.at_ {w : World} {B : Nat} {A : Option Addr} {l : List Lsa} (h : RowsAt 9 Lsa.cells w B A l) (k : Nat) (hk : k < l.length) : ∃ b o, A = some ⟨b, o, none⟩ ∧ b < B ∧
    w.cell? ⟨b, o + k * 9, none⟩ = some (.int .i64 l[k].head.age) ∧ w.cell? ⟨b, o + k * 9 + 1, none⟩ = some (.int .i64 l[k].head.kind) ∧ w.cell? ⟨b, o + k * 9 + 2, none⟩ = some (.int .i64 l[k].head.id) ∧ w.cell? ⟨b, o + k * 9 + 3, none⟩ = some (.int .i64 l[k].head.adv) ∧
    w.cell? ⟨b, o + k * 9 + 4, none⟩ = some (.int .i64 l[k].head.seq) ∧ w.cell? ⟨b, o + k * 9 + 5, none⟩ = some (.int .i64 l[k].head.sum) ∧ w.cell? ⟨b, o + k * 9 + 6, none⟩ = some (.int .i64 l[k].head.long) ∧
    w.cell? ⟨b, o + k * 9 + 7, none⟩ = some (.slice l[k].ka l[k].links.length l[k].kcap) ∧ w.cell? ⟨b, o + k * 9 + 8, none⟩ = some (.slice l[k].ma l[k].members.length l[k].mcap) := by
  obtain ⟨b, o, e, hb, hc⟩ := RowsAt.at_ h k hk
  exact ⟨b, o, e, hb, hc 0 _ (by omega) rfl, hc 1 _ (by omega) rfl, hc 2 _ (by omega) rfl, hc 3 _ (by omega) rfl, hc 4 _ (by omega) rfl, hc 5 _ (by omega) rfl, hc 6 _ (by omega) rfl, hc 7 _ (by omega) rfl, hc 8 _ (by omega) rfl⟩

set_option maxHeartbeats 2000000 in
set_option maxRecDepth 100000 in
theorem greatT_any (A : Option Addr) (cap : Nat) (l : List Stt) (w : World) (B : Nat) (hl : StatesAt w B A l) (hB : B ≤ w.heap.size) (hm : l.length ≤ maxLen) {x : Bool} (hx : greatT l = x) :
    Calls Try.prog 19 #[.slice A l.length cap] w fun r w' => r = .returned (.bool x) ∧ Below w.heap.size w w' := by
  subst hx
  unfold maxLen at hm
  have Hl := Lib.hid (hl.more hB)
  clear hl hB
  go_enter Try.func19, Try.ntmps19
  go_wp2
  go_loopw [9] (fun i wr => ∃ k : Nat, k ≤ l.length ∧ i = .int .i64 k ∧ (l.take k).any greatS = false ∧ Below w.heap.size w wr) (fun i _ => l.length - (intOf i).toNat)
  case atStart => exact ⟨0, Nat.zero_le _, rfl, by simp, Below.refl _ _⟩
  case round =>
    obtain ⟨wo, rfl⟩ : ∃ wo : World, wo = wr := ⟨_, rfl⟩
    obtain ⟨k, hk, rfl, hno, hb⟩ := hrel
    by_cases hlt : k < l.length
    · obtain ⟨b, o, rfl, -, e0, e1, e2, e3⟩ := States.at_ (Hl.out.below hb).rows k hlt
      have hok := (Hl.out.below hb).each _ (List.getElem_mem hlt)
      have hsucc := any_take_succ greatS l k hlt
      have htrue := fun h => any_true (f := greatS) hlt h
      have hkl : (k : Int) < (l.length : Int) := by omega
      generalize l[k] = s at *
      rcases s with ⟨id, va, vcap, views, la, lcap, lsas, ra, rn, rcap⟩
      have h1 := hok.viewsLen
      have h2 := hok.lsasLen
      have h3 := hok.routesLen
      unfold maxLen at h1 h2 h3
      simp only at h1 h2 h3
      obtain ⟨wq, hWq, hbq, hvq⟩ : ∃ wq, wo.alloc (.cells #[.int .i64 id, .slice va views.length vcap, .slice la lsas.length lcap, .slice ra rn rcap] 123) = wq ∧ Below w.heap.size w wq ∧ Blk wq wo.heap.size 123 #[.int .i64 id, .slice va views.length vcap, .slice la lsas.length lcap, .slice ra rn rcap] :=
        ⟨_, rfl, hb.alloc hb.size _, Blk.new _ _ _⟩
      have y1 : wq.cell? ⟨wo.heap.size, 1, none⟩ = some (.slice va views.length vcap) := hvq.cell 1
      have y2 : wq.cell? ⟨wo.heap.size, 2, none⟩ = some (.slice la lsas.length lcap) := hvq.cell 2
      have y3 : wq.cell? ⟨wo.heap.size, 3, none⟩ = some (.slice ra rn rcap) := hvq.cell 3
      have hokq := hok.lsas.below (w' := wq) (by rw [← hWq]; exact (Below.refl _ _).alloc hb.size _)
      have Hno := Lib.hid hno
      have Hbq := Lib.hid hbq
      have Hokq := Lib.hid hokq
      have Hsucc := Lib.hid hsucc
      have Htrue := Lib.hid htrue
      clear hno hok hokq hsucc htrue hb hvq hbq
      by_cases hv6 : 6 < views.length
      · have H6 := Lib.hid hv6
        have hv6' : (6 : Int) < (views.length : Int) := by omega
        go_wp2
        go_ret
        exact ⟨by rw [show greatT l = true by unfold greatT; rw [Htrue.out (by simp [greatS, H6.out])]; rfl]; rfl, Hbq.out⟩
      · by_cases hl30 : 30 < lsas.length
        · have H6 := Lib.hid hl30
          have hl30' : (30 : Int) < (lsas.length : Int) := by omega
          go_wp2
          go_ret
          exact ⟨by rw [show greatT l = true by unfold greatT; rw [Htrue.out (by simp [greatS, H6.out])]; rfl]; rfl, Hbq.out⟩
        · by_cases hr30 : 30 < rn
          · have H6 := Lib.hid hr30
            have hr30' : (30 : Int) < (rn : Int) := by omega
            go_wp2
            go_ret
            exact ⟨by rw [show greatT l = true by unfold greatT; rw [Htrue.out (by simp [greatS, H6.out])]; rfl]; rfl, Hbq.out⟩
          · have hv6' : ¬ (6 : Int) < (views.length : Int) := by omega
            have hl30' : ¬ (30 : Int) < (lsas.length : Int) := by omega
            have hr30' : ¬ (30 : Int) < (rn : Int) := by omega
            go_wp2
            go_loopw [32] (fun i wi => ∃ j : Nat, j ≤ lsas.length ∧ i = .int .i64 j ∧ (lsas.take j).any wideL = false ∧ Below w.heap.size w wi ∧ LsasAt wi w.heap.size la lsas) (fun i _ => lsas.length - (intOf i).toNat)
            case atStart => exact ⟨0, Nat.zero_le _, rfl, by simp, Hbq.out, Hokq.out⟩
            case round =>
              obtain ⟨j, hj, rfl, hnoj, hbj, hlj⟩ := hrel
              by_cases hjt : j < lsas.length
              · obtain ⟨b', o', rfl, -, x0, x1, x2, x3, x4, x5, x6, x7, x8⟩ := Lsas.at_ hlj.rows j hjt
                have hokj := hlj.each _ (List.getElem_mem hjt)
                have hps := any_take_succ wideL lsas j hjt
                have hpt := fun h => any_true (f := wideL) hjt h
                have hjl : (j : Int) < (lsas.length : Int) := by omega
                generalize lsas[j] = p at *
                rcases p with ⟨⟨q0, q1, q2, q3, q4, q5, q6⟩, ka, kcap, links, ma, mcap, members⟩
                have g1 := hokj.linksLen
                have g2 := hokj.membersLen
                unfold maxLen at g1 g2
                simp only at g1 g2
                have hbj1 := hbj.alloc hbj.size (.cells #[.int .i64 q0, .int .i64 q1, .int .i64 q2, .int .i64 q3, .int .i64 q4, .int .i64 q5, .int .i64 q6, .slice ka links.length kcap, .slice ma members.length mcap] 59)
                have hlj1 := hlj.below (w' := wr.alloc (.cells #[.int .i64 q0, .int .i64 q1, .int .i64 q2, .int .i64 q3, .int .i64 q4, .int .i64 q5, .int .i64 q6, .slice ka links.length kcap, .slice ma members.length mcap] 59)) ((Below.refl _ _).alloc hbj.size _)
                have Hnoj := Lib.hid hnoj
                have Hps := Lib.hid hps
                have Hpt := Lib.hid hpt
                have Hbj1 := Lib.hid hbj1
                have Hlj1 := Lib.hid hlj1
                clear hnoj hps hpt hbj hlj hokj hbj1 hlj1
                by_cases ha : 20 < links.length
                · have Ha := Lib.hid ha
                  have ha' : (20 : Int) < (links.length : Int) := by omega
                  go_wp2
                  go_ret
                  exact ⟨by rw [show greatT l = true by unfold greatT; rw [Htrue.out (by simp only [greatS, Bool.or_eq_true]; exact .inr (Hpt.out (by simp [wideL, Ha.out])))]; rfl]; rfl, Hbj1.out⟩
                · by_cases hc : 20 < members.length
                  · have Hc := Lib.hid hc
                    have ha' : ¬ (20 : Int) < (links.length : Int) := by omega
                    have hc' : (20 : Int) < (members.length : Int) := by omega
                    go_wp2
                    go_ret
                    exact ⟨by rw [show greatT l = true by unfold greatT; rw [Htrue.out (by simp only [greatS, Bool.or_eq_true]; exact .inr (Hpt.out (by simp [wideL, Hc.out])))]; rfl]; rfl, Hbj1.out⟩
                  · have ha' : ¬ (20 : Int) < (links.length : Int) := by omega
                    have hc' : ¬ (20 : Int) < (members.length : Int) := by omega
                    go_wp2
                    go_roundw
                    case measure => simp [intOf]; omega
                    case rel => exact ⟨j + 1, hjt, by go_num, by rw [Hps.out, Hnoj.out]; simp [wideL, ha, hc], Hbj1.out, Hlj1.out⟩
              · have hjj : j = lsas.length := by omega
                subst hjj
                have Hnoj := Lib.hid hnoj
                have Hbj := Lib.hid hbj
                clear hnoj hbj hlj
                go_wp2
                go_roundw
                case measure => simp [intOf]; omega
                case rel => exact ⟨k + 1, hlt, by go_num, by rw [Hsucc.out, Hno.out]; have := Hnoj.out; rw [List.take_length] at this; simp only [greatS, this, Bool.or_false, decide_eq_false hv6, decide_eq_false hl30, decide_eq_false hr30], Hbj.out⟩
    · have hkk : k = l.length := by omega
      subst hkk
      have h8 : greatT l = decide ((8 : Int) < (l.length : Int)) := by
        rw [List.take_length] at hno
        simp only [greatT, hno, Bool.false_or]
        exact decide_eq_decide.2 (by omega)
      have Hb := Lib.hid hb
      have H8 := Lib.hid h8
      clear hno hb h8
      go_wp2
      go_ret
      exact ⟨by rw [H8.out]; rfl, Hb.out⟩

end Go.Proofs.Ytfhikkmgclkcdaa
