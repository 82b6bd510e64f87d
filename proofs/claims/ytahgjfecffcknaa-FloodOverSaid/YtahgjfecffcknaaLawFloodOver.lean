/-
  The law FloodOver: its walk.
-/
import Derived.StillTailTactics
import Derived.OrdersHeld
import Derived.Test.YtahgjfecffcknaaFlTells
import Derived.Test.YtahgjfecffcknaaFlRefBusy
import Derived.Test.YtahgjfecffcknaaLawFloodDest
namespace Go.Proofs.Ytahgjfecffcknaa
open Go.RowKit

set_option maxHeartbeats 1000000 in
set_option maxRecDepth 100000 in
theorem same_same (lan to : Int) (sent : Bool) (l : List Int) (hlen : l.length ≤ 1000) (v v' : Value) (B B' : Nat) (w : World) (h1 : OwnI w B v l) (h2 : OwnI w B' v' l) :
    Calls Try.prog 13 #[.agg #[.int .i64 lan, v, .bool sent, .int .i64 to], .agg #[.int .i64 lan, v', .bool sent, .int .i64 to]] w fun r w' => r = .returned (.bool true) ∧ Below w.heap.size w w' := by
  have hb0 := fun o p => ((Below.refl w.heap.size w).alloc (Nat.le_refl _) o).alloc (by simp) p
  have Hb0 := Lib.hid hb0
  have H1 := Lib.hid (fun o p => (h1.alloc o).alloc p)
  have H2 := Lib.hid (fun o p => (h2.alloc o).alloc p)
  obtain ⟨A1, c1, rfl⟩ := h1.shape
  obtain ⟨A2, c2, rfl⟩ := h2.shape
  clear h1 h2 hb0
  go_enter Try.func13, Try.ntmps13
  go_wp2_with (go_at_call 20; (with_reducible refine Calls.mono (ints_same l hlen _ _ _ _ _ (H1.out _ _) (H2.out _ _)) ?_); rintro r w2 ⟨rfl, hb2⟩; have Hb2 := Lib.hid ((Hb0.out _ _).trans (hb2.mono (Hb0.out _ _).size)); clear hb2)
  go_ret
  exact ⟨rfl, Hb2.out⟩

def tellV (h : Hd) (v : Viw) (p : Peer) : Bool := v.wants.any (wantsB h p.id)
theorem greatL_not {l : List Viw} (h : greatL l = false) : l.length ≤ 10 ∧ ∀ v ∈ l, v.peers.length ≤ 30 ∧ v.wants.length ≤ 30 ∧ ∀ x ∈ v.wants, lateW x = false := by
  unfold greatL at h
  simp only [Bool.or_eq_false_iff, decide_eq_false_iff_not] at h
  refine ⟨by omega, fun v hv => ?_⟩
  have hg := List.any_eq_false.1 h.1 v hv
  simp only [Bool.not_eq_true] at hg
  unfold greatV at hg
  simp only [Bool.or_eq_false_iff, decide_eq_false_iff_not] at hg
  exact ⟨by omega, by omega, fun x hx => by have := List.any_eq_false.1 hg.2 x hx; simpa using this⟩
theorem has_both {h : Hd} {v : Viw} {p : Peer} {w' : World} {B : Nat} (ha : 0 ≤ h.age) (ha' : h.age ≤ 60) (hok : RowsAt 8 Wnt.cells w' B v.wa v.wants) (hB : B ≤ w'.heap.size) (hm : v.wants.length ≤ 30) (hall : ∀ x ∈ v.wants, lateW x = false) :
    Calls Try.prog 22 #[h.val, p.val, .slice v.wa v.wants.length v.wcap] w' fun r w'' => r = .returned (.bool (hasB (tellV h v) p)) ∧ Below w'.heap.size w' w'' := by
  rcases h with ⟨a1, a2, a3, a4, a5, a6, a7⟩
  cases hp : worksB p
  · have e : hasB (tellV ⟨a1, a2, a3, a4, a5, a6, a7⟩ v) p = false := by simp [hasB, hp]
    rw [e]
    exact has_idle hp _ _ _ _ _ _ _ _ _ _ _
  · have e : hasB (tellV ⟨a1, a2, a3, a4, a5, a6, a7⟩ v) p = tellV ⟨a1, a2, a3, a4, a5, a6, a7⟩ v p := by simp [hasB, hp]
    rw [e]
    rcases p with ⟨p1, p2, p3, p4, p5, p6, p7⟩
    exact has_any _ _ _ _ _ _ _ _ _ _ _ _ _ _ _ _ _ _ B hok hB (by unfold maxLen; omega) ha ha' hall hp rfl
theorem tells_both {h : Hd} {v : Viw} {p : Peer} {w' : World} {B : Nat} (ha : 0 ≤ h.age) (ha' : h.age ≤ 60) (hok : RowsAt 8 Wnt.cells w' B v.wa v.wants) (hB : B ≤ w'.heap.size) (hm : v.wants.length ≤ 30) (hall : ∀ x ∈ v.wants, lateW x = false) :
    Calls Try.prog 21 #[h.val, p.val, .slice v.wa v.wants.length v.wcap] w' fun r w'' => r = .returned (.bool (tellV h v p)) ∧ Below w'.heap.size w' w'' := by
  rcases h with ⟨a1, a2, a3, a4, a5, a6, a7⟩
  rcases p with ⟨p1, p2, p3, p4, p5, p6, p7⟩
  exact tells_any _ _ _ _ _ _ _ _ _ _ _ _ _ _ _ _ _ _ B hok hB (by unfold maxLen; omega) ha ha' hall rfl
theorem overR0 {w w1 : World} {xs ys : Array Value} {t t' : TypeId} (hb1 : Below ((w.alloc (.cells xs t)).alloc (.cells ys t')).heap.size ((w.alloc (.cells xs t)).alloc (.cells ys t')) w1) :
    Blk w1 w.heap.size t xs ∧ Blk w1 (w.heap.size + 1) t' ys ∧ Below w.heap.size w w1 :=
  ⟨((Blk.new w _ _).alloc _).below hb1 (by simp; omega), (Blk.size (w := w.alloc (.cells xs t)) (by simp)).below hb1 (by simp), (((Below.refl _ _).alloc (Nat.le_refl _) _).alloc (by simp) _).trans (hb1.mono (by simp; omega))⟩

theorem cellIn {w W : World} {p : Addr} {v : Value} (h : w.cell? p = some v) (hW : Below w.heap.size w W) : W.cell? p = some v := (hW.cell (World.block_lt_of_cell? w _ h)).trans h
theorem wpOp_enter {P : Program} {ops : Array Oper} {Q : Exit → Act → World → Prop} {i : Nat} {o : Oper} {f : FuncId} {args : Array Value} {a : Act} {w : World} {K : Act → World → Prop} (hi : ops[i]? = some o) (hg : Region.wanted o (yielded ops a.tmps) = true)
    (hx : (execOp a.eval o).run P w = .ok (.enter f args) w) (hc : Calls P f args w fun e w'' => ∃ v, e = .returned v ∧ K (a.put o.dst v) w'') : wpOp P ops Q i K a w := by
  unfold wpOp
  simp only [hi, hg, if_true, Oper.wp, hx, Oper.upon]
  exact .inl (hc.mono fun e w'' ⟨v, he, hk⟩ => by subst he; exact hk)

set_option maxHeartbeats 8000000 in
set_option maxRecDepth 100000 in
theorem floodOver_any (h : Hd) (f0 f1 : Int) (A : Option Addr) (cap : Nat) (l : List Viw) (w : World) (hl : ViewsAt w w.heap.size A l) (hm : l.length ≤ maxLen) :
    Calls Try.prog 4 #[.agg #[.int .i64 h.age, .int .i64 h.kind, .int .i64 h.id, .int .i64 h.adv, .int .i64 h.seq, .int .i64 h.sum, .int .i64 h.long], .agg #[.int .i64 f0, .int .i64 f1], .slice A l.length cap] w fun r w' => r = .returned (.bool true) ∧ Below w.heap.size w w' := by
  have Hl := Lib.hid hl
  have Hm := Lib.hid hm
  clear hl
  unfold maxLen at hm
  cases hg : greatL l
  · have Hg := Lib.hid hg
    obtain ⟨h10, hin⟩ := greatL_not hg
    have Hin := Lib.hid hin
    clear hg hin hm
    rcases h with ⟨a1, a2, a3, a4, a5, a6, a7⟩
    simp only
    by_cases hA : a1 < 0
    · go_enter Try.func4, Try.ntmps4
      go_wp2_with (first
        | (go_at_call 6; (with_reducible refine Calls.mono (wakes18 _) ?_); rintro r w1 ⟨rfl, hb1⟩; obtain ⟨hX, hY, hb⟩ := overR0 hb1; have HX := Lib.hid hX; have Hb := Lib.hid hb; clear hX hY hb hb1)
        | (go_at_call 9; (with_reducible refine Calls.mono (great_v (Hl.out.below Hb.out) Hb.out.size Hm.out Hg.out) ?_); rintro r w2 ⟨rfl, hb2⟩; have hX := HX.out.below hb2 HX.out.lt; obtain ⟨c0, c1, c2, c3, c4, c5, c6⟩ := Blk.cells7 hX; have Hb := Lib.hid (Hb.out.trans (hb2.mono Hb.out.size)); clear hb2 hX))
      go_ret
      exact ⟨rfl, Hb.out⟩
    by_cases hC : 60 < a1
    · go_enter Try.func4, Try.ntmps4
      go_wp2_with (first
        | (go_at_call 6; (with_reducible refine Calls.mono (wakes18 _) ?_); rintro r w1 ⟨rfl, hb1⟩; obtain ⟨hX, hY, hb⟩ := overR0 hb1; have HX := Lib.hid hX; have Hb := Lib.hid hb; clear hX hY hb hb1)
        | (go_at_call 9; (with_reducible refine Calls.mono (great_v (Hl.out.below Hb.out) Hb.out.size Hm.out Hg.out) ?_); rintro r w2 ⟨rfl, hb2⟩; have hX := HX.out.below hb2 HX.out.lt; obtain ⟨c0, c1, c2, c3, c4, c5, c6⟩ := Blk.cells7 hX; have Hb := Lib.hid (Hb.out.trans (hb2.mono Hb.out.size)); clear hb2 hX))
      go_ret
      exact ⟨rfl, Hb.out⟩
    have Hage := Lib.hid (And.intro (show 0 ≤ a1 by omega) (show a1 ≤ 60 by omega))
    obtain ⟨q, hq⟩ : ∃ q, busyL l = q := ⟨_, rfl⟩
    have Hq := Lib.hid hq
    have hcall : ∀ w2 : World, Below w.heap.size w w2 → _ := fun w2 hb => Over_any (fun v => hasB (tellV ⟨a1, a2, a3, a4, a5, a6, a7⟩ v)) a1 a2 a3 a4 a5 a6 a7 f0 f1 A cap l w2 w.heap.size (Hl.out.below hb) hb.size (by omega)
      (fun v hv => by have := (Hin.out v hv).1; omega)
      (fun v hv p _ w' hb' => has_both Hage.out.1 Hage.out.2 (((Hl.out.2 v hv).2.1.below hb).below (hb'.mono hb.size)) (Nat.le_trans hb.size hb'.size) (Hin.out v hv).2.1 (Hin.out v hv).2.2)
    have Hcall := Lib.hid hcall
    clear hq hcall
    go_enter Try.func4, Try.ntmps4
    go_wp2_with (first
      | (go_at_call 6; (with_reducible refine Calls.mono (wakes18 _) ?_); rintro r w1 ⟨rfl, hb1⟩; obtain ⟨hX, hY, hb⟩ := overR0 hb1; have HX := Lib.hid hX; have HY := Lib.hid hY; have Hb := Lib.hid hb; clear hX hY hb hb1)
      | (go_at_call 9; (with_reducible refine Calls.mono (great_v (Hl.out.below Hb.out) Hb.out.size Hm.out Hg.out) ?_); rintro r w2 ⟨rfl, hb2⟩; have hX := HX.out.below hb2 HX.out.lt; have hY := HY.out.below hb2 HY.out.lt; obtain ⟨c0, c1, c2, c3, c4, c5, c6⟩ := Blk.cells7 hX; obtain ⟨d0, d1, _⟩ := Blk.cells2 hY; have Hb := Lib.hid (Hb.out.trans (hb2.mono Hb.out.size)); have HX := Lib.hid hX; have HY := Lib.hid hY; clear hb2 hX hY)
      | (go_at_call 10; (with_reducible refine Calls.mono (Hcall.out _ Hb.out) ?_); rintro r w3 ⟨V, L, rfl, hown, hL, hb3⟩; obtain ⟨A3, c3', rfl⟩ := hown.shape; have hLl : L.length = l.length := (by have := congrArg List.length hL; simpa using this); have Hown := Lib.hid hown; have HL := Lib.hid hL; have HX := Lib.hid (HX.out.below hb3 HX.out.lt); have HY := Lib.hid (HY.out.below hb3 HY.out.lt); have hsz3 := hb3.size; have Hb := Lib.hid (Hb.out.trans (hb3.mono Hb.out.size)); clear hown hL hb3 c0 c1 c2 c3 c4 c5 c6 d0 d1)
      | (go_at_call 11; (with_reducible refine Calls.mono (busy_v (Hl.out.below Hb.out) Hb.out.size Hm.out Hq.out) ?_); rintro r w4 ⟨rfl, hb4⟩; have Hown := Lib.hid (Hown.out.below hb4); have HX := Lib.hid (HX.out.below hb4 HX.out.lt); have HY := Lib.hid (HY.out.below hb4 HY.out.lt); have Hb := Lib.hid (Hb.out.trans (hb4.mono Hb.out.size)); clear hb4)
      | (go_at_call 12; (with_reducible refine Calls.mono (refBusy_any A cap l _ _ (Hl.out.below Hb.out) Hb.out.size h10 (fun v hv => (Hin.out v hv).1) Hq.out) ?_); rintro r w5 ⟨rfl, hb5⟩; have Hown := Lib.hid (Hown.out.below hb5); have HX := Lib.hid (HX.out.below hb5 HX.out.lt); have HY := Lib.hid (HY.out.below hb5 HY.out.lt); have Hb := Lib.hid (Hb.out.trans (hb5.mono Hb.out.size)); clear hb5))
    clear hA hC
    have HLl := Lib.hid hLl
    clear hLl
    go_loopw [45] (fun i wr => ∃ k : Nat, k ≤ l.length ∧ i = .int .i64 k ∧ OwnS wr w2.heap.size (.slice A3 L.length c3') L ∧ Blk wr w.heap.size 24 #[.int .i64 a1, .int .i64 a2, .int .i64 a3, .int .i64 a4, .int .i64 a5, .int .i64 a6, .int .i64 a7] ∧ Blk wr (w.heap.size + 1) 37 #[.int .i64 f0, .int .i64 f1] ∧ Below w.heap.size w wr) (fun i _ => l.length - (intOf i).toNat)
    case atStart => exact ⟨0, Nat.zero_le _, rfl, Hown.out, HX.out, HY.out, Hb.out⟩
    case round =>
      obtain ⟨k, hk, rfl, hown, hX, hY, hb⟩ := hrel
      by_cases hlt : k < l.length
      · obtain ⟨b, o, rfl, hbB, _, e0, e1, e2, e3, e4, e5, e6, e7, e8⟩ := (Hl.out.below hb).at_ k hlt
        have hok := Hl.out.2 l[k] (List.getElem_mem hlt)
        have hink := Hin.out l[k] (List.getElem_mem hlt)
        have hkL : k < L.length := by have := HLl.out; omega
        have hLk : L[k].1 = overS (hasB (tellV ⟨a1, a2, a3, a4, a5, a6, a7⟩ l[k])) (cameB f0 f1 l[k]) f1 l[k] := by
          have h1 : (L.map (·.1))[k]? = (l.map (fun v => overS (hasB (tellV ⟨a1, a2, a3, a4, a5, a6, a7⟩ v)) (cameB f0 f1 v) f1 v))[k]? := by rw [HL.out]
          simpa [hkL, hlt] using h1
        generalize l[k] = v at *
        rcases hS : overS (hasB (tellV ⟨a1, a2, a3, a4, a5, a6, a7⟩ v)) (cameB f0 f1 v) f1 v with ⟨lan', L', sent, to⟩
        have hlan' : lan' = v.lan := (congrArg Spr.lan hS).symm
        have hLlen : L'.length ≤ 1000 := by
          have h1 : L' = listedL (hasB (tellV ⟨a1, a2, a3, a4, a5, a6, a7⟩ v)) (cameB f0 f1 v) f1 v.peers := (congrArg Spr.listed hS).symm
          have h2 := listed_len (hasB (tellV ⟨a1, a2, a3, a4, a5, a6, a7⟩ v)) (cameB f0 f1 v) f1 v.peers
          rw [← h1] at h2
          have := hink.1
          omega
        subst hlan'
        rw [hS] at hLk
        obtain ⟨came, hcm⟩ : ∃ c, cameB f0 f1 v = c := ⟨_, rfl⟩
        rw [hcm] at hS
        have hcame : (0 < f1 ∧ (f0 == v.lan) = came) ∨ (¬0 < f1 ∧ came = false) := by
          rw [← hcm]
          unfold cameB
          by_cases hf : 0 < f1
          · exact .inl ⟨hf, by rw [decide_eq_true hf, Bool.true_and, Bool.eq_iff_iff, beq_iff_eq, beq_iff_eq]; exact eq_comm⟩
          · exact .inr ⟨hf, by rw [decide_eq_false hf]; rfl⟩
        obtain ⟨wn, gn, hgn, hWn, hVn, hXn, hYn, hbn, hon⟩ : ∃ wn gn, wr.heap.size = gn ∧ wr.alloc (.cells #[.int .i64 v.lan, .int .i64 v.cost, .int .i64 v.self, .int .i64 v.prio, .int .i64 v.state, .int .i64 v.dr, .int .i64 v.bdr, .slice v.pa v.peers.length v.pcap, .slice v.wa v.wants.length v.wcap] 48) = wn ∧
          Blk wn gn 48 #[.int .i64 v.lan, .int .i64 v.cost, .int .i64 v.self, .int .i64 v.prio, .int .i64 v.state, .int .i64 v.dr, .int .i64 v.bdr, .slice v.pa v.peers.length v.pcap, .slice v.wa v.wants.length v.wcap] ∧
          Blk wn w.heap.size 24 #[.int .i64 a1, .int .i64 a2, .int .i64 a3, .int .i64 a4, .int .i64 a5, .int .i64 a6, .int .i64 a7] ∧ Blk wn (w.heap.size + 1) 37 #[.int .i64 f0, .int .i64 f1] ∧ Below w.heap.size w wn ∧ OwnS wn w2.heap.size (.slice A3 L.length c3') L :=
          ⟨_, _, rfl, rfl, Blk.new _ _ _, hX.alloc _, hY.alloc _, hb.alloc hb.size _, hown.alloc _⟩
        have hrc : ∀ w4 : World, Below w.heap.size w w4 → _ := fun w4 hb4 => refOver_any (tellV ⟨a1, a2, a3, a4, a5, a6, a7⟩ v) a1 a2 a3 a4 a5 a6 a7 came f0 f1 v.lan v.cost v.self v.prio v.state v.dr v.bdr v.pa v.pcap v.peers v.wa v.wcap v.wants w4 w.heap.size (hok.1.below hb4) hb4.size (by have := hink.1; omega) hcame
          (fun p _ w' hb' => tells_both (v := v) Hage.out.1 Hage.out.2 ((hok.2.1.below hb4).below (hb'.mono hb4.size)) (Nat.le_trans hb4.size hb'.size) hink.2.1 hink.2.2) hS
        obtain ⟨g, cp, eg, _, _, x0, x1, x2, x3⟩ := hon.at_ k hkL
        have hek := hon.each _ (List.getElem_mem hkL)
        rw [hLk] at x0 x2 x3 hek
        generalize L[k] = y at *
        rcases y with ⟨yS, sv⟩
        simp only at x1 hek
        simp only [Value.slice.injEq] at eg
        obtain ⟨rfl, _, rfl⟩ := eg
        obtain ⟨As, cs, hsv⟩ := hek.1.shape
        subst hsv
        obtain ⟨v0, v1, v2, v3, v4, v5, v6, v7, v8⟩ := Blk.cells9 hVn
        obtain ⟨c0, c1, c2, c3, c4, c5, c6⟩ := Blk.cells7 hXn
        obtain ⟨d0, d1, _⟩ := Blk.cells2 hYn
        have Hrc := Lib.hid hrc
        have Hst := Lib.hid (And.intro hon (And.intro hXn (And.intro hYn hbn)))
        have Hek := Lib.hid hek.1
        have HLl2 := Lib.hid hLlen
        clear hown hX hY hb hbB hok hink hLk hS hcm hcame hrc hek hVn hXn hYn hbn hon hLlen
        have fW : ∀ W, Below wn.heap.size wn W → W.cell? ⟨g, k * 4, none⟩ = _ ∧ W.cell? ⟨g, k * 4 + 1, none⟩ = _ ∧ W.cell? ⟨g, k * 4 + 2, none⟩ = _ ∧ W.cell? ⟨g, k * 4 + 3, none⟩ = _ ∧
            W.cell? ⟨w.heap.size, 0, none⟩ = _ ∧ W.cell? ⟨w.heap.size, 1, none⟩ = _ ∧ W.cell? ⟨w.heap.size, 2, none⟩ = _ ∧ W.cell? ⟨w.heap.size, 3, none⟩ = _ ∧ W.cell? ⟨w.heap.size, 4, none⟩ = _ ∧ W.cell? ⟨w.heap.size, 5, none⟩ = _ ∧ W.cell? ⟨w.heap.size, 6, none⟩ = _ ∧
            W.cell? ⟨w.heap.size + 1, 0, none⟩ = _ ∧ W.cell? ⟨w.heap.size + 1, 1, none⟩ = _ ∧
            W.cell? ⟨gn, 0, none⟩ = _ ∧ W.cell? ⟨gn, 1, none⟩ = _ ∧ W.cell? ⟨gn, 2, none⟩ = _ ∧ W.cell? ⟨gn, 3, none⟩ = _ ∧ W.cell? ⟨gn, 4, none⟩ = _ ∧ W.cell? ⟨gn, 5, none⟩ = _ ∧ W.cell? ⟨gn, 6, none⟩ = _ ∧ W.cell? ⟨gn, 7, none⟩ = _ ∧ W.cell? ⟨gn, 8, none⟩ = _ := fun W hW =>
          ⟨cellIn x0 hW, cellIn x1 hW, cellIn x2 hW, cellIn x3 hW, cellIn c0 hW, cellIn c1 hW, cellIn c2 hW, cellIn c3 hW, cellIn c4 hW, cellIn c5 hW, cellIn c6 hW, cellIn d0 hW, cellIn d1 hW, cellIn v0 hW, cellIn v1 hW, cellIn v2 hW, cellIn v3 hW, cellIn v4 hW, cellIn v5 hW, cellIn v6 hW, cellIn v7 hW, cellIn v8 hW⟩
        have FW := Lib.hid fW
        clear fW
        go_wp2_with fail
        clear x0 x1 x2 x3 c0 c1 c2 c3 c4 c5 c6 d0 d1 v0 v1 v2 v3 v4 v5 v6 v7 v8 e0 e1 e2 e3 e4 e5 e6 e7 e8 hWn
        have hkl : (k : Int) < (l.length : Int) := by omega
        refine wp_region_held (S := fun W => Below wn.heap.size wn W) (by kernel_rfl) ?_
        obtain ⟨wd, hwd⟩ : ∃ wd : World, ({ wn with drawn := wn.drawn + 1 } : World) = wd := ⟨_, rfl⟩
        rw [hwd]
        have hS : Below wn.heap.size wn wd := by rw [← hwd]; exact (Below.refl _ _).drew
        clear hwd
        refine wpAnyH_take (i := 0) rfl (by kernel_rfl) (by kernel_rfl) (by kernel_rfl) (fun _ _ _ h => h) (Or.inl ⟨rfl, fun W hW => by (obtain ⟨x0, x1, x2, x3, c0, c1, c2, c3, c4, c5, c6, d0, d1, v0, v1, v2, v3, v4, v5, v6, v7, v8⟩ := FW.out W hW); go_simp; try with_reducible rfl⟩) hS ?_
        refine wpAnyH_take (i := 1) rfl (by kernel_rfl) (by kernel_rfl) (by kernel_rfl) (fun _ _ _ h => h) (Or.inl ⟨rfl, fun W hW => by (obtain ⟨x0, x1, x2, x3, c0, c1, c2, c3, c4, c5, c6, d0, d1, v0, v1, v2, v3, v4, v5, v6, v7, v8⟩ := FW.out W hW); go_simp; try with_reducible rfl⟩) hS ?_
        refine wpAnyH_take (i := 2) rfl (by kernel_rfl) (by kernel_rfl) (by kernel_rfl) (fun _ _ _ h => h) (Or.inl ⟨rfl, fun W hW => by (obtain ⟨x0, x1, x2, x3, c0, c1, c2, c3, c4, c5, c6, d0, d1, v0, v1, v2, v3, v4, v5, v6, v7, v8⟩ := FW.out W hW); go_simp; try with_reducible rfl⟩) hS ?_
        refine wpAnyH_take (i := 3) rfl (by kernel_rfl) (by kernel_rfl) (by kernel_rfl) (fun _ _ _ h => h) (Or.inl ⟨rfl, fun W hW => by (obtain ⟨x0, x1, x2, x3, c0, c1, c2, c3, c4, c5, c6, d0, d1, v0, v1, v2, v3, v4, v5, v6, v7, v8⟩ := FW.out W hW); go_simp; try with_reducible rfl⟩) hS ?_
        refine wpAnyH_take (i := 4) rfl (by kernel_rfl) (by kernel_rfl) (by kernel_rfl) (fun _ _ _ h => h) (Or.inl ⟨rfl, fun W hW => by (obtain ⟨x0, x1, x2, x3, c0, c1, c2, c3, c4, c5, c6, d0, d1, v0, v1, v2, v3, v4, v5, v6, v7, v8⟩ := FW.out W hW); go_simp; try with_reducible rfl⟩) hS ?_
        refine wpAnyH_take (i := 5) rfl (by kernel_rfl) (by kernel_rfl) (by kernel_rfl) (fun _ _ _ h => h) (Or.inl ⟨rfl, fun W hW => by (obtain ⟨x0, x1, x2, x3, c0, c1, c2, c3, c4, c5, c6, d0, d1, v0, v1, v2, v3, v4, v5, v6, v7, v8⟩ := FW.out W hW); go_simp; try with_reducible rfl⟩) hS ?_
        refine wpAnyH_take (i := 6) rfl (by kernel_rfl) (by kernel_rfl) (by kernel_rfl) (fun _ _ _ h => h) (Or.inl ⟨rfl, fun W hW => by (obtain ⟨x0, x1, x2, x3, c0, c1, c2, c3, c4, c5, c6, d0, d1, v0, v1, v2, v3, v4, v5, v6, v7, v8⟩ := FW.out W hW); go_simp; try with_reducible rfl⟩) hS ?_
        refine wpAnyH_take (i := 7) rfl (by kernel_rfl) (by kernel_rfl) (by kernel_rfl) (fun _ _ _ h => h) (Or.inl ⟨rfl, fun W hW => by (obtain ⟨x0, x1, x2, x3, c0, c1, c2, c3, c4, c5, c6, d0, d1, v0, v1, v2, v3, v4, v5, v6, v7, v8⟩ := FW.out W hW); go_simp; try with_reducible rfl⟩) hS ?_
        refine wpAnyH_take (i := 8) rfl (by kernel_rfl) (by kernel_rfl) (by kernel_rfl) (fun _ _ _ h => h) (Or.inl ⟨rfl, fun W hW => by (obtain ⟨x0, x1, x2, x3, c0, c1, c2, c3, c4, c5, c6, d0, d1, v0, v1, v2, v3, v4, v5, v6, v7, v8⟩ := FW.out W hW); go_simp; try with_reducible rfl⟩) hS ?_
        refine wpAnyH_take (i := 9) rfl (by kernel_rfl) (by kernel_rfl) (by kernel_rfl) (fun _ _ _ h => h) (Or.inl ⟨rfl, fun W hW => by (obtain ⟨x0, x1, x2, x3, c0, c1, c2, c3, c4, c5, c6, d0, d1, v0, v1, v2, v3, v4, v5, v6, v7, v8⟩ := FW.out W hW); go_simp; try with_reducible rfl⟩) hS ?_
        refine wpAnyH_all (rs := [10]) (by kernel_rfl) (by simp) fun i0 hi0 => ?_
        obtain rfl := List.mem_singleton.1 hi0
        refine wpOp_enter (i := 10) rfl rfl (by go_simp; exact ⟨rfl, rfl⟩) ?_
        with_reducible refine Calls.mono (Hrc.out wd (Hst.out.2.2.2.trans (hS.mono Hst.out.2.2.2.size))) ?_
        rintro r w5 ⟨sv', rfl, hown5, hb5⟩
        have hS5 : Below wn.heap.size wn w5 := hS.trans (hb5.mono hS.size)
        refine ⟨_, rfl, hS5, ?_⟩
        refine wpAnyH_all (rs := [11]) (by kernel_rfl) (by simp) fun i0 hi0 => ?_
        obtain rfl := List.mem_singleton.1 hi0
        refine wpOp_enter (i := 11) rfl rfl (by go_simp; exact ⟨rfl, rfl⟩) ?_
        with_reducible refine Calls.mono (same_same v.lan to sent L' HLl2.out _ _ _ _ w5 (Hek.out.below hS5) hown5) ?_
        rintro r w6 ⟨rfl, hb6⟩
        have hS6 : Below wn.heap.size wn w6 := hS5.trans (hb6.mono hS5.size)
        refine ⟨_, rfl, hS6, ?_⟩
        refine wpAnyH_take (i := 12) rfl (by kernel_rfl) (by kernel_rfl) (by kernel_rfl) (fun _ _ _ h => h) (Or.inl ⟨rfl, fun W hW => by go_simp; try with_reducible rfl⟩) hS6 ?_
        refine wpAnyH_done (by kernel_rfl) ?_ _
        have Hend := Lib.hid (And.intro (Hst.out.1.below hS6) (And.intro (Hst.out.2.1.below hS6 Hst.out.2.1.lt) (And.intro (Hst.out.2.2.1.below hS6 Hst.out.2.2.1.lt) (Hst.out.2.2.2.trans (hS6.mono Hst.out.2.2.2.size)))))
        clear hS hS5 hS6 hb5 hb6 hown5
        go_simp
        go_wp2
        go_roundw
        case measure => simp [intOf]; omega
        case rel => exact ⟨k + 1, hlt, by go_num, Hend.out.1, Hend.out.2.1, Hend.out.2.2.1, Hend.out.2.2.2⟩
      · have Hb := Lib.hid hb
        clear hown hX hY hb
        go_wp2
        go_ret
        exact ⟨rfl, Hb.out⟩
  · have Hg := Lib.hid hg
    clear hg
    go_enter Try.func4, Try.ntmps4
    go_wp2_with (first
      | (go_at_call 6; (with_reducible refine Calls.mono (wakes18 _) ?_); rintro r w1 ⟨rfl, hb1⟩; obtain ⟨hX, hY, hb⟩ := overR0 hb1; have Hb := Lib.hid hb; clear hX hY hb hb1)
      | (go_at_call 9; (with_reducible refine Calls.mono (great_v (Hl.out.below Hb.out) Hb.out.size Hm.out Hg.out) ?_); rintro r w2 ⟨rfl, hb2⟩; have Hb := Lib.hid (Hb.out.trans (hb2.mono Hb.out.size)); clear hb2))
    go_ret
    exact ⟨rfl, Hb.out⟩

end Go.Proofs.Ytahgjfecffcknaa
