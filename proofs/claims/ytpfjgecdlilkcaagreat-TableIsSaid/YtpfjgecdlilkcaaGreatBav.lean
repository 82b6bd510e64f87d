/-
  Layer 22: the document's ends of a network: its walk.
-/
import Derived.Deep.DeepMust
import Derived.Test.YtpfjgecdlilkcaaGreatBad
import Derived.Test.YtpfjgecdlilkcaaGreatBao
import Derived.Test.YtpfjgecdlilkcaaGreatBap
import Derived.Test.YtpfjgecdlilkcaaGreatBar
import Derived.Test.YtpfjgecdlilkcaaGreatBau
namespace Go.Proofs.YtpfjgecdlilkcaaGreat
open Go.RowKit

/-- the ends so far, in memory -/
structure EndsTo (w wr : World) (v : Value) (X : List EndM) : Prop where
  row : OwnR 76 2 EndM.cells wr w.heap.size v X
  each : ∀ x ∈ X, RowsH w w.heap.size x.A x.next ∨ OwnH wr w.heap.size (.slice x.A x.next.length x.cap) x.next
  low : ∀ x ∈ X, x.next.length ≤ 64
  bel : Below w.heap.size w wr
section
variable {w wr wr' : World} {v v' : Value} {X : List EndM} {x : EndM}
theorem EndsTo.below (h : EndsTo w wr v X) (hb : Below wr.heap.size wr wr') : EndsTo w wr' v X := ⟨h.row.below hb, fun x hx => (h.each x hx).imp id fun g => g.below hb, h.low, below_trans h.bel h.bel.size hb⟩
theorem EndsTo.app (h : EndsTo w wr v X) (hg : wr.grownBy wr' v.ownBlock) (hr : OwnR 76 2 EndM.cells wr' w.heap.size v' (X ++ [x])) (hx : RowsH w w.heap.size x.A x.next ∨ OwnH wr w.heap.size (.slice x.A x.next.length x.cap) x.next) (hl : x.next.length ≤ 64) : EndsTo w wr' v' (X ++ [x]) where
  row := hr
  each := by
    intro y hy
    rcases List.mem_append.1 hy with hy | hy
    · exact (h.each y hy).imp id fun g => g.kept hg (own_two g h.row (by decide))
    · rw [List.mem_singleton] at hy
      subst hy
      exact hx.imp id fun g => g.kept hg (own_two g h.row (by decide))
  low := by
    intro y hy
    rcases List.mem_append.1 hy with hy | hy
    · exact h.low y hy
    · rw [List.mem_singleton] at hy
      subst hy
      exact hl
  bel := h.bel.grown hg h.bel.size fun m e => (h.row.block m e).1
theorem EndsTo.setc {g i : Nat} {u : Value} (h : EndsTo w wr v X) (hg : w.heap.size ≤ g) (hv : v.ownBlock = none ∨ v.ownBlock ≠ some g) (hx : ∀ x ∈ X, OwnH wr w.heap.size (.slice x.A x.next.length x.cap) x.next → (Value.slice x.A x.next.length x.cap).ownBlock = none ∨ (Value.slice x.A x.next.length x.cap).ownBlock ≠ some g) : EndsTo w (wr.setCell ⟨g, i, none⟩ u) v X where
  row := h.row.kept (grown_setC wr g i u) hv
  each := fun x hx' => (h.each x hx').imp id fun q => q.kept (grown_setC wr g i u) (hx x hx' q)
  low := h.low
  bel := h.bel.setCell (p := ⟨g, i, none⟩) hg u
theorem EndsTo.reads {A : Option Addr} {n c : Nat} (h : EndsTo w wr (.slice A n c) X) : EndsIn wr wr.heap.size A X where
  rows := (OwnR.rows (C := 2) (cells := EndM.cells) (fun _ => rfl) h.row).2
  each := fun x hx => by
    rcases h.each x hx with g | g
    · exact (g.below h.bel).more h.bel.size
    · exact (OwnR.rows (C := 2) (cells := Hp.cells) (fun _ => rfl) g).2
  low := fun x hx => Nat.le_trans (h.low x hx) (by decide)
end
theorem blk3l {w : World} {g : Nat} {t : TypeId} {a b c : Value} (h : Blk w g t #[a, b, c]) : w.cell? ⟨g, 0, none⟩ = some a ∧ w.cell? ⟨g, 1, none⟩ = some b ∧ w.cell? ⟨g, 2, none⟩ = some c := ⟨h.cell 0, h.cell 1, h.cell 2⟩
set_option maxHeartbeats 16000000 in
set_option maxRecDepth 100000 in
theorem refEnds_any (self lan : Int) (AN AF : Option Addr) (cN nN cF nF : Nat) (N : List NodeM) (F : List Lf) (w : World) (hN : NodesIn w w.heap.size AN N) (hF : RowsAt 3 Lf.cells w w.heap.size AF F) (hOk : NodesOk (N.map NodeM.nk)) (hFok : LeavesOk F) (hlow : ∀ x ∈ N, x.next.length ≤ 64)
    (hNl : N.length ≤ 79) (hFl : F.length ≤ 100) (hnN : N.length = nN) (hnF : F.length = nF) :
    Calls Tryz.prog 25 #[.int .i64 self, .int .i64 lan, .slice AN nN cN, .slice AF nF cF] w fun r w' => (∃ A n c X, r = .returned (.slice A n c) ∧ X.map EndM.ev = endsV self lan (N.map NodeM.nk) F ∧ X.length = n ∧ EndsIn w' w'.heap.size A X) ∧ Below w.heap.size w w' := by
  have HN := Lib.hid (fun W (hW : Below w.heap.size w W) => (hN.below hW))
  have HF := Lib.hid (fun W (hW : Below w.heap.size w W) => (hF.below hW))
  have HOk := Lib.hid hOk
  have HFok := Lib.hid hFok
  have Hlow := Lib.hid hlow
  have HnN := Lib.hid hnN
  have HnF := Lib.hid hnF
  have HNl := Lib.hid hNl
  have HFl := Lib.hid hFl
  have hnNi : (nN : Int) ≤ 79 := by omega
  have hnFi : (nF : Int) ≤ 100 := by omega
  clear hN hF hOk hFok hlow hnN hnF hNl hFl
  go_enter Tryz.func25, Tryz.ntmps25
  go_wp2
  go_loopw [9, 10] (fun o i wr => ∃ (k n c : Nat) (A : Option Addr) (X : List EndM), i = .int .i64 k ∧ k ≤ nN ∧ o = .slice A n c ∧ X.length = n ∧ EndsTo w wr (.slice A n c) X ∧ X.map EndM.ev = nodeEnds lan ((N.take k).map NodeM.nk)) (fun _ i _ => nN - (intOf i).toNat)
  case atStart => exact ⟨0, 0, 0, none, [], rfl, Nat.zero_le _, rfl, rfl, ⟨OwnR.nil _ _, by simp, by simp, Below.refl _ _⟩, rfl⟩
  case round =>
    obtain ⟨k, n, c, A, X, rfl, hk, rfl, hXn, hTo, hEv⟩ := hrel
    have HXn := Lib.hid hXn
    have HTo := Lib.hid hTo
    have HEv := Lib.hid hEv
    have hXlen : X.length ≤ 400 := by
      have h1 := congrArg List.length hEv
      have h2 := nodeEnds_len lan ((N.take k).map NodeM.nk)
      rw [List.length_map] at h1
      rw [List.length_map, List.length_take] at h2
      have := HNl.out
      omega
    have HXlen := Lib.hid hXlen
    clear hXlen
    by_cases hlt : k < nN
    · have hki : (k : Int) < (nN : Int) := by omega
      have hkL : k < N.length := by rw [HnN.out]; exact hlt
      have htk : (N.take (k + 1)).map NodeM.nk = (N.take k).map NodeM.nk ++ [(N[k]'hkL).nk] := by rw [List.take_succ_eq_append_getElem hkL, List.map_append]; rfl
      have hin : (N[k]'hkL) ∈ N := List.getElem_mem hkL
      have hmk := HOk.out.may _ (List.mem_map.2 ⟨_, hin, rfl⟩)
      have hcst := HOk.out.cost _ (List.mem_map.2 ⟨_, hin, rfl⟩)
      have hlw := Hlow.out _ hin
      have heach := (HN.out w (Below.refl _ _)).each _ hin
      have Hrow : Hid (∃ b o, AN = some ⟨b, o, none⟩ ∧ ∀ W, Below w.heap.size w W → W.cell? ⟨b, o + k * 5, none⟩ = some (.int .i64 (N[k]'hkL).v.kind) ∧ W.cell? ⟨b, o + k * 5 + 1, none⟩ = some (.int .i64 (N[k]'hkL).v.id) ∧ W.cell? ⟨b, o + k * 5 + 2, none⟩ = some (.int .i64 (N[k]'hkL).a.c) ∧ W.cell? ⟨b, o + k * 5 + 4, none⟩ = some (.slice (N[k]'hkL).A (N[k]'hkL).next.length (N[k]'hkL).c)) := Lib.hid (by
        obtain ⟨b, o, hA, -⟩ := row_nd (HN.out w (Below.refl _ _)).rows k hkL
        refine ⟨b, o, hA, fun W hW => ?_⟩
        obtain ⟨b', o', hA', -, t0, t1, t2, -, t4⟩ := row_nd (HN.out W hW).rows k hkL
        rw [hA] at hA'
        cases hA'
        exact ⟨t0, t1, t2, t4⟩)
      obtain ⟨bN, oN, hAN, hrow⟩ := Hrow.out
      subst hAN
      generalize (N[k]'hkL) = x at *
      obtain ⟨⟨xk, xi⟩, ⟨xa, xh⟩, xA, xc, xn⟩ := x
      simp only [NodeM.nk] at hrow htk hmk hcst hlw heach
      obtain ⟨nl, hnl⟩ : ∃ n, xn.length = n := ⟨_, rfl⟩
      rw [hnl] at hrow
      have Hrw := Lib.hid hrow
      have Hnl := Lib.hid hnl
      have Hlw := Lib.hid hlw
      have Heach := Lib.hid heach
      have Htk := Lib.hid htk
      have Hlt := Lib.hid hlt
      obtain ⟨x0, x1, x2, x4⟩ := hrow wr hTo.bel
      have hxi : 0 ≤ xi := by
        rcases mayV_iff.1 hmk with ⟨-, e, -⟩ | ⟨-, e, -⟩
        · simp only at e; omega
        · exact e
      have hxi2 : xi ≤ 63 := by
        rcases mayV_iff.1 hmk with ⟨-, -, e⟩ | ⟨-, -, e⟩
        · simp only at e; omega
        · exact e
      obtain ⟨q, hq⟩ : ∃ q, Int.tdiv xi 16 = q := ⟨_, rfl⟩
      have hqd : q = xi / 16 := by rw [← hq]; exact Int.tdiv_eq_ediv_of_nonneg hxi
      have hqw : wrap64 q = q := by unfold wrap64; omega
      have hqw2 : IntKind.i64.wrap q = q := by rw [IntKind.wrap_i64]; omega
      have Hqd := Lib.hid hqd
      clear hXn hTo hEv hlt hkL htk hin hmk hcst hlw heach hrow hnl Hrow hk hxi hxi2 hqd
      by_cases h1 : xk = 2
      · have e1 : (xk == 2) = true := by simp [h1]
        by_cases h2 : q = lan
        · have e2 : (q == lan) = true := by simp [h2]
          have Hne := Lib.hid (nodeEnd_at (lan := lan) (n := ⟨⟨xk, xi⟩, ⟨xa, xh⟩, xn⟩) h1 (by rw [← h2, Hqd.out]))
          clear h1 h2
          go_wp2
          refine wp_region_F (F := fun W => Below w.heap.size w W) (n := 14) (m := 15) (s := #[false, false, false, false, false, false, false, false, false, false, false, false, false, false, false]) (by kernel_rfl) (by kernel_rfl) (by kernel_rfl) ?_
          intro wd hwd
          have hF : Below w.heap.size w wd := by rw [hwd.out]; exact HTo.out.bel.drew
          have hTd : EndsTo w wd (.slice A n c) X := by rw [hwd.out]; exact HTo.out.below (Below.refl _ _).drew
          clear hwd
          refine F_take (i := 0) (d := some 39) (by kernel_rfl) (by kernel_rfl) (by decide) (s' := #[true, false, false, false, false, false, false, false, false, false, false, false, false, false, false]) (by kernel_rfl) rfl rfl (by kernel_rfl) (by kernel_rfl) (by kernel_rfl) (fun _ _ _ h => h) (Or.inl ⟨by kernel_rfl, fun W hW => by go_simp; try with_reducible rfl⟩) hF ?_
          go_frame
          refine F_take (i := 1) (d := some 40) (by kernel_rfl) (by kernel_rfl) (by decide) (s' := #[true, true, false, false, false, false, false, false, false, false, false, false, false, false, false]) (by kernel_rfl) rfl rfl (by kernel_rfl) (by kernel_rfl) (by kernel_rfl) (fun _ _ _ h => h) (Or.inl ⟨by kernel_rfl, fun W hW => by go_simp; try with_reducible rfl⟩) hF ?_
          go_frame
          refine F_take (i := 2) (d := some 41) (by kernel_rfl) (by kernel_rfl) (by decide) (s' := #[true, true, true, false, false, false, false, false, false, false, false, false, false, false, false]) (by kernel_rfl) rfl rfl (by kernel_rfl) (by kernel_rfl) (by kernel_rfl) (fun _ _ _ h => h) (Or.inl ⟨by kernel_rfl, fun W hW => by go_simp; try with_reducible rfl⟩) hF ?_
          go_frame
          refine F_take (i := 3) (d := some 42) (by kernel_rfl) (by kernel_rfl) (by decide) (s' := #[true, true, true, true, false, false, false, false, false, false, false, false, false, false, false]) (by kernel_rfl) rfl rfl (by kernel_rfl) (by kernel_rfl) (by kernel_rfl) (fun _ _ _ h => h) (Or.inl ⟨by kernel_rfl, fun W hW => by go_simp; try with_reducible rfl⟩) hF ?_
          go_frame
          refine F_take (i := 4) (d := some 43) (by kernel_rfl) (by kernel_rfl) (by decide) (s' := #[true, true, true, true, true, false, false, false, false, false, false, false, false, false, false]) (by kernel_rfl) rfl rfl (by kernel_rfl) (by kernel_rfl) (by kernel_rfl) (fun _ _ _ h => h) (Or.inl ⟨by kernel_rfl, fun W hW => by go_simp; try with_reducible rfl⟩) hF ?_
          go_frame
          refine F_take (i := 5) (d := some 44) (by kernel_rfl) (by kernel_rfl) (by decide) (s' := #[true, true, true, true, true, true, false, false, false, false, false, false, false, false, false]) (by kernel_rfl) rfl rfl (by kernel_rfl) (by kernel_rfl) (by kernel_rfl) (fun _ _ _ h => h) (Or.inl ⟨by kernel_rfl, fun W hW => by obtain ⟨t0, t1, t2, t4⟩ := Hrw.out W hW; go_simp; try with_reducible rfl⟩) hF ?_
          go_frame
          refine F_take (i := 6) (d := some 45) (by kernel_rfl) (by kernel_rfl) (by decide) (s' := #[true, true, true, true, true, true, true, false, false, false, false, false, false, false, false]) (by kernel_rfl) rfl rfl (by kernel_rfl) (by kernel_rfl) (by kernel_rfl) (fun _ _ _ h => h) (Or.inl ⟨by kernel_rfl, fun W hW => by go_simp; try with_reducible rfl⟩) hF ?_
          go_frame
          refine F_take (i := 7) (d := some 46) (by kernel_rfl) (by kernel_rfl) (by decide) (s' := #[true, true, true, true, true, true, true, true, false, false, false, false, false, false, false]) (by kernel_rfl) rfl rfl (by kernel_rfl) (by kernel_rfl) (by kernel_rfl) (fun _ _ _ h => h) (Or.inl ⟨by kernel_rfl, fun W hW => by go_simp; try with_reducible rfl⟩) hF ?_
          go_frame
          refine F_take (i := 8) (d := some 47) (by kernel_rfl) (by kernel_rfl) (by decide) (s' := #[true, true, true, true, true, true, true, true, true, false, false, false, false, false, false]) (by kernel_rfl) rfl rfl (by kernel_rfl) (by kernel_rfl) (by kernel_rfl) (fun _ _ _ h => h) (Or.inl ⟨by kernel_rfl, fun W hW => by go_simp; try with_reducible rfl⟩) hF ?_
          go_frame
          refine F_take (i := 9) (d := some 48) (by kernel_rfl) (by kernel_rfl) (by decide) (s' := #[true, true, true, true, true, true, true, true, true, true, false, false, false, false, false]) (by kernel_rfl) rfl rfl (by kernel_rfl) (by kernel_rfl) (by kernel_rfl) (fun _ _ _ h => h) (Or.inl ⟨by kernel_rfl, fun W hW => by go_simp; try with_reducible rfl⟩) hF ?_
          go_frame
          refine F_take (i := 10) (d := some 49) (by kernel_rfl) (by kernel_rfl) (by decide) (s' := #[true, true, true, true, true, true, true, true, true, true, true, false, false, false, false]) (by kernel_rfl) rfl rfl (by kernel_rfl) (by kernel_rfl) (by kernel_rfl) (fun _ _ _ h => h) (Or.inl ⟨by kernel_rfl, fun W hW => by obtain ⟨t0, t1, t2, t4⟩ := Hrw.out W hW; go_simp; try with_reducible rfl⟩) hF ?_
          go_frame
          refine F_take (i := 11) (d := some 50) (by kernel_rfl) (by kernel_rfl) (by decide) (s' := #[true, true, true, true, true, true, true, true, true, true, true, true, false, false, false]) (by kernel_rfl) rfl rfl (by kernel_rfl) (by kernel_rfl) (by kernel_rfl) (fun _ _ _ h => h) (Or.inl ⟨by kernel_rfl, fun W hW => by go_simp; try with_reducible rfl⟩) hF ?_
          go_frame
          obtain ⟨wq, hV⟩ : ∃ v, wd.alloc (.cells #[.int .i64 xa, .slice xA nl xc] 76) = v := ⟨_, rfl⟩
          have hbq := below_new wd (.cells #[.int .i64 xa, .slice xA nl xc] 76)
          have kq := Blk.new wd 76 #[.int .i64 xa, .slice xA nl xc]
          obtain ⟨pq, hpq⟩ : ∃ p, wd.heap.size = p := ⟨_, rfl⟩
          rw [hV] at hbq kq
          rw [hpq] at kq
          have hTq := hTd.below hbq
          have hF := hTq.bel
          refine F_one (i := 12) (s' := #[true, true, true, true, true, true, true, true, true, true, true, true, true, false, false]) (by kernel_rfl) (by kernel_rfl) (wpOp_valueL (i := 12) (d := some 51) (w' := wq) (v := .slice (some ⟨pq, 0, none⟩) 1 1) rfl rfl (by kernel_rfl) (by go_simp) ⟨fun _ => hF, ?_⟩)
          go_frame
          clear hV hpq
          obtain ⟨va, wa, hrun, hoa, hg2, hor⟩ := app_row_run (e := 76) (sl := 73) EndM.cells (fun _ => rfl) (by decide) (bytes := 32) (by decide) infoEn rfl Tryz.underlying73 onesEn (w := wq) 73 w.heap.size (.slice A n c) X hTq.row pq ⟨xa, xA, xc, xn⟩ (by unfold EndM.cells; simp only; rw [Hnl.out]; exact kq) (by have := HXlen.out; omega) hTq.bel.size
          have hTz := hTq.app (x := ⟨xa, xA, xc, xn⟩) hg2 hoa (.inl Heach.out) Hlw.out
          have hF := hTz.bel
          refine F_one (i := 13) (s' := #[true, true, true, true, true, true, true, true, true, true, true, true, true, true, false]) (by kernel_rfl) (by kernel_rfl) (wpOp_appendL (i := 13) (d := some 52) (t := 73) rfl rfl rfl (by kernel_rfl) rfl (by rfl) (by rfl) hrun ⟨fun _ => hF, ?_⟩)
          go_frame
          clear hrun
          obtain ⟨Aa, ca, hva⟩ := hoa.shape
          subst hva
          refine F_one (i := 14) (s' := #[true, true, true, true, true, true, true, true, true, true, true, true, true, true, true]) (by kernel_rfl) (by kernel_rfl) (wpOp_valueL (i := 14) (d := some 9) (w' := wa) (v := .slice Aa (X ++ [(⟨xa, xA, xc, xn⟩ : EndM)]).length ca) rfl rfl (by kernel_rfl) (by go_simp) ⟨fun h => absurd h (by decide), ?_⟩)
          go_frame
          refine F_done (by kernel_rfl) ?_ _
          have HTz := Lib.hid hTz
          clear hTz hF hoa hg2 hor kq
          go_wp2
          go_roundw
          case measure => have := Hlt.out; simp [intOf]; omega
          case rel => exact ⟨k + 1, _, _, _, _, by go_num, Hlt.out, rfl, rfl, HTz.out, by rw [Htk.out, nodeEnds_snoc, List.map_append, HEv.out, Hne.out]; rfl⟩
        · have e2 : (q == lan) = false := by simp [h2]
          have Hne := Lib.hid (nodeEnd_ne (lan := lan) (n := ⟨⟨xk, xi⟩, ⟨xa, xh⟩, xn⟩) (fun h => h2 (by rw [Hqd.out]; exact h.2)))
          clear h1 h2
          go_wp2
          go_roundw
          case measure => have := Hlt.out; simp [intOf]; omega
          case rel => exact ⟨k + 1, n, c, A, X, by go_num, Hlt.out, rfl, HXn.out, HTo.out, by rw [Htk.out, nodeEnds_snoc, HEv.out, Hne.out, List.append_nil]⟩
      · have e1 : (xk == 2) = false := by simp [h1]
        have Hne := Lib.hid (nodeEnd_ne (lan := lan) (n := ⟨⟨xk, xi⟩, ⟨xa, xh⟩, xn⟩) (fun h => h1 h.1))
        clear h1
        go_wp2
        go_roundw
        case measure => have := Hlt.out; simp [intOf]; omega
        case rel => exact ⟨k + 1, n, c, A, X, by go_num, Hlt.out, rfl, HXn.out, HTo.out, by rw [Htk.out, nodeEnds_snoc, HEv.out, Hne.out, List.append_nil]⟩
    · have hke : k = nN := by omega
      have hkk : ¬ (k : Int) < (nN : Int) := by omega
      rw [hke, ← HnN.out, List.take_length] at hEv
      have HEvE := Lib.hid hEv
      obtain ⟨wL, hwL⟩ : ∃ x : World, x = wr := ⟨_, rfl⟩
      rw [← hwL] at HTo
      subst hwL
      clear hXn hTo hEv hlt hke hk HEv
      go_wp2
      go_loopw [9, 11] (fun o i wr => ∃ (k n c : Nat) (A : Option Addr) (X : List EndM), i = .int .i64 k ∧ k ≤ nF ∧ o = .slice A n c ∧ X.length = n ∧ EndsTo w wr (.slice A n c) X ∧ X.map EndM.ev = nodeEnds lan (N.map NodeM.nk) ++ leafEnds self lan (N.map NodeM.nk) (F.take k)) (fun _ i _ => nF - (intOf i).toNat)
      case atStart => exact ⟨0, n, c, A, X, rfl, Nat.zero_le _, rfl, HXn.out, HTo.out, by rw [HEvE.out]; simp [leafEnds]⟩
      case round =>
        obtain ⟨k2, n, c, A, X, rfl, hk, rfl, hXn, hTo, hEv⟩ := hrel
        have HXn := Lib.hid hXn
        have HTo := Lib.hid hTo
        have HEv := Lib.hid hEv
        by_cases hlt : k2 < nF
        · have hki : (k2 : Int) < (nF : Int) := by omega
          have hkF : k2 < F.length := by rw [HnF.out]; exact hlt
          have htk : F.take (k2 + 1) = F.take k2 ++ [F[k2]'hkF] := List.take_succ_eq_append_getElem hkF
          have hfo := HFok.out _ (List.getElem_mem hkF)
          obtain ⟨bF, oF, hAF, -, f0, f1, f2⟩ := row_lf (HF.out wr hTo.bel) k2 hkF
          have Hlt2 := Lib.hid hlt
          generalize (F[k2]'hkF) = f at *
          obtain ⟨fr, fl, fc⟩ := f
          simp only at f0 f1 f2 hfo
          subst hAF
          have HtkF := Lib.hid htk
          have Hfo := Lib.hid hfo
          have hb6 := below_new wr (.cells #[.int .i64 fr, .int .i64 fl, .int .i64 fc] 45)
          have hk6 := Blk.new wr 45 #[.int .i64 fr, .int .i64 fl, .int .i64 fc]
          obtain ⟨w6, hw6⟩ : ∃ v, wr.alloc (.cells #[.int .i64 fr, .int .i64 fl, .int .i64 fc] 45) = v := ⟨_, rfl⟩
          obtain ⟨g6, hg6⟩ : ∃ v, wr.heap.size = v := ⟨_, rfl⟩
          rw [hw6, hg6] at hk6
          rw [hw6] at hb6
          have HT6 := Lib.hid (hTo.below hb6)
          have Hk6 := Lib.hid hk6
          clear hXn hTo hlt hkF htk hfo hb6 hk6 hEv hk
          go_wp2_with fail
          clear hw6 hg6 f0 f1 f2
          go_loopw [9, 13] (fun o i wr => ∃ (j n c : Nat) (A : Option Addr) (X : List EndM), i = .int .i64 j ∧ j ≤ nN ∧ o = .slice A n c ∧ X.length = n ∧ EndsTo w wr (.slice A n c) X ∧ Blk wr g6 45 #[.int .i64 fr, .int .i64 fl, .int .i64 fc] ∧ X.map EndM.ev = nodeEnds lan (N.map NodeM.nk) ++ leafEnds self lan (N.map NodeM.nk) (F.take k2) ++ ((N.take j).map NodeM.nk).flatMap (leafEnd self lan ⟨fr, fl, fc⟩)) (fun _ i _ => nN - (intOf i).toNat)
          case atStart => exact ⟨0, n, c, A, X, rfl, Nat.zero_le _, rfl, HXn.out, HT6.out, Hk6.out, by rw [HEv.out]; simp⟩
          case round =>
            obtain ⟨j, n, c, A, X, rfl, hj, rfl, hXn, hTo, hkl, hEv⟩ := hrel
            have HXn := Lib.hid hXn
            have HTo := Lib.hid hTo
            have Hkl := Lib.hid hkl
            have HEv := Lib.hid hEv
            by_cases hlt : j < nN
            · have hki : (j : Int) < (nN : Int) := by omega
              have hkL : j < N.length := by rw [HnN.out]; exact hlt
              have hXlen : X.length ≤ 400 := by
                have h1 := congrArg List.length hEv
                rw [List.length_map, List.length_append, List.length_append] at h1
                have h2 := nodeEnds_len lan (N.map NodeM.nk)
                have h3 := leafEnds_len (self := self) (lan := lan) HOk.out.sorted (F.take k2)
                have h4 := leafEnd_len self lan ⟨fr, fl, fc⟩ ((N.take j).map NodeM.nk)
                rw [List.length_map] at h2
                rw [List.length_take] at h3
                rw [List.length_map, List.length_take] at h4
                have := HFl.out
                have := HNl.out
                omega
              have HXlen := Lib.hid hXlen
              have htk : (N.take (j + 1)).map NodeM.nk = (N.take j).map NodeM.nk ++ [(N[j]'hkL).nk] := by rw [List.take_succ_eq_append_getElem hkL, List.map_append]; rfl
              have hin : (N[j]'hkL) ∈ N := List.getElem_mem hkL
              have hcst := HOk.out.cost _ (List.mem_map.2 ⟨_, hin, rfl⟩)
              have hlw := Hlow.out _ hin
              have heach := (HN.out w (Below.refl _ _)).each _ hin
              have Hrow : Hid (∃ b o, AN = some ⟨b, o, none⟩ ∧ ∀ W, Below w.heap.size w W → W.cell? ⟨b, o + j * 5, none⟩ = some (.int .i64 (N[j]'hkL).v.kind) ∧ W.cell? ⟨b, o + j * 5 + 1, none⟩ = some (.int .i64 (N[j]'hkL).v.id) ∧ W.cell? ⟨b, o + j * 5 + 2, none⟩ = some (.int .i64 (N[j]'hkL).a.c) ∧ W.cell? ⟨b, o + j * 5 + 4, none⟩ = some (.slice (N[j]'hkL).A (N[j]'hkL).next.length (N[j]'hkL).c)) := Lib.hid (by
                obtain ⟨b, o, hA, -⟩ := row_nd (HN.out w (Below.refl _ _)).rows j hkL
                refine ⟨b, o, hA, fun W hW => ?_⟩
                obtain ⟨b', o', hA', -, t0, t1, t2, -, t4⟩ := row_nd (HN.out W hW).rows j hkL
                rw [hA] at hA'
                cases hA'
                exact ⟨t0, t1, t2, t4⟩)
              obtain ⟨bN, oN, hAN, hrow⟩ := Hrow.out
              subst hAN
              generalize (N[j]'hkL) = x at *
              obtain ⟨⟨xk, xi⟩, ⟨xa, xh⟩, xA, xc, xn⟩ := x
              simp only [NodeM.nk] at hrow htk hcst hlw heach
              obtain ⟨nl, hnl⟩ : ∃ n, xn.length = n := ⟨_, rfl⟩
              rw [hnl] at hrow
              have Hrw := Lib.hid hrow
              have Hnl := Lib.hid hnl
              have Hlw := Lib.hid hlw
              have Heach := Lib.hid heach
              have Htk := Lib.hid htk
              have Hlt := Lib.hid hlt
              obtain ⟨x0, x1, x2, x4⟩ := hrow wr hTo.bel
              obtain ⟨l0, l1, l2⟩ := blk3l hkl
              have hne := fun w => neqVxN xk xi 1 fr w
              have hfc : 1 ≤ fc ∧ fc ≤ 100 := Hfo.out.2.2
              obtain ⟨cs, hcs⟩ : ∃ cs : Nat, xa + fc.toNat = cs := ⟨_, rfl⟩
              have hcsi : (xa : Int) + fc = (cs : Int) := by omega
              have hcs2 : (cs : Int) ≤ 2 ^ 40 := by omega
              obtain ⟨hcsw2, hcsw⟩ := wrap_small (z := (cs : Int)) (by omega) hcs2
              clear hcs2
              have Hcs := Lib.hid hcs
              clear hXn hTo hEv hlt hkL htk hin hcst hlw heach hrow hnl Hrow hj hfc hkl hXlen hcs
              by_cases h1 : fl = lan
              · have e1 : (fl != lan) = false := by simp [h1]
                have H1 := Lib.hid h1
                by_cases h2 : (⟨xk, xi⟩ : Vx) = ⟨1, fr⟩
                · rw [decide_eq_true h2] at hne
                  have Hle := Lib.hid (leafEnd_at (self := self) (lan := lan) (f := ⟨fr, fl, fc⟩) (n := ⟨⟨xk, xi⟩, ⟨xa, xh⟩, xn⟩) h1 h2)
                  clear h1 h2
                  go_wp2
                  go_quiet (fail)
                  go_wp2
                  refine wp_region_F (F := fun W => Below w.heap.size w W ∧ Blk W g6 45 #[.int .i64 fr, .int .i64 fl, .int .i64 fc]) (n := 15) (m := 16) (s := #[false, false, false, false, false, false, false, false, false, false, false, false, false, false, false, false]) (by kernel_rfl) (by kernel_rfl) (by kernel_rfl) ?_
                  intro wd hwd
                  have hF : (fun W => Below w.heap.size w W ∧ Blk W g6 45 #[.int .i64 fr, .int .i64 fl, .int .i64 fc]) wd := by rw [hwd.out]; exact ⟨(below_drewN HTo.out.bel _).drew, (Hkl.out.drewN _).drew⟩
                  have hTd : EndsTo w wd (.slice A n c) X := by rw [hwd.out]; exact HTo.out.below (below_drewN (Below.refl _ _) _).drew
                  clear hwd
                  refine F_take (i := 0) (d := some 84) (by kernel_rfl) (by kernel_rfl) (by decide) (s' := #[true, false, false, false, false, false, false, false, false, false, false, false, false, false, false, false]) (by kernel_rfl) rfl rfl (by kernel_rfl) (by kernel_rfl) (by kernel_rfl) (fun _ _ _ h => h) (Or.inl ⟨by kernel_rfl, fun W hW => by go_simp; try with_reducible rfl⟩) hF ?_
                  go_frame
                  refine F_take (i := 1) (d := some 85) (by kernel_rfl) (by kernel_rfl) (by decide) (s' := #[true, true, false, false, false, false, false, false, false, false, false, false, false, false, false, false]) (by kernel_rfl) rfl rfl (by kernel_rfl) (by kernel_rfl) (by kernel_rfl) (fun _ _ _ h => h) (Or.inl ⟨by kernel_rfl, fun W hW => by go_simp; try with_reducible rfl⟩) hF ?_
                  go_frame
                  refine F_take (i := 2) (d := some 86) (by kernel_rfl) (by kernel_rfl) (by decide) (s' := #[true, true, true, false, false, false, false, false, false, false, false, false, false, false, false, false]) (by kernel_rfl) rfl rfl (by kernel_rfl) (by kernel_rfl) (by kernel_rfl) (fun _ _ _ h => h) (Or.inl ⟨by kernel_rfl, fun W hW => by go_simp; try with_reducible rfl⟩) hF ?_
                  go_frame
                  refine F_take (i := 3) (d := some 87) (by kernel_rfl) (by kernel_rfl) (by decide) (s' := #[true, true, true, true, false, false, false, false, false, false, false, false, false, false, false, false]) (by kernel_rfl) rfl rfl (by kernel_rfl) (by kernel_rfl) (by kernel_rfl) (fun _ _ _ h => h) (Or.inl ⟨by kernel_rfl, fun W hW => by go_simp; try with_reducible rfl⟩) hF ?_
                  go_frame
                  refine F_take (i := 4) (d := some 88) (by kernel_rfl) (by kernel_rfl) (by decide) (s' := #[true, true, true, true, true, false, false, false, false, false, false, false, false, false, false, false]) (by kernel_rfl) rfl rfl (by kernel_rfl) (by kernel_rfl) (by kernel_rfl) (fun _ _ _ h => h) (Or.inl ⟨by kernel_rfl, fun W hW => by obtain ⟨t0, t1, t2, t4⟩ := Hrw.out W hW.1; go_simp; try with_reducible rfl⟩) hF ?_
                  go_frame
                  refine F_take (i := 5) (d := some 89) (by kernel_rfl) (by kernel_rfl) (by decide) (s' := #[true, true, true, true, true, true, false, false, false, false, false, false, false, false, false, false]) (by kernel_rfl) rfl rfl (by kernel_rfl) (by kernel_rfl) (by kernel_rfl) (fun _ _ _ h => h) (Or.inl ⟨by kernel_rfl, fun W hW => by go_simp; try with_reducible rfl⟩) hF ?_
                  go_frame
                  refine F_take (i := 6) (d := some 90) (by kernel_rfl) (by kernel_rfl) (by decide) (s' := #[true, true, true, true, true, true, true, false, false, false, false, false, false, false, false, false]) (by kernel_rfl) rfl rfl (by kernel_rfl) (by kernel_rfl) (by kernel_rfl) (fun _ _ _ h => h) (Or.inl ⟨by kernel_rfl, fun W hW => by obtain ⟨q0, q1, q2⟩ := blk3l hW.2; go_simp; try with_reducible rfl⟩) hF ?_
                  go_frame
                  refine F_take (i := 7) (d := some 91) (by kernel_rfl) (by kernel_rfl) (by decide) (s' := #[true, true, true, true, true, true, true, true, false, false, false, false, false, false, false, false]) (by kernel_rfl) rfl rfl (by kernel_rfl) (by kernel_rfl) (by kernel_rfl) (fun _ _ _ h => h) (Or.inl ⟨by kernel_rfl, fun W hW => by go_simp; try with_reducible rfl⟩) hF ?_
                  go_frame
                  refine F_take (i := 8) (d := some 92) (by kernel_rfl) (by kernel_rfl) (by decide) (s' := #[true, true, true, true, true, true, true, true, true, false, false, false, false, false, false, false]) (by kernel_rfl) rfl rfl (by kernel_rfl) (by kernel_rfl) (by kernel_rfl) (fun _ _ _ h => h) (Or.inl ⟨by kernel_rfl, fun W hW => by go_simp; try with_reducible rfl⟩) hF ?_
                  go_frame
                  refine F_take (i := 9) (d := some 93) (by kernel_rfl) (by kernel_rfl) (by decide) (s' := #[true, true, true, true, true, true, true, true, true, true, false, false, false, false, false, false]) (by kernel_rfl) rfl rfl (by kernel_rfl) (by kernel_rfl) (by kernel_rfl) (fun _ _ _ h => h) (Or.inl ⟨by kernel_rfl, fun W hW => by go_simp; try with_reducible rfl⟩) hF ?_
                  go_frame
                  refine F_take (i := 10) (d := some 94) (by kernel_rfl) (by kernel_rfl) (by decide) (s' := #[true, true, true, true, true, true, true, true, true, true, true, false, false, false, false, false]) (by kernel_rfl) rfl rfl (by kernel_rfl) (by kernel_rfl) (by kernel_rfl) (fun _ _ _ h => h) (Or.inl ⟨by kernel_rfl, fun W hW => by go_simp; try with_reducible rfl⟩) hF ?_
                  go_frame
                  refine F_take (i := 11) (d := some 95) (by kernel_rfl) (by kernel_rfl) (by decide) (s' := #[true, true, true, true, true, true, true, true, true, true, true, true, false, false, false, false]) (by kernel_rfl) rfl rfl (by kernel_rfl) (by kernel_rfl) (by kernel_rfl) (fun _ _ _ h => h) (Or.inl ⟨by kernel_rfl, fun W hW => by go_simp; try with_reducible rfl⟩) hF ?_
                  go_frame
                  refine F_take (i := 12) (d := some 96) (by kernel_rfl) (by kernel_rfl) (by decide) (s' := #[true, true, true, true, true, true, true, true, true, true, true, true, true, false, false, false]) (by kernel_rfl) rfl rfl (by kernel_rfl) (by kernel_rfl) (by kernel_rfl) (fun _ _ _ h => h) (Or.inl ⟨by kernel_rfl, fun W hW => by obtain ⟨t0, t1, t2, t4⟩ := Hrw.out W hW.1; go_simp; try with_reducible rfl⟩) hF ?_
                  go_frame
                  refine F_take (i := 13) (d := some 97) (by kernel_rfl) (by kernel_rfl) (by decide) (s' := #[true, true, true, true, true, true, true, true, true, true, true, true, true, true, false, false]) (by kernel_rfl) rfl rfl (by kernel_rfl) (by kernel_rfl) (by kernel_rfl) (fun _ _ _ h => h) (Or.inl ⟨by kernel_rfl, fun W hW => by go_simp; try with_reducible rfl⟩) hF ?_
                  go_frame
                  obtain ⟨we, hV⟩ : ∃ v, wd.alloc (.cells #[.int .i64 0, .slice none 0 0] 76) = v := ⟨_, rfl⟩
                  have hbe := below_new wd (.cells #[.int .i64 0, .slice none 0 0] 76)
                  have ke := Blk.new wd 76 #[.int .i64 0, .slice none 0 0]
                  obtain ⟨g14, hg14⟩ : ∃ p, wd.heap.size = p := ⟨_, rfl⟩
                  rw [hV] at hbe ke
                  rw [hg14] at ke
                  have hgw : w.heap.size ≤ g14 := by rw [← hg14]; exact hF.1.size
                  have hg6 : g6 ≠ g14 := by have := hF.2.lt; omega
                  have hfree : (Value.slice A n c).ownBlock = none ∨ (Value.slice A n c).ownBlock ≠ some g14 := by
                    cases ho : (Value.slice A n c).ownBlock with
                    | none => exact .inl rfl
                    | some b => have := (hTd.row.block b ho).2; exact .inr (by simp; omega)
                  have hfree2 : ∀ x ∈ X, OwnH we w.heap.size (.slice x.A x.next.length x.cap) x.next → (Value.slice x.A x.next.length x.cap).ownBlock = none ∨ (Value.slice x.A x.next.length x.cap).ownBlock ≠ some g14 := fun x hx ho => .inr (own_ne ho ke (by decide))
                  have hTe := hTd.below hbe
                  have hFe : (fun W => Below w.heap.size w W ∧ Blk W g6 45 #[.int .i64 fr, .int .i64 fl, .int .i64 fc]) we := ⟨hTe.bel, hF.2.below hbe hF.2.lt⟩
                  refine F_one (i := 14) (s' := #[true, true, true, true, true, true, true, true, true, true, true, true, true, true, true, false]) (by kernel_rfl) (by kernel_rfl) (wpOp_valueL (i := 14) (d := some 14) (w' := we) (v := .pointer (some ⟨g14, 0, none⟩)) rfl rfl (by kernel_rfl) (by go_simp) ⟨fun _ => hFe, ?_⟩)
                  go_frame
                  clear hV hg14 hbe
                  have hT1 := hTe.setc (g := g14) (i := 0) (u := .int .i64 cs) hgw hfree hfree2
                  have k1 := (ke.set_ 0 (.int .i64 cs)).to (cs' := #[.int .i64 cs, .slice none 0 0]) (by simp)
                  have hT2 := hT1.setc (g := g14) (i := 1) (u := .slice xA nl xc) hgw hfree (fun x hx ho => .inr (own_ne ho k1 (by decide)))
                  have k2' := (k1.set_ 1 (.slice xA nl xc)).to (cs' := #[.int .i64 cs, .slice xA nl xc]) (by simp)
                  have kl := (hFe.2.far (p := ⟨g14, 0, none⟩) hg6 (.int .i64 cs)).far (p := ⟨g14, 1, none⟩) hg6 (.slice xA nl xc)
                  obtain ⟨c0, c1, cf0, cf1⟩ := ke.cells2
                  obtain ⟨wz, hwz⟩ : ∃ v, (we.setCell ⟨g14, 0, none⟩ (.int .i64 cs)).setCell ⟨g14, 1, none⟩ (.slice xA nl xc) = v := ⟨_, rfl⟩
                  rw [hwz] at hT2 k2' kl
                  refine F_one (i := 15) (s' := #[true, true, true, true, true, true, true, true, true, true, true, true, true, true, true, true]) (by kernel_rfl) (by kernel_rfl) (wpOp_skipL (i := 15) (w' := wz) rfl rfl (by kernel_rfl) (by go_simp) ⟨fun h => absurd h (by decide), ?_⟩)
                  go_frame
                  refine F_done (by kernel_rfl) ?_ _
                  have HtZ := Lib.hid hT2
                  have HeZ := Lib.hid k2'
                  have HkZ := Lib.hid kl
                  have Hgw := Lib.hid hgw
                  have Hfree := Lib.hid hfree
                  have Hg614 := Lib.hid hg6
                  clear hT1 hT2 k1 k2' kl c0 c1 cf0 cf1 hwz ke hTe hFe hF hTd hgw hg6 hfree hfree2
                  by_cases hs : fr = self
                  · have es : (fr == self) = true := by simp [hs]
                    have Hs := Lib.hid hs
                    obtain ⟨lz0, -, -⟩ := blk3l HkZ.out
                    obtain ⟨ez0, ez1, ef0, ef1⟩ := HeZ.out.cells2
                    have hbh := below_new wz (.cells #[.int .i64 lan, .int .i64 0] 50)
                    have hkh := Blk.new wz 50 #[.int .i64 lan, .int .i64 0]
                    obtain ⟨wh, hwh⟩ : ∃ v, wz.alloc (.cells #[.int .i64 lan, .int .i64 0] 50) = v := ⟨_, rfl⟩
                    obtain ⟨gh, hgh⟩ : ∃ v, wz.heap.size = v := ⟨_, rfl⟩
                    have hgz : w.heap.size ≤ gh := by rw [← hgh]; exact HtZ.out.bel.size
                    have hge : g14 < gh := by rw [← hgh]; exact HeZ.out.lt
                    rw [hwh, hgh] at hkh
                    rw [hwh] at hbh
                    have hth := HtZ.out.below hbh
                    have heh := HeZ.out.below hbh HeZ.out.lt
                    have hkkh := HkZ.out.below hbh HkZ.out.lt
                    obtain ⟨eh0, eh1, ehf0, ehf1⟩ := heh.cells2
                    obtain ⟨wi, hwi⟩ : ∃ v, wh.setCell ⟨g14, 1, none⟩ (.slice (some ⟨gh, 0, none⟩) 1 1) = v := ⟨_, rfl⟩
                    have hei := (heh.set_ 1 (.slice (some ⟨gh, 0, none⟩) 1 1)).to (cs' := #[.int .i64 cs, .slice (some ⟨gh, 0, none⟩) 1 1]) (by simp)
                    have hti := hth.setc (g := g14) (i := 1) (u := .slice (some ⟨gh, 0, none⟩) 1 1) Hgw.out Hfree.out (fun x hx ho => .inr (own_ne ho heh (by decide)))
                    have hhi := hkh.far (p := ⟨g14, 1, none⟩) (show gh ≠ g14 by omega) (.slice (some ⟨gh, 0, none⟩) 1 1)
                    have hki := hkkh.far (p := ⟨g14, 1, none⟩) Hg614.out (.slice (some ⟨gh, 0, none⟩) 1 1)
                    rw [hwi] at hei hti hhi hki
                    obtain ⟨ei0, ei1, -, -⟩ := hei.cells2
                    have hoi : OwnH wi w.heap.size (.slice (some ⟨gh, 0, none⟩) 1 1) [⟨lan, 0⟩] := OwnR.lit (fun _ => rfl) (L := [(⟨lan, 0⟩ : Hp)]) hhi hgz rfl (by decide) (by decide)
                    have Hti := Lib.hid hti
                    have Hei := Lib.hid hei
                    have Hki := Lib.hid hki
                    have Hoi := Lib.hid hoi
                    clear hbh hkh hth heh hkkh hei hti hhi hki hoi hs hge hgz
                    go_wp2_with (at_builtin; (refine app_row (e := 76) EndM.cells (fun _ => rfl) (by decide) (bytes := 32) (by decide) infoEn rfl Tryz.underlying73 onesEn (by rfl) _ _ (by rfl) w.heap.size _ X (by rfl) ((Hti.out.row).alloc _) wi.heap.size ⟨cs, some ⟨gh, 0, none⟩, 1, [⟨lan, 0⟩]⟩ (by rfl) (Blk.new _ _ _) (by have := HXlen.out; simp; omega) (by have := Hti.out.bel.size; simp; omega) ?_))
                    intro v9 w9 hown9 hg9 hor9
                    obtain ⟨A9, c9, hv9⟩ := hown9.shape
                    subst hv9
                    rw [List.length_append, List.length_singleton] at hown9
                    have HT9 := Lib.hid ((Hti.out.below (below_new _ _)).app (x := ⟨cs, some ⟨gh, 0, none⟩, 1, [⟨lan, 0⟩]⟩) hg9 hown9 (.inr (Hoi.out.alloc _)) (by simp))
                    have hkA := Hki.out.alloc (.cells #[.int .i64 cs, .slice (some ⟨gh, 0, none⟩) 1 1] 76)
                    have HK9 := Lib.hid (hkA.grown hg9 (own_ne_some ((Hti.out.row).alloc _) hkA (by decide)))
                    clear hkA
                    clear hown9 hg9 hor9
                    go_wp2
                    go_roundw
                    case measure => have := Hlt.out; simp [intOf]; omega
                    case rel => exact ⟨j + 1, X.length + 1, c9, A9, X ++ [⟨cs, some ⟨gh, 0, none⟩, 1, [⟨lan, 0⟩]⟩], by go_num, Hlt.out, by simp, by rw [List.length_append]; rfl, HT9.out, HK9.out, by rw [Htk.out, List.flatMap_append, List.flatMap_cons, List.flatMap_nil, Hle.out, List.map_append, HEv.out, if_pos Hs.out]; simp [EndM.ev, Hcs.out]⟩
                  · have es : (fr == self) = false := by simp [hs]
                    have Hs := Lib.hid hs
                    obtain ⟨lz0, -, -⟩ := blk3l HkZ.out
                    obtain ⟨ez0, ez1, -, -⟩ := HeZ.out.cells2
                    clear hs
                    go_wp2_with (at_builtin; (refine app_row (e := 76) EndM.cells (fun _ => rfl) (by decide) (bytes := 32) (by decide) infoEn rfl Tryz.underlying73 onesEn (by rfl) _ _ (by rfl) w.heap.size _ X (by rfl) ((HtZ.out.row).alloc _) wz.heap.size ⟨cs, xA, xc, xn⟩ (by rfl) (by unfold EndM.cells; simp only; rw [Hnl.out]; exact Blk.new _ _ _) (by have := HXlen.out; simp; omega) (by have := HtZ.out.bel.size; simp; omega) ?_))
                    intro v9 w9 hown9 hg9 hor9
                    obtain ⟨A9, c9, hv9⟩ := hown9.shape
                    subst hv9
                    rw [List.length_append, List.length_singleton] at hown9
                    have HT9 := Lib.hid ((HtZ.out.below (below_new _ _)).app (x := ⟨cs, xA, xc, xn⟩) hg9 hown9 (.inl Heach.out) Hlw.out)
                    have hkA := HkZ.out.alloc (.cells #[.int .i64 cs, .slice xA nl xc] 76)
                    have HK9 := Lib.hid (hkA.grown hg9 (own_ne_some ((HtZ.out.row).alloc _) hkA (by decide)))
                    clear hkA
                    clear hown9 hg9 hor9
                    go_wp2
                    go_roundw
                    case measure => have := Hlt.out; simp [intOf]; omega
                    case rel => exact ⟨j + 1, X.length + 1, c9, A9, X ++ [⟨cs, xA, xc, xn⟩], by go_num, Hlt.out, by simp, by rw [List.length_append]; rfl, HT9.out, HK9.out, by rw [Htk.out, List.flatMap_append, List.flatMap_cons, List.flatMap_nil, Hle.out, List.map_append, HEv.out, if_neg Hs.out]; simp [EndM.ev, Hcs.out]⟩
                · rw [decide_eq_false h2] at hne
                  have Hle := Lib.hid (show leafEnd self lan ⟨fr, fl, fc⟩ ⟨⟨xk, xi⟩, ⟨xa, xh⟩, xn⟩ = [] from if_neg fun h => h2 h.2)
                  clear h1 h2
                  go_wp2
                  go_quiet (fail)
                  go_wp2
                  go_roundw
                  case measure => have := Hlt.out; simp [intOf]; omega
                  case rel => exact ⟨j + 1, n, c, A, X, by go_num, Hlt.out, rfl, HXn.out, HTo.out.below (below_drewN (Below.refl _ _) _), Hkl.out.below (below_drewN (Below.refl _ _) _) Hkl.out.lt, by rw [Htk.out, List.flatMap_append, List.flatMap_cons, List.flatMap_nil, Hle.out, HEv.out]; simp⟩
              · have e1 : (fl != lan) = true := by simp [h1]
                have Hle := Lib.hid (leafEnd_ne (self := self) (lan := lan) (f := ⟨fr, fl, fc⟩) (n := ⟨⟨xk, xi⟩, ⟨xa, xh⟩, xn⟩) h1)
                clear h1
                go_wp2
                go_quiet (fail)
                go_wp2
                go_roundw
                case measure => have := Hlt.out; simp [intOf]; omega
                case rel => exact ⟨j + 1, n, c, A, X, by go_num, Hlt.out, rfl, HXn.out, HTo.out.below (below_drewN (Below.refl _ _) _), Hkl.out.below (below_drewN (Below.refl _ _) _) Hkl.out.lt, by rw [Htk.out, List.flatMap_append, List.flatMap_cons, List.flatMap_nil, Hle.out, HEv.out]; simp⟩
            · have hke : j = nN := by omega
              have hkk : ¬ (j : Int) < (nN : Int) := by omega
              rw [hke, ← HnN.out, List.take_length] at hEv
              have HEvE := Lib.hid hEv
              clear hXn hTo hEv hlt hke hj hkl
              go_wp2
              go_roundw
              case measure => have := Hlt2.out; simp [intOf]; omega
              case rel => exact ⟨k2 + 1, n, c, A, X, by go_num, Hlt2.out, rfl, HXn.out, HTo.out, by rw [HtkF.out, leafEnds_snoc, HEvE.out, List.append_assoc]⟩
        · have hke : k2 = nF := by omega
          have hkk : ¬ (k2 : Int) < (nF : Int) := by omega
          rw [hke, ← HnF.out, List.take_length] at hEv
          have HEvF := Lib.hid hEv
          clear hXn hTo hEv hlt hke hk
          go_wp2
          go_ret
          exact ⟨⟨A, n, ⟨c, rfl⟩, X, HEvF.out, HXn.out, HTo.out.reads⟩, HTo.out.bel⟩

end Go.Proofs.YtpfjgecdlilkcaaGreat
