/-
  The law AuditGets: its walk.
-/
import Derived.Test.YtpnbibokddhheaaGreatBah
import Derived.Test.YtpnbibokddhheaaGreatBao
namespace Go.Proofs.YtpnbibokddhheaaGreat
open Go.RowKit

theorem stt_lit (m : Int) (ra : Option Addr) (rn rc : Nat) : Stt.cells ⟨m, none, 0, [], none, 0, [], ra, rn, rc⟩ = [.int .i64 m, .slice none 0 0, .slice none 0 0, .slice ra rn rc] := rfl
theorem not_twice {P : List Int} (h : P.Nodup) {i j : Nat} (hi : i < P.length) (hj : j < i) : (P[i]'hi == P[j]'(Nat.lt_trans hj hi)) = false := by
  rw [beq_eq_false_iff_ne]
  exact fun e => List.pairwise_iff_getElem.1 h j i (Nat.lt_trans hj hi) hi hj e.symm
theorem own_capW {w : World} {B : Nat} {A : Option Addr} {n cap : Nat} {l : List Int} (h : OwnI w B (.slice A n cap) l) : n ≤ cap := by
  rcases h.2 with ⟨hv, hn⟩ | ⟨g, cap', cur, hv, hb, hg, hnc, hcm, hcs, ht⟩
  · simp only [Value.slice.injEq] at hv
    omega
  · simp only [Value.slice.injEq] at hv
    omega
theorem has_of {E : List Ed} {DD : Vx → Vx → Option Val2} {F : List Lf} {s kd id : Int} {L : List Nk} {M : List RtM} {x : Rt} (hT : TreeIs E DD ⟨1, s⟩ L) (hA : RoutesAre s L F (M.map RtM.rt)) (hok : RtsOk M) (h : findR M kd id = some x) : HasTo E DD F kd id s := by
  obtain ⟨h1, h2, h3⟩ := (findR_iff hok).1 h
  exact ⟨x, ⟨L, _, hT, hA, h1⟩, h2, h3⟩
set_option maxHeartbeats 16000000 in
set_option maxRecDepth 100000 in
theorem auditGets_any (A : Option Addr) (cap : Nat) (l : List Lsa) (fa fb fd : Nat) (hfa : fa ≤ 255) (hfb : fb ≤ 255) (hfd : fd ≤ 255) (pA : Option Addr) (pcap : Nat) (pk : List Nat) (w : World) (hl : LsasAt w w.heap.size A l) (hm : l.length ≤ maxLen) (hpk : RowsAt 1 pcell w w.heap.size pA pk) (hpm : pk.length ≤ maxLen) (hp8 : ∀ x ∈ pk, x ≤ 255) :
    Calls Tryz.prog 3 #[.slice A l.length cap, .agg #[.int .u8 fa, .int .u8 fb, .int .u8 fd], .slice pA pk.length pcap] w fun r w' => r = .returned (.bool true) ∧ Below w.heap.size w w' := by
  have HL := Lib.hid hl
  have HP := Lib.hid hpk
  have HP8 := Lib.hid hp8
  have hb0 := below_new w (.cells #[.int .u8 fa, .int .u8 fb, .int .u8 fd] 23)
  have hk0 := Blk.new w 23 #[.int .u8 fa, .int .u8 fb, .int .u8 fd]
  obtain ⟨w0, hw0⟩ : ∃ v, w.alloc (.cells #[.int .u8 fa, .int .u8 fb, .int .u8 fd] 23) = v := ⟨_, rfl⟩
  obtain ⟨g4, hg4⟩ : ∃ v, w.heap.size = v := ⟨_, rfl⟩
  rw [hw0] at hb0 hk0
  rw [hg4] at hk0
  have Hb0 := Lib.hid hb0
  have Hk0 := Lib.hid hk0
  have hai : (fa : Int) ≤ 255 := by omega
  have hbi : (fb : Int) ≤ 255 := by omega
  have hdi : (fd : Int) ≤ 255 := by omega
  have hremA := cmodW fa 15
  have hremB := cmodW fb 2
  have hremD := cmodW fd 16
  obtain ⟨ka, hka⟩ : ∃ kk, fa % 15 = kk := ⟨_, rfl⟩
  obtain ⟨kb, hkb⟩ : ∃ kk, fb % 2 = kk := ⟨_, rfl⟩
  obtain ⟨kd, hkd⟩ : ∃ kk, fd % 16 = kk := ⟨_, rfl⟩
  have hka15 : kb < 2 ∧ ka < 15 ∧ kd < 16 := by rw [← hka, ← hkb, ← hkd]; omega
  rw [hka] at hremA
  rw [hkb] at hremB
  rw [hkd] at hremD
  have hremA : Int.tmod (fa : Int) 15 = (ka : Int) := hremA
  have hremB : Int.tmod (fb : Int) 2 = (kb : Int) := hremB
  have hremD : Int.tmod (fd : Int) 16 = (kd : Int) := hremD
  have hemA : (fa : Int) % 15 = (ka : Int) := by rw [← hka]; omega
  have hemB : (fb : Int) % 2 = (kb : Int) := by rw [← hkb]; omega
  have hemD : (fd : Int) % 16 = (kd : Int) := by rw [← hkd]; omega
  have Hrem := Lib.hid (And.intro (And.intro hremA hemA) (And.intro (And.intro hremB hemB) (And.intro hremD hemD)))
  have Hab := Lib.hid (And.intro hai (And.intro hbi hdi))
  have Hk15 := Lib.hid hka15
  obtain ⟨np, hnp⟩ : ∃ n, pk.length = n := ⟨_, rfl⟩
  rw [hnp]
  have Hnp := Lib.hid hnp
  unfold maxLen at hpm hm
  have hnpi : (np : Int) ≤ 9223372036854775807 := by omega
  have hli : (l.length : Int) ≤ 9223372036854775807 := by omega
  clear hl hka hkb hkd hfa hfb hfd hb0 hk0 hpk hp8 hnp hpm hm hremA hremB hremD hemA hemB hemD hai hbi hdi hka15
  go_enter Tryz.func3, Tryz.ntmps3
  go_wp2_with fail
  with_reducible refine Calls.mono (wakes27 _) ?_
  rintro r w1 ⟨rfl, hb1⟩
  clear hw0 hg4
  have Hb1 := Lib.hid (below_trans Hb0.out Hb0.out.size hb1)
  have Hk1 := Lib.hid (Hk0.out.below hb1 Hk0.out.lt)
  clear hb1
  go_wp2_with fail
  go_loopw [25] (fun i wr => ∃ k : Nat, i = .int .i64 k ∧ k ≤ l.length ∧ (l.take k).any bigX = false ∧ Below w1.heap.size w1 wr) (fun i _ => l.length - (intOf i).toNat)
  case atStart => exact ⟨0, rfl, Nat.zero_le _, rfl, Below.refl _ _⟩
  case round =>
    obtain ⟨k, rfl, hk, hany, hb⟩ := hrel
    by_cases hlt : k < l.length
    · obtain ⟨g, o, rfl, -, x0, x1, x2, x3, x4, x5, x6, x7, x8⟩ := row_lsa9 (HL.out.rows.below (below_trans Hb1.out Hb1.out.size hb)) k hlt
      have hkl : (k : Int) < (l.length : Int) := by omega
      have hsucc := List.take_succ_eq_append_getElem hlt
      have hmem := List.getElem_mem hlt
      obtain ⟨x, hx⟩ : ∃ x, l[k] = x := ⟨_, rfl⟩
      rw [hx] at x0 x1 x2 x3 x4 x5 x6 x7 x8 hsucc hmem
      obtain ⟨⟨y1, y2, y3, y4, y5, y6, y7⟩, ka', kc, ls, ma, mc, ms⟩ := x
      simp only at x0 x1 x2 x3 x4 x5 x6 x7 x8
      obtain ⟨nl, hnl⟩ : ∃ nl, ls.length = nl := ⟨_, rfl⟩
      obtain ⟨nm, hnm⟩ : ∃ nm, ms.length = nm := ⟨_, rfl⟩
      rw [hnl] at x7
      rw [hnm] at x8
      have Hb := Lib.hid hb
      have Hal := Lib.hid (fun o => hb.alloc hb.size o)
      by_cases h1 : bigX ⟨⟨y1, y2, y3, y4, y5, y6, y7⟩, ka', kc, ls, ma, mc, ms⟩ = true
      · have h2 : (20 : Int) < (nl : Int) ∨ (¬ (20 : Int) < (nl : Int) ∧ (20 : Int) < (nm : Int)) := by
          unfold bigX at h1
          simp only [Bool.or_eq_true, decide_eq_true_eq, hnl, hnm] at h1
          omega
        clear h1 hb hany hx hsucc hmem hnl hnm
        rcases h2 with h2 | ⟨h2, h3⟩
        all_goals
          go_wp2
          go_ret
          exact ⟨rfl, below_trans Hb1.out Hb1.out.size (Hal.out _)⟩
      · have h2 : ¬ (20 : Int) < (nl : Int) ∧ ¬ (20 : Int) < (nm : Int) := by
          unfold bigX at h1
          simp only [Bool.or_eq_true, decide_eq_true_eq, hnl, hnm] at h1
          omega
        have Hany := Lib.hid (show (l.take (k + 1)).any bigX = false by rw [hsucc, List.any_append, hany]; simpa using h1)
        obtain ⟨h2, h3⟩ := h2
        clear h1 hb hany hx hsucc hmem hnl hnm
        go_wp2
        go_roundw
        case measure => simp [intOf]; omega
        case rel => exact ⟨k + 1, by go_num, hlt, Hany.out, Hal.out _⟩
    have hkk : k = l.length := by omega
    subst hkk
    rw [List.take_length] at hany
    obtain ⟨w2, hw2⟩ : ∃ v, v = wr := ⟨_, rfl⟩
    subst hw2
    have Hb2 := Lib.hid (below_trans Hb1.out Hb1.out.size hb)
    have Hk2 := Lib.hid (Hk1.out.below hb Hk1.out.lt)
    have hkl : ¬ (l.length : Int) < (l.length : Int) := by omega
    have Hany := Lib.hid hany
    clear hb hany hlt hk
    by_cases h25 : 25 < l.length
    · have h25i : (25 : Int) < (l.length : Int) := by omega
      clear h25
      go_wp2
      go_ret
      exact ⟨rfl, Hb2.out⟩
    have h25i : ¬ (25 : Int) < (l.length : Int) := by omega
    by_cases h50 : 50 < np
    · have h50i : (50 : Int) < (np : Int) := by omega
      clear h50 h25
      go_wp2
      go_ret
      exact ⟨rfl, Hb2.out⟩
    have h50i : ¬ (50 : Int) < (np : Int) := by omega
    have hlens : ∀ x ∈ l, x.links.length ≤ 1000 ∧ x.members.length ≤ 1000 := fun x hx => by
      have := List.any_eq_false.1 Hany.out x hx
      unfold bigX at this
      simp at this
      omega
    have H50 := Lib.hid (show np ≤ 50 by omega)
    have HIn := Lib.hid (fun W (hW : Below w.heap.size w W) => (show RowsAt 9 Lsa.cells W W.heap.size A l ∧ ∀ x ∈ l, RowsAt 4 Lnk.cells W W.heap.size x.ka x.links ∧ RowsAt 1 icell W W.heap.size x.ma x.members from ⟨(HL.out.rows.below hW).more hW.size, fun x hx => ⟨((HL.out.each x hx).links.below hW).more hW.size, ((HL.out.each x hx).members.below hW).more hW.size⟩⟩))
    obtain ⟨V, hV⟩ : ∃ V, l.map vX = V := ⟨_, rfl⟩
    obtain ⟨E, hE⟩ : ∃ E, edgesV V = E := ⟨_, rfl⟩
    obtain ⟨F, hF⟩ : ∃ F, leavesV V = F := ⟨_, rfl⟩
    obtain ⟨DD, hD⟩ := dists_are E
    have hEl : E.length ≤ 4000 := by rw [← hE]; have := edges_lenT (costC (countsV V)); unfold edgesV; omega
    have HD := Lib.hid hD
    have HEl := Lib.hid hEl
    have HC := Lib.hid (fun id W (hW : Below w.heap.size w W) => Routes_any id A cap l W (HIn.out W hW).1 (HIn.out W hW).2 hlens (by omega) l.length rfl E (by rw [hV, hE]) F (by rw [hV, hF]) DD hD)
    have hFok : LeavesOk F := by rw [← hF]; exact leavesOk V
    have HFok := Lib.hid hFok
    clear h25 h50 hlens hV hE hF hD hEl hFok Hany
    go_wp2_with fail
    go_loopw [9, 10] (fun v9 v10 wr2 => ∃ (k m : Nat) (X : List Stt) (Av : Option Addr) (c : Nat), v10 = .int .i64 m ∧ m = k + 1 ∧ k ≤ 15 ∧ v9 = .slice Av k c ∧ X.length = k ∧ SttsAt E DD F wr2 w2.heap.size (.slice Av k c) X ∧ Below w2.heap.size w2 wr2) (fun _ v10 _ => 16 - (intOf v10).toNat)
    case atStart => exact ⟨0, 1, [], none, 0, rfl, rfl, by omega, rfl, rfl, SttsAt.nil, Below.refl _ _⟩
    case round =>
      obtain ⟨k, m, X, Av, c, rfl, hmk, hk15, rfl, hX, hst, hb3⟩ := hrel
      by_cases hlt : k < 15
      · have hmi : (m : Int) ≤ 15 := by omega
        have Hst := Lib.hid hst
        have Hb3 := Lib.hid hb3
        have HX := Lib.hid hX
        have Hmk := Lib.hid hmk
        have Hlt := Lib.hid hlt
        clear hst hb3 hX hmk hk15 hlt
        go_wp2_with fail
        with_reducible refine Calls.mono (HC.out (m : Int) _ (below_trans Hb2.out Hb2.out.size Hb3.out)) ?_
        rintro r w6 ⟨⟨v6, M, L, rfl, hM, hT, hA⟩, hb6⟩
        have hO := nodesOk HD.out HEl.out hT
        have hok := rts_ok hA hO (hO.low hT) (tree_few HD.out hT)
        obtain ⟨A6, c6, hv6⟩ := hM.row.shape
        subst hv6
        obtain ⟨nM, hnM⟩ : ∃ n, M.length = n := ⟨_, rfl⟩
        rw [hnM] at hM ⊢
        have HRt := Lib.hid (show RtsAt w6 w2.heap.size (.slice A6 nM c6) M from ⟨hM.row.lower Hb3.out.size, fun x hx => (hM.each x hx).lower Hb3.out.size⟩)
        have HFor := Lib.hid (show RtFor E DD F ⟨(m : Int), none, 0, [], none, 0, [], A6, nM, c6⟩ M from ⟨hnM.symm, hok, ⟨L, hT.1 (mayV_iff.2 (.inl ⟨rfl, by have := Hmk.out; simp only; omega, by simp only; omega⟩)), hA⟩⟩)
        have HSt6 := Lib.hid (Hst.out.below hb6)
        have Hb6 := Lib.hid (below_trans Hb3.out Hb3.out.size hb6)
        clear hO hok hnM hM hT hA hb6 Hst
        go_wp2_with (at_builtin; (refine app_row (e := 37) Stt.cells (fun _ => rfl) (by decide) (bytes := 80) (by decide) infoStt rfl Tryz.underlying32 onesStt (by rfl) _ _ (by rfl) w2.heap.size (.slice Av k c) X (by rfl) (HSt6.out.row.alloc _) w6.heap.size ⟨(m : Int), none, 0, [], none, 0, [], A6, nM, c6⟩ (by rfl) (Blk.new _ _ _) (by have := HX.out; have := Hlt.out; omega) (by have := Hb6.out.size; simp; omega) ?_); intro v7 w7 hown7 hg7 hor7)
        have hbA := below_new w6 (.cells #[.int .i64 m, .slice none 0 0, .slice none 0 0, .slice A6 nM c6] 37)
        obtain ⟨A7, c7, hv7⟩ := hown7.shape
        rw [show (X ++ [(⟨(m : Int), none, 0, [], none, 0, [], A6, nM, c6⟩ : Stt)]).length = k + 1 by rw [List.length_append, HX.out]; rfl] at hv7
        subst hv7
        have HSt7 := Lib.hid ((HSt6.out.below hbA).app hg7 hown7 ⟨HRt.out.row.below hbA, fun x hx => (HRt.out.each x hx).below hbA⟩ HFor.out (by have := HX.out; have := Hmk.out; simp only; omega))
        have Hb7 := Lib.hid ((below_trans Hb6.out Hb6.out.size hbA).grown hg7 (below_trans Hb6.out Hb6.out.size hbA).size (fun j e => (HSt6.out.row.block j e).1))
        clear hbA hown7 hg7 hor7
        go_wp2
        go_roundw
        case measure => have := Hlt.out; have := Hmk.out; simp [intOf]; omega
        case rel => exact ⟨k + 1, m + 1, _, A7, c7, by go_num, by rw [Hmk.out], Hlt.out, rfl, by rw [List.length_append, HX.out]; rfl, HSt7.out, Hb7.out⟩
      have hke : k = 15 := by omega
      subst hke
      have hmi : ¬ (m : Int) ≤ 15 := by omega
      obtain ⟨w3, hw3⟩ : ∃ v, v = wr := ⟨_, rfl⟩
      subst hw3
      have hreads := hst.reads (Below.refl _ _) hX
      have HSi := Lib.hid (fun W (hW : Below w3.heap.size w3 W) => (hreads.below hW).more hW.size)
      have Hb3 := Lib.hid (below_trans Hb2.out Hb2.out.size hb3)
      have Hk3 := Lib.hid (Hk2.out.below hb3 Hk2.out.lt)
      clear hst hb3 hX hmk hk15 hlt hreads Hk2 Hk1 Hk0
      obtain ⟨⟨hremA, hemA⟩, ⟨hremB, hemB⟩, ⟨hremD, hemD⟩⟩ := Hrem.out
      obtain ⟨hai, hbi, hdi⟩ := Hab.out
      obtain ⟨hkb2, hka15, hkd16⟩ := Hk15.out
      obtain ⟨n0, hn0⟩ : ∃ n : Nat, (1 : Int) + (ka : Int) = (n : Int) := ⟨1 + ka, by omega⟩
      obtain ⟨kdd, hkdd⟩ : ∃ i : Int, (1 : Int) + (kb : Int) = i := ⟨_, rfl⟩
      have hkaiR : (ka : Int) < 15 := by omega
      have hkbiR : (kb : Int) < 2 := by omega
      have hkdiR : (kd : Int) < 16 := by omega
      have hn1 : 1 ≤ n0 := by omega
      have hn15 : n0 ≤ 15 := by omega
      have Hkdd2 := Lib.hid (show kdd = 1 ∨ kdd = 2 by omega)
      have hkddi : 0 ≤ kdd ∧ kdd ≤ 2 := by omega
      have hn0w : IntKind.i64.wrap (n0 : Int) = (n0 : Int) := by rw [IntKind.wrap_i64]; omega
      have hkddw : IntKind.i64.wrap kdd = kdd := by rw [IntKind.wrap_i64]; omega
      have haw : IntKind.i64.wrap (fa : Int) = (fa : Int) := by rw [IntKind.wrap_i64]; omega
      have hbw : IntKind.i64.wrap (fb : Int) = (fb : Int) := by rw [IntKind.wrap_i64]; omega
      have hdw : IntKind.i64.wrap (fd : Int) = (fd : Int) := by rw [IntKind.wrap_i64]; omega
      have hkaw : IntKind.i64.wrap (ka : Int) = (ka : Int) := by rw [IntKind.wrap_i64]; omega
      have hkbw : IntKind.i64.wrap (kb : Int) = (kb : Int) := by rw [IntKind.wrap_i64]; omega
      have hkdw : IntKind.i64.wrap (kd : Int) = (kd : Int) := by rw [IntKind.wrap_i64]; omega
      have Hn1 := Lib.hid (And.intro hn1 hn15)
      obtain ⟨c40, c41, c42⟩ : w3.cell? ⟨g4, 0, none⟩ = some (.int .u8 fa) ∧ w3.cell? ⟨g4, 1, none⟩ = some (.int .u8 fb) ∧ w3.cell? ⟨g4, 2, none⟩ = some (.int .u8 fd) := ⟨Hk3.out.cell 0, Hk3.out.cell 1, Hk3.out.cell 2⟩
      clear hka15 hkb2 hkd16 hn1 hn15
      go_wp2
      refine wp_region_F (F := fun W => Below w3.heap.size w3 W) (n := 17) (m := 18) (s := #[false, false, false, false, false, false, false, false, false, false, false, false, false, false, false, false, false, false]) (by kernel_rfl) (by kernel_rfl) (by kernel_rfl) ?_
      intro wd hwd
      have hF : Below w3.heap.size w3 wd := by rw [hwd.out]; exact (Below.refl _ _).drew
      clear hwd
      refine F_take (i := 0) (d := some 60) (by kernel_rfl) (by kernel_rfl) (by decide) (s' := #[true, false, false, false, false, false, false, false, false, false, false, false, false, false, false, false, false, false]) (by kernel_rfl) rfl rfl (by kernel_rfl) (by kernel_rfl) (by kernel_rfl) (fun _ _ _ h => h) (Or.inl ⟨by kernel_rfl, fun W hW => by go_simp; try with_reducible rfl⟩) hF ?_
      go_frame
      refine F_take (i := 1) (d := some 61) (by kernel_rfl) (by kernel_rfl) (by decide) (s' := #[true, true, false, false, false, false, false, false, false, false, false, false, false, false, false, false, false, false]) (by kernel_rfl) rfl rfl (by kernel_rfl) (by kernel_rfl) (by kernel_rfl) (fun _ _ _ h => h) (Or.inl ⟨by kernel_rfl, fun W hW => by have q0 := cellIn c40 hW; go_simp; try with_reducible rfl⟩) hF ?_
      go_frame
      refine F_take (i := 2) (d := some 62) (by kernel_rfl) (by kernel_rfl) (by decide) (s' := #[true, true, true, false, false, false, false, false, false, false, false, false, false, false, false, false, false, false]) (by kernel_rfl) rfl rfl (by kernel_rfl) (by kernel_rfl) (by kernel_rfl) (fun _ _ _ h => h) (Or.inl ⟨by kernel_rfl, fun W hW => by go_simp; try with_reducible rfl⟩) hF ?_
      go_frame
      refine F_take (v := .int .i64 (ka : Int)) (i := 3) (d := some 63) (by kernel_rfl) (by kernel_rfl) (by decide) (s' := #[true, true, true, true, false, false, false, false, false, false, false, false, false, false, false, false, false, false]) (by kernel_rfl) rfl rfl (by kernel_rfl) (by kernel_rfl) (by kernel_rfl) (fun _ _ _ h => h) (Or.inl ⟨by kernel_rfl, fun W hW => by go_simp; try with_reducible rfl⟩) hF ?_
      go_frame
      refine F_take (v := .int .i64 (n0 : Int)) (i := 4) (d := some 64) (by kernel_rfl) (by kernel_rfl) (by decide) (s' := #[true, true, true, true, true, false, false, false, false, false, false, false, false, false, false, false, false, false]) (by kernel_rfl) rfl rfl (by kernel_rfl) (by kernel_rfl) (by kernel_rfl) (fun _ _ _ h => h) (Or.inl ⟨by kernel_rfl, fun W hW => by go_simp; try with_reducible rfl⟩) hF ?_
      go_frame
      refine F_take (i := 5) (d := some 65) (by kernel_rfl) (by kernel_rfl) (by decide) (s' := #[true, true, true, true, true, true, false, false, false, false, false, false, false, false, false, false, false, false]) (by kernel_rfl) rfl rfl (by kernel_rfl) (by kernel_rfl) (by kernel_rfl) (fun _ _ _ h => h) (Or.inl ⟨by kernel_rfl, fun W hW => by go_simp; try with_reducible rfl⟩) hF ?_
      go_frame
      refine F_take (i := 6) (d := some 66) (by kernel_rfl) (by kernel_rfl) (by decide) (s' := #[true, true, true, true, true, true, true, false, false, false, false, false, false, false, false, false, false, false]) (by kernel_rfl) rfl rfl (by kernel_rfl) (by kernel_rfl) (by kernel_rfl) (fun _ _ _ h => h) (Or.inl ⟨by kernel_rfl, fun W hW => by have q1 := cellIn c41 hW; go_simp; try with_reducible rfl⟩) hF ?_
      go_frame
      refine F_take (i := 7) (d := some 67) (by kernel_rfl) (by kernel_rfl) (by decide) (s' := #[true, true, true, true, true, true, true, true, false, false, false, false, false, false, false, false, false, false]) (by kernel_rfl) rfl rfl (by kernel_rfl) (by kernel_rfl) (by kernel_rfl) (fun _ _ _ h => h) (Or.inl ⟨by kernel_rfl, fun W hW => by go_simp; try with_reducible rfl⟩) hF ?_
      go_frame
      refine F_take (v := .int .i64 (kb : Int)) (i := 8) (d := some 68) (by kernel_rfl) (by kernel_rfl) (by decide) (s' := #[true, true, true, true, true, true, true, true, true, false, false, false, false, false, false, false, false, false]) (by kernel_rfl) rfl rfl (by kernel_rfl) (by kernel_rfl) (by kernel_rfl) (fun _ _ _ h => h) (Or.inl ⟨by kernel_rfl, fun W hW => by go_simp; try with_reducible rfl⟩) hF ?_
      go_frame
      refine F_take (v := .int .i64 kdd) (i := 9) (d := some 69) (by kernel_rfl) (by kernel_rfl) (by decide) (s' := #[true, true, true, true, true, true, true, true, true, true, false, false, false, false, false, false, false, false]) (by kernel_rfl) rfl rfl (by kernel_rfl) (by kernel_rfl) (by kernel_rfl) (fun _ _ _ h => h) (Or.inl ⟨by kernel_rfl, fun W hW => by go_simp; try with_reducible rfl⟩) hF ?_
      go_frame
      refine F_take (i := 10) (d := some 70) (by kernel_rfl) (by kernel_rfl) (by decide) (s' := #[true, true, true, true, true, true, true, true, true, true, true, false, false, false, false, false, false, false]) (by kernel_rfl) rfl rfl (by kernel_rfl) (by kernel_rfl) (by kernel_rfl) (fun _ _ _ h => h) (Or.inl ⟨by kernel_rfl, fun W hW => by go_simp; try with_reducible rfl⟩) hF ?_
      go_frame
      refine F_take (i := 11) (d := some 71) (by kernel_rfl) (by kernel_rfl) (by decide) (s' := #[true, true, true, true, true, true, true, true, true, true, true, true, false, false, false, false, false, false]) (by kernel_rfl) rfl rfl (by kernel_rfl) (by kernel_rfl) (by kernel_rfl) (fun _ _ _ h => h) (Or.inl ⟨by kernel_rfl, fun W hW => by have q2 := cellIn c42 hW; go_simp; try with_reducible rfl⟩) hF ?_
      go_frame
      refine F_take (i := 12) (d := some 72) (by kernel_rfl) (by kernel_rfl) (by decide) (s' := #[true, true, true, true, true, true, true, true, true, true, true, true, true, false, false, false, false, false]) (by kernel_rfl) rfl rfl (by kernel_rfl) (by kernel_rfl) (by kernel_rfl) (fun _ _ _ h => h) (Or.inl ⟨by kernel_rfl, fun W hW => by go_simp; try with_reducible rfl⟩) hF ?_
      go_frame
      refine F_take (v := .int .i64 (kd : Int)) (i := 13) (d := some 73) (by kernel_rfl) (by kernel_rfl) (by decide) (s' := #[true, true, true, true, true, true, true, true, true, true, true, true, true, true, false, false, false, false]) (by kernel_rfl) rfl rfl (by kernel_rfl) (by kernel_rfl) (by kernel_rfl) (fun _ _ _ h => h) (Or.inl ⟨by kernel_rfl, fun W hW => by go_simp; try with_reducible rfl⟩) hF ?_
      go_frame
      refine F_take (v := .agg #[.int .i64 kdd, .int .i64 (kd : Int)]) (i := 14) (d := some 74) (by kernel_rfl) (by kernel_rfl) (by decide) (s' := #[true, true, true, true, true, true, true, true, true, true, true, true, true, true, true, false, false, false]) (by kernel_rfl) rfl rfl (by kernel_rfl) (by kernel_rfl) (by kernel_rfl) (fun _ _ _ h => h) (Or.inl ⟨by kernel_rfl, fun W hW => by go_simp; try with_reducible rfl⟩) hF ?_
      go_frame
      obtain ⟨we, hV⟩ : ∃ v, wd.alloc (.cells #[.int .i64 0, .int .i64 0] 39) = v := ⟨_, rfl⟩
      have hbe := below_new wd (.cells #[.int .i64 0, .int .i64 0] 39)
      have ke := Blk.new wd 39 #[.int .i64 0, .int .i64 0]
      obtain ⟨g12, hg12⟩ : ∃ p, wd.heap.size = p := ⟨_, rfl⟩
      rw [hV] at hbe ke
      rw [hg12] at ke
      have hgw : w3.heap.size ≤ g12 := by rw [← hg12]; exact hF.size
      have hFe := below_trans hF hF.size hbe
      refine F_one (i := 15) (s' := #[true, true, true, true, true, true, true, true, true, true, true, true, true, true, true, true, false, false]) (by kernel_rfl) (by kernel_rfl) (wpOp_valueL (i := 15) (d := some 12) (w' := we) (v := .pointer (some ⟨g12, 0, none⟩)) rfl rfl (by kernel_rfl) (by go_simp) ⟨fun _ => hFe, ?_⟩)
      go_frame
      clear hV hg12 hbe
      have hF := hFe
      refine F_take (v := .int .i64 (n0 : Int)) (i := 16) (d := some 11) (by kernel_rfl) (by kernel_rfl) (by decide) (s' := #[true, true, true, true, true, true, true, true, true, true, true, true, true, true, true, true, true, false]) (by kernel_rfl) rfl rfl (by kernel_rfl) (by kernel_rfl) (by kernel_rfl) (fun _ _ _ h => h) (Or.inl ⟨by kernel_rfl, fun W hW => by go_simp; try with_reducible rfl⟩) hF ?_
      go_frame
      have k2' := ((ke.set_ 0 (.int .i64 kdd)).set_ 1 (.int .i64 kd)).to (cs' := #[.int .i64 kdd, .int .i64 kd]) (by simp)
      have hFz := (hFe.setCell (p := ⟨g12, 0, none⟩) hgw (.int .i64 kdd)).setCell (p := ⟨g12, 1, none⟩) hgw (.int .i64 kd)
      obtain ⟨c0, c1, cf0, cf1⟩ := ke.cells2
      obtain ⟨wz, hwz⟩ : ∃ v, (we.setCell ⟨g12, 0, none⟩ (.int .i64 kdd)).setCell ⟨g12, 1, none⟩ (.int .i64 kd) = v := ⟨_, rfl⟩
      rw [hwz] at k2' hFz
      refine F_one (i := 17) (s' := #[true, true, true, true, true, true, true, true, true, true, true, true, true, true, true, true, true, true]) (by kernel_rfl) (by kernel_rfl) (wpOp_skipL (i := 17) (w' := wz) rfl rfl (by kernel_rfl) (by go_simp) ⟨fun h => absurd h (by decide), ?_⟩)
      go_frame
      refine F_done (by kernel_rfl) ?_ _
      have Hkh := Lib.hid k2'
      have HbZ := Lib.hid hFz
      clear k2' hFz c0 c1 cf0 cf1 hwz ke hFe hF hgw c40 c41 c42 hremA hremB hremD hemA hemB hemD haw hbw hdw hkaw hkbw hkdw hai hbi hdi
      have hbz0 := below_trans Hb3.out Hb3.out.size HbZ.out
      have HW := Lib.hid (Walk_any n0 Hn1.out.1 Hn1.out.2 kdd (kd : Int) Hkdd2.out pA pcap pk np Hnp.out Av c X wz ((HP.out.below hbz0).more hbz0.size) (by rw [Hnp.out]; exact H50.out) HP8.out (HSi.out _ HbZ.out) HD.out HFok.out)
      obtain ⟨h0, h1, -, -⟩ := Hkh.out.cells2
      clear hbz0
      go_wp2_with fail
      with_reducible refine Calls.mono HW.out ?_
      rintro r w5 ⟨⟨vP, P, t, rfl, hP, hnd, hP15, ht⟩, hb5⟩
      obtain ⟨AP, cP, hvP⟩ := hP.shape
      subst hvP
      obtain ⟨nP, hnP⟩ : ∃ n, P.length = n := ⟨_, rfl⟩
      rw [hnP] at hP
      have HbY := Lib.hid (below_trans HbZ.out HbZ.out.size hb5)
      have Hk5 := Lib.hid (Hkh.out.below hb5 Hkh.out.lt)
      have HPo := Lib.hid hP
      have Hnd := Lib.hid hnd
      have HnP := Lib.hid hnP
      have hnP15 : nP ≤ 15 := by omega
      have Ht := Lib.hid ht
      obtain ⟨b, o, M, ra, nM, rcap, hA, -, hx3, hM, hnM, hok, L, hL, hR⟩ := (HSi.out _ HbY.out).at_ Hn1.out.1 Hn1.out.2
      obtain ⟨m0, hm0⟩ : ∃ m, n0 - 1 = m := ⟨_, rfl⟩
      rw [hm0] at hx3
      have hidx : (n0 : Int) - 1 = (m0 : Int) := by have := Hn1.out.1; omega
      have hm15 : (m0 : Int) < 15 := by have := Hn1.out.2; have := Hn1.out.1; omega
      have hmw : IntKind.i64.wrap (m0 : Int) = (m0 : Int) := by rw [IntKind.wrap_i64]; omega
      have HF := Lib.hid (show ∀ W, Below w5.heap.size w5 W → Calls Tryz.prog 9 #[.int .i64 kdd, .int .i64 (kd : Int), .slice ra nM rcap] W fun r w' => FoundR M kdd (kd : Int) w' W.heap.size r ∧ Below W.heap.size W w' from fun W hW => FindR_any kdd (kd : Int) ra rcap nM M W ((hM.below hW).more hW.size) (by have := hok.len; omega) hnM)
      have Hok := Lib.hid hok
      have HLR := Lib.hid (And.intro hL hR)
      have y3 := hx3 _ (Below.refl _ _)
      obtain ⟨h0, h1, -, -⟩ := Hk5.out.cells2
      subst hA
      clear hP hnd hnP ht hb5 hP15 hx3 hM hnM hok hL hR hm0
      rw [HnP.out]
      go_upto_region 18 with fail
      go_cut [15, 16] from 83 to 130 (fun v15 v16 wx => ∃ hs : Bool, v16 = .bool hs ∧ (hs = true ↔ HasTo E DD F kdd (kd : Int) (n0 : Int)) ∧ Below w5.heap.size w5 wx)
      case first =>
        refine wp_region_F (F := fun W => Below w5.heap.size w5 W) (n := 16) (m := 17) (s := #[false, false, false, false, false, false, false, false, false, false, false, false, false, false, false, false, false]) (by kernel_rfl) (by kernel_rfl) (by kernel_rfl) ?_
        intro wd5 hwd
        have hF : Below w5.heap.size w5 wd5 := by rw [hwd.out]; exact (Below.refl _ _).drew
        clear hwd
        refine F_take (i := 0) (d := some 84) (by kernel_rfl) (by kernel_rfl) (by decide) (s' := #[true, false, false, false, false, false, false, false, false, false, false, false, false, false, false, false, false]) (by kernel_rfl) rfl rfl (by kernel_rfl) (by kernel_rfl) (by kernel_rfl) (fun _ _ _ h => h) (Or.inl ⟨by kernel_rfl, fun W hW => by go_simp; try with_reducible rfl⟩) hF ?_
        go_frame
        refine F_take (i := 1) (d := some 85) (by kernel_rfl) (by kernel_rfl) (by decide) (s' := #[true, true, false, false, false, false, false, false, false, false, false, false, false, false, false, false, false]) (by kernel_rfl) rfl rfl (by kernel_rfl) (by kernel_rfl) (by kernel_rfl) (fun _ _ _ h => h) (Or.inl ⟨by kernel_rfl, fun W hW => by have q0 := cellIn h0 hW; go_simp; try with_reducible rfl⟩) hF ?_
        go_frame
        refine F_take (i := 2) (d := some 86) (by kernel_rfl) (by kernel_rfl) (by decide) (s' := #[true, true, true, false, false, false, false, false, false, false, false, false, false, false, false, false, false]) (by kernel_rfl) rfl rfl (by kernel_rfl) (by kernel_rfl) (by kernel_rfl) (fun _ _ _ h => h) (Or.inl ⟨by kernel_rfl, fun W hW => by go_simp; try with_reducible rfl⟩) hF ?_
        go_frame
        refine F_take (i := 3) (d := some 87) (by kernel_rfl) (by kernel_rfl) (by decide) (s' := #[true, true, true, true, false, false, false, false, false, false, false, false, false, false, false, false, false]) (by kernel_rfl) rfl rfl (by kernel_rfl) (by kernel_rfl) (by kernel_rfl) (fun _ _ _ h => h) (Or.inl ⟨by kernel_rfl, fun W hW => by have q1 := cellIn h1 hW; go_simp; try with_reducible rfl⟩) hF ?_
        go_frame
        refine F_take (i := 4) (d := some 88) (by kernel_rfl) (by kernel_rfl) (by decide) (s' := #[true, true, true, true, true, false, false, false, false, false, false, false, false, false, false, false, false]) (by kernel_rfl) rfl rfl (by kernel_rfl) (by kernel_rfl) (by kernel_rfl) (fun _ _ _ h => h) (Or.inl ⟨by kernel_rfl, fun W hW => by go_simp; try with_reducible rfl⟩) hF ?_
        go_frame
        refine F_take (i := 5) (d := some 89) (by kernel_rfl) (by kernel_rfl) (by decide) (s' := #[true, true, true, true, true, true, false, false, false, false, false, false, false, false, false, false, false]) (by kernel_rfl) rfl rfl (by kernel_rfl) (by kernel_rfl) (by kernel_rfl) (fun _ _ _ h => h) (Or.inl ⟨by kernel_rfl, fun W hW => by go_simp; try with_reducible rfl⟩) hF ?_
        go_frame
        refine F_take (i := 6) (d := some 90) (by kernel_rfl) (by kernel_rfl) (by decide) (s' := #[true, true, true, true, true, true, true, false, false, false, false, false, false, false, false, false, false]) (by kernel_rfl) rfl rfl (by kernel_rfl) (by kernel_rfl) (by kernel_rfl) (fun _ _ _ h => h) (Or.inl ⟨by kernel_rfl, fun W hW => by go_simp; try with_reducible rfl⟩) hF ?_
        go_frame
        refine F_take (i := 7) (d := some 91) (by kernel_rfl) (by kernel_rfl) (by decide) (s' := #[true, true, true, true, true, true, true, true, false, false, false, false, false, false, false, false, false]) (by kernel_rfl) rfl rfl (by kernel_rfl) (by kernel_rfl) (by kernel_rfl) (fun _ _ _ h => h) (Or.inl ⟨by kernel_rfl, fun W hW => by go_simp; try with_reducible rfl⟩) hF ?_
        go_frame
        refine F_take (i := 8) (d := some 92) (by kernel_rfl) (by kernel_rfl) (by decide) (s' := #[true, true, true, true, true, true, true, true, true, false, false, false, false, false, false, false, false]) (by kernel_rfl) rfl rfl (by kernel_rfl) (by kernel_rfl) (by kernel_rfl) (fun _ _ _ h => h) (Or.inl ⟨by kernel_rfl, fun W hW => by go_simp; try with_reducible rfl⟩) hF ?_
        go_frame
        refine F_take (i := 9) (d := some 93) (by kernel_rfl) (by kernel_rfl) (by decide) (s' := #[true, true, true, true, true, true, true, true, true, true, false, false, false, false, false, false, false]) (by kernel_rfl) rfl rfl (by kernel_rfl) (by kernel_rfl) (by kernel_rfl) (fun _ _ _ h => h) (Or.inl ⟨by kernel_rfl, fun W hW => by have q3 := cellIn y3 hW; go_simp; try with_reducible rfl⟩) hF ?_
        go_frame
        clear h0 h1 y3
        refine F_two (i := 10) (j := 14) (si := #[true, true, true, true, true, true, true, true, true, true, true, false, false, false, false, false, false]) (sj := #[true, true, true, true, true, true, true, true, true, true, false, false, false, false, true, false, false]) (by kernel_rfl) (by kernel_rfl) (by kernel_rfl) ?_ ?_
        · skip
          refine wpOp_enterL (i := 10) (d := some 94) (f := 9) (args := #[.int .i64 kdd, .int .i64 (kd : Int), .slice ra nM rcap]) rfl rfl (by kernel_rfl) (by go_simp) (Calls.mono (HF.out _ hF) ?_)
          rintro r w6 ⟨hfo, hb6⟩
          have hF6 := below_trans hF hF.size hb6
          clear hF
          have hF := hF6
          clear hF6
          rcases hfo with ⟨z, A14, c14, hx, rfl, -⟩ | ⟨hx, rfl⟩
          · skip
            obtain ⟨zk, zi, zc, zn⟩ := z
            simp only
            refine ⟨_, rfl, fun _ => hF, ?_⟩
            go_frame
            refine F_take (i := 11) (d := some 83) (by kernel_rfl) (by kernel_rfl) (by decide) (s' := #[true, true, true, true, true, true, true, true, true, true, true, true, false, false, false, false, false]) (by kernel_rfl) rfl rfl (by kernel_rfl) (by kernel_rfl) (by kernel_rfl) (fun _ _ _ h => h) (Or.inl ⟨by kernel_rfl, fun W hW => by go_simp; try with_reducible rfl⟩) hF ?_
            go_frame
            refine F_take (i := 12) (d := some 95) (by kernel_rfl) (by kernel_rfl) (by decide) (s' := #[true, true, true, true, true, true, true, true, true, true, true, true, true, false, false, false, false]) (by kernel_rfl) rfl rfl (by kernel_rfl) (by kernel_rfl) (by kernel_rfl) (fun _ _ _ h => h) (Or.inl ⟨by kernel_rfl, fun W hW => by go_simp; try with_reducible rfl⟩) hF ?_
            go_frame
            refine F_take (i := 13) (d := some 96) (by kernel_rfl) (by kernel_rfl) (by decide) (s' := #[true, true, true, true, true, true, true, true, true, true, true, true, true, true, false, false, false]) (by kernel_rfl) rfl rfl (by kernel_rfl) (by kernel_rfl) (by kernel_rfl) (fun _ _ _ h => h) (Or.inl ⟨by kernel_rfl, fun W hW => by go_simp; try with_reducible rfl⟩) hF ?_
            go_frame
            obtain ⟨we, hV⟩ : ∃ v, w6.alloc (.cells #[.int .i64 0, .int .i64 0, .int .i64 0, .slice none 0 0] 44) = v := ⟨_, rfl⟩
            have hbe := below_new w6 (.cells #[.int .i64 0, .int .i64 0, .int .i64 0, .slice none 0 0] 44)
            have ke := Blk.new w6 44 #[.int .i64 0, .int .i64 0, .int .i64 0, .slice none 0 0]
            obtain ⟨g15, hg15⟩ : ∃ p, w6.heap.size = p := ⟨_, rfl⟩
            rw [hV] at hbe ke
            rw [hg15] at ke
            have hgw : w5.heap.size ≤ g15 := by rw [← hg15]; exact hF.size
            have hFe := below_trans hF hF.size hbe
            refine F_one (i := 14) (s' := #[true, true, true, true, true, true, true, true, true, true, true, true, true, true, true, false, false]) (by kernel_rfl) (by kernel_rfl) ?_
            refine wpOp_valueL (i := 14) (d := some 15) (w' := we) (v := .pointer (some ⟨g15, 0, none⟩)) rfl rfl (by kernel_rfl) (by go_simp) ⟨fun _ => hFe, ?_⟩
            go_frame
            clear hV hg15
            have hFz := below_put4 hFe hgw (.int .i64 zk) (.int .i64 zi) (.int .i64 zc) (.slice A14 zn.length c14)
            obtain ⟨⟨c0, c1, c2, c3⟩, cf0, cf1, cf2, cf3⟩ := blk4r ke
            obtain ⟨wy, hwy⟩ : ∃ v, (((we.setCell ⟨g15, 0, none⟩ (.int .i64 zk)).setCell ⟨g15, 1, none⟩ (.int .i64 zi)).setCell ⟨g15, 2, none⟩ (.int .i64 zc)).setCell ⟨g15, 3, none⟩ (.slice A14 zn.length c14) = v := ⟨_, rfl⟩
            rw [hwy] at hFz
            refine F_one (i := 15) (s' := #[true, true, true, true, true, true, true, true, true, true, true, true, true, true, true, true, false]) (by kernel_rfl) (by kernel_rfl) (wpOp_skipL (i := 15) (w' := wy) rfl rfl (by kernel_rfl) (by go_simp) ⟨fun _ => hFz, ?_⟩)
            go_frame
            clear hwy c0 c1 c2 c3 cf0 cf1 cf2 cf3
            refine F_one (i := 16) (s' := #[true, true, true, true, true, true, true, true, true, true, true, true, true, true, true, true, true]) (by kernel_rfl) (by kernel_rfl) (wpOp_valueL (i := 16) (d := some 16) (w' := wy) (v := .bool true) rfl rfl (by kernel_rfl) (by go_simp) ⟨fun h => absurd h (by decide), ?_⟩)
            go_frame
            refine F_done (by kernel_rfl) ?_ _
            go_wp2_with fail
            go_meet
            exact ⟨true, rfl, ⟨fun _ => has_of HLR.out.1 HLR.out.2 Hok.out hx, fun _ => rfl⟩, hFz⟩
          · skip
            refine ⟨_, rfl, fun _ => hF, ?_⟩
            go_frame
            refine F_take (i := 11) (d := some 83) (by kernel_rfl) (by kernel_rfl) (by decide) (s' := #[true, true, true, true, true, true, true, true, true, true, true, true, false, false, false, false, false]) (by kernel_rfl) rfl rfl (by kernel_rfl) (by kernel_rfl) (by kernel_rfl) (fun _ _ _ h => h) (Or.inl ⟨by kernel_rfl, fun W hW => by go_simp; try with_reducible rfl⟩) hF ?_
            go_frame
            refine F_take (i := 12) (d := some 95) (by kernel_rfl) (by kernel_rfl) (by decide) (s' := #[true, true, true, true, true, true, true, true, true, true, true, true, true, false, false, false, false]) (by kernel_rfl) rfl rfl (by kernel_rfl) (by kernel_rfl) (by kernel_rfl) (fun _ _ _ h => h) (Or.inl ⟨by kernel_rfl, fun W hW => by go_simp; try with_reducible rfl⟩) hF ?_
            go_frame
            refine F_take (i := 13) (d := some 96) (by kernel_rfl) (by kernel_rfl) (by decide) (s' := #[true, true, true, true, true, true, true, true, true, true, true, true, true, true, false, false, false]) (by kernel_rfl) rfl rfl (by kernel_rfl) (by kernel_rfl) (by kernel_rfl) (fun _ _ _ h => h) (Or.inl ⟨by kernel_rfl, fun W hW => by go_simp; try with_reducible rfl⟩) hF ?_
            go_frame
            obtain ⟨we, hV⟩ : ∃ v, w6.alloc (.cells #[.int .i64 0, .int .i64 0, .int .i64 0, .slice none 0 0] 44) = v := ⟨_, rfl⟩
            have hbe := below_new w6 (.cells #[.int .i64 0, .int .i64 0, .int .i64 0, .slice none 0 0] 44)
            have ke := Blk.new w6 44 #[.int .i64 0, .int .i64 0, .int .i64 0, .slice none 0 0]
            obtain ⟨g15, hg15⟩ : ∃ p, w6.heap.size = p := ⟨_, rfl⟩
            rw [hV] at hbe ke
            rw [hg15] at ke
            have hgw : w5.heap.size ≤ g15 := by rw [← hg15]; exact hF.size
            have hFe := below_trans hF hF.size hbe
            refine F_one (i := 14) (s' := #[true, true, true, true, true, true, true, true, true, true, true, true, true, true, true, false, false]) (by kernel_rfl) (by kernel_rfl) ?_
            refine wpOp_valueL (i := 14) (d := some 15) (w' := we) (v := .pointer (some ⟨g15, 0, none⟩)) rfl rfl (by kernel_rfl) (by go_simp) ⟨fun _ => hFe, ?_⟩
            go_frame
            clear hV hg15
            have hFz := below_put4 hFe hgw (.int .i64 0) (.int .i64 0) (.int .i64 0) (.slice none 0 0)
            obtain ⟨⟨c0, c1, c2, c3⟩, cf0, cf1, cf2, cf3⟩ := blk4r ke
            obtain ⟨wy, hwy⟩ : ∃ v, (((we.setCell ⟨g15, 0, none⟩ (.int .i64 0)).setCell ⟨g15, 1, none⟩ (.int .i64 0)).setCell ⟨g15, 2, none⟩ (.int .i64 0)).setCell ⟨g15, 3, none⟩ (.slice none 0 0) = v := ⟨_, rfl⟩
            rw [hwy] at hFz
            refine F_one (i := 15) (s' := #[true, true, true, true, true, true, true, true, true, true, true, true, true, true, true, true, false]) (by kernel_rfl) (by kernel_rfl) (wpOp_skipL (i := 15) (w' := wy) rfl rfl (by kernel_rfl) (by go_simp) ⟨fun _ => hFz, ?_⟩)
            go_frame
            clear hwy c0 c1 c2 c3 cf0 cf1 cf2 cf3
            refine F_one (i := 16) (s' := #[true, true, true, true, true, true, true, true, true, true, true, true, true, true, true, true, true]) (by kernel_rfl) (by kernel_rfl) (wpOp_valueL (i := 16) (d := some 16) (w' := wy) (v := .bool false) rfl rfl (by kernel_rfl) (by go_simp) ⟨fun h => absurd h (by decide), ?_⟩)
            go_frame
            refine F_done (by kernel_rfl) ?_ _
            go_wp2_with fail
            go_meet
            exact ⟨false, rfl, ⟨fun h => (by cases h), fun h => absurd h (hasTo_not HD.out HLR.out.1 HLR.out.2 Hok.out hx)⟩, hFz⟩
        · skip
          obtain ⟨we, hV⟩ : ∃ v, wd5.alloc (.cells #[.int .i64 0, .int .i64 0, .int .i64 0, .slice none 0 0] 44) = v := ⟨_, rfl⟩
          have hbe := below_new wd5 (.cells #[.int .i64 0, .int .i64 0, .int .i64 0, .slice none 0 0] 44)
          have ke := Blk.new wd5 44 #[.int .i64 0, .int .i64 0, .int .i64 0, .slice none 0 0]
          obtain ⟨g15, hg15⟩ : ∃ p, wd5.heap.size = p := ⟨_, rfl⟩
          rw [hV] at hbe ke
          rw [hg15] at ke
          have hgw : w5.heap.size ≤ g15 := by rw [← hg15]; exact hF.size
          have hFe := below_trans hF hF.size hbe
          refine wpOp_valueL (i := 14) (d := some 15) (w' := we) (v := .pointer (some ⟨g15, 0, none⟩)) rfl rfl (by kernel_rfl) (by go_simp) ⟨fun _ => hFe, ?_⟩
          go_frame
          clear hV hg15
          refine F_one (i := 10) (s' := #[true, true, true, true, true, true, true, true, true, true, true, false, false, false, true, false, false]) (by kernel_rfl) (by kernel_rfl) ?_
          refine wpOp_enterL (i := 10) (d := some 94) (f := 9) (args := #[.int .i64 kdd, .int .i64 (kd : Int), .slice ra nM rcap]) rfl rfl (by kernel_rfl) (by go_simp) (Calls.mono (HF.out _ hFe) ?_)
          rintro r w6 ⟨hfo, hb6⟩
          have hF6 := below_trans hFe hFe.size hb6
          have ke := ke.below hb6 ke.lt
          clear hF hFe hbe
          have hF := hF6
          clear hF6
          rcases hfo with ⟨z, A14, c14, hx, rfl, -⟩ | ⟨hx, rfl⟩
          · skip
            obtain ⟨zk, zi, zc, zn⟩ := z
            simp only
            refine ⟨_, rfl, fun _ => hF, ?_⟩
            go_frame
            refine F_take (i := 11) (d := some 83) (by kernel_rfl) (by kernel_rfl) (by decide) (s' := #[true, true, true, true, true, true, true, true, true, true, true, true, false, false, true, false, false]) (by kernel_rfl) rfl rfl (by kernel_rfl) (by kernel_rfl) (by kernel_rfl) (fun _ _ _ h => h) (Or.inl ⟨by kernel_rfl, fun W hW => by go_simp; try with_reducible rfl⟩) hF ?_
            go_frame
            refine F_take (i := 12) (d := some 95) (by kernel_rfl) (by kernel_rfl) (by decide) (s' := #[true, true, true, true, true, true, true, true, true, true, true, true, true, false, true, false, false]) (by kernel_rfl) rfl rfl (by kernel_rfl) (by kernel_rfl) (by kernel_rfl) (fun _ _ _ h => h) (Or.inl ⟨by kernel_rfl, fun W hW => by go_simp; try with_reducible rfl⟩) hF ?_
            go_frame
            refine F_take (i := 13) (d := some 96) (by kernel_rfl) (by kernel_rfl) (by decide) (s' := #[true, true, true, true, true, true, true, true, true, true, true, true, true, true, true, false, false]) (by kernel_rfl) rfl rfl (by kernel_rfl) (by kernel_rfl) (by kernel_rfl) (fun _ _ _ h => h) (Or.inl ⟨by kernel_rfl, fun W hW => by go_simp; try with_reducible rfl⟩) hF ?_
            go_frame
            have hFz := below_put4 hF hgw (.int .i64 zk) (.int .i64 zi) (.int .i64 zc) (.slice A14 zn.length c14)
            obtain ⟨⟨c0, c1, c2, c3⟩, cf0, cf1, cf2, cf3⟩ := blk4r ke
            obtain ⟨wy, hwy⟩ : ∃ v, (((w6.setCell ⟨g15, 0, none⟩ (.int .i64 zk)).setCell ⟨g15, 1, none⟩ (.int .i64 zi)).setCell ⟨g15, 2, none⟩ (.int .i64 zc)).setCell ⟨g15, 3, none⟩ (.slice A14 zn.length c14) = v := ⟨_, rfl⟩
            rw [hwy] at hFz
            refine F_one (i := 15) (s' := #[true, true, true, true, true, true, true, true, true, true, true, true, true, true, true, true, false]) (by kernel_rfl) (by kernel_rfl) (wpOp_skipL (i := 15) (w' := wy) rfl rfl (by kernel_rfl) (by go_simp) ⟨fun _ => hFz, ?_⟩)
            go_frame
            clear hwy c0 c1 c2 c3 cf0 cf1 cf2 cf3
            refine F_one (i := 16) (s' := #[true, true, true, true, true, true, true, true, true, true, true, true, true, true, true, true, true]) (by kernel_rfl) (by kernel_rfl) (wpOp_valueL (i := 16) (d := some 16) (w' := wy) (v := .bool true) rfl rfl (by kernel_rfl) (by go_simp) ⟨fun h => absurd h (by decide), ?_⟩)
            go_frame
            refine F_done (by kernel_rfl) ?_ _
            go_wp2_with fail
            go_meet
            exact ⟨true, rfl, ⟨fun _ => has_of HLR.out.1 HLR.out.2 Hok.out hx, fun _ => rfl⟩, hFz⟩
          · skip
            refine ⟨_, rfl, fun _ => hF, ?_⟩
            go_frame
            refine F_take (i := 11) (d := some 83) (by kernel_rfl) (by kernel_rfl) (by decide) (s' := #[true, true, true, true, true, true, true, true, true, true, true, true, false, false, true, false, false]) (by kernel_rfl) rfl rfl (by kernel_rfl) (by kernel_rfl) (by kernel_rfl) (fun _ _ _ h => h) (Or.inl ⟨by kernel_rfl, fun W hW => by go_simp; try with_reducible rfl⟩) hF ?_
            go_frame
            refine F_take (i := 12) (d := some 95) (by kernel_rfl) (by kernel_rfl) (by decide) (s' := #[true, true, true, true, true, true, true, true, true, true, true, true, true, false, true, false, false]) (by kernel_rfl) rfl rfl (by kernel_rfl) (by kernel_rfl) (by kernel_rfl) (fun _ _ _ h => h) (Or.inl ⟨by kernel_rfl, fun W hW => by go_simp; try with_reducible rfl⟩) hF ?_
            go_frame
            refine F_take (i := 13) (d := some 96) (by kernel_rfl) (by kernel_rfl) (by decide) (s' := #[true, true, true, true, true, true, true, true, true, true, true, true, true, true, true, false, false]) (by kernel_rfl) rfl rfl (by kernel_rfl) (by kernel_rfl) (by kernel_rfl) (fun _ _ _ h => h) (Or.inl ⟨by kernel_rfl, fun W hW => by go_simp; try with_reducible rfl⟩) hF ?_
            go_frame
            have hFz := below_put4 hF hgw (.int .i64 0) (.int .i64 0) (.int .i64 0) (.slice none 0 0)
            obtain ⟨⟨c0, c1, c2, c3⟩, cf0, cf1, cf2, cf3⟩ := blk4r ke
            obtain ⟨wy, hwy⟩ : ∃ v, (((w6.setCell ⟨g15, 0, none⟩ (.int .i64 0)).setCell ⟨g15, 1, none⟩ (.int .i64 0)).setCell ⟨g15, 2, none⟩ (.int .i64 0)).setCell ⟨g15, 3, none⟩ (.slice none 0 0) = v := ⟨_, rfl⟩
            rw [hwy] at hFz
            refine F_one (i := 15) (s' := #[true, true, true, true, true, true, true, true, true, true, true, true, true, true, true, true, false]) (by kernel_rfl) (by kernel_rfl) (wpOp_skipL (i := 15) (w' := wy) rfl rfl (by kernel_rfl) (by go_simp) ⟨fun _ => hFz, ?_⟩)
            go_frame
            clear hwy c0 c1 c2 c3 cf0 cf1 cf2 cf3
            refine F_one (i := 16) (s' := #[true, true, true, true, true, true, true, true, true, true, true, true, true, true, true, true, true]) (by kernel_rfl) (by kernel_rfl) (wpOp_valueL (i := 16) (d := some 16) (w' := wy) (v := .bool false) rfl rfl (by kernel_rfl) (by go_simp) ⟨fun h => absurd h (by decide), ?_⟩)
            go_frame
            refine F_done (by kernel_rfl) ?_ _
            go_wp2_with fail
            go_meet
            exact ⟨false, rfl, ⟨fun h => (by cases h), fun h => absurd h (hasTo_not HD.out HLR.out.1 HLR.out.2 Hok.out hx)⟩, hFz⟩
      case rest =>
        obtain ⟨hs, rfl, hhs, hbc⟩ := hcut
        have HbC := Lib.hid (below_trans HbY.out HbY.out.size hbc)
        have HkC := Lib.hid (Hk5.out.below hbc Hk5.out.lt)
        have HPc := Lib.hid (HPo.out.below hbc)
        have Hhs := Lib.hid hhs
        clear hhs hbc h0 h1 y3 hidx hm15 hmw
        go_wp2_with fail
        go_loopw [99] (fun i wr3 => ∃ k : Nat, i = .int .i64 k ∧ k ≤ nP ∧ Below wc.heap.size wc wr3) (fun i _ => nP - (intOf i).toNat)
        case atStart => exact ⟨0, rfl, Nat.zero_le _, Below.refl _ _⟩
        case round =>
          obtain ⟨i, rfl, hi, hb⟩ := hrel
          by_cases hlt : i < nP
          · have hii : (i : Int) < (nP : Int) := by omega
            have hin : i < P.length := by rw [HnP.out]; exact hlt
            obtain ⟨gP, cP', hvP, -, -, u0⟩ := OwnI.at_ (HPc.out.below hb) i hin
            rw [HnP.out] at hvP
            injection hvP with hAP hcP
            subst hAP
            have hcap : nP ≤ cP := own_capW HPc.out
            have hcapi : (nP : Int) ≤ (cP : Int) := by omega
            have hicap : (i : Int) ≤ (cP : Int) := by omega
            have hndi := fun j (hj : j < i) => not_twice Hnd.out hin hj
            have hrd := fun (W : World) (hW : Below wc.heap.size wc W) j (hj : j < i) => (show W.cell? ⟨gP, j, none⟩ = some (.int .i64 (P[j]'(Nat.lt_trans hj hin))) from by
              obtain ⟨g', c', hv', -, -, u⟩ := OwnI.at_ (HPc.out.below hW) j (Nat.lt_trans hj hin)
              injection hv' with e1 e2 e3
              injection e1 with e1
              injection e1 with e1
              rw [e1]
              exact u)
            have Hndi := Lib.hid hndi
            have Hrd := Lib.hid hrd
            generalize (P[i]'hin) = x at u0 Hndi
            have Hb := Lib.hid hb
            have Hlt := Lib.hid hlt
            clear hb hlt hndi hrd hi hcap
            go_wp2_with fail
            go_loopw [108] (fun j wr4 => ∃ k : Nat, j = .int .i64 k ∧ k ≤ i ∧ Below wc.heap.size wc wr4) (fun j _ => i - (intOf j).toNat)
            case atStart => exact ⟨0, rfl, Nat.zero_le _, Hb.out⟩
            case round =>
              obtain ⟨j, rfl, hj, hb4⟩ := hrel
              by_cases hlt2 : j < i
              · have hji : (j : Int) < (i : Int) := by omega
                have u1 := Hrd.out _ hb4 j hlt2
                have e1 := Hndi.out j hlt2
                generalize (P[j]'(Nat.lt_trans hlt2 hin)) = y at u1 e1
                have Hb4 := Lib.hid hb4
                clear hb4
                go_wp2
                go_roundw
                case measure => simp [intOf]; omega
                case rel => exact ⟨j + 1, by go_num, hlt2, Hb4.out⟩
              · have hje : j = i := by omega
                subst hje
                have hji : ¬ (j : Int) < (j : Int) := by omega
                have Hb4 := Lib.hid hb4
                clear hb4
                go_wp2
                go_roundw
                case measure => have := Hlt.out; simp [intOf]; omega
                case rel => exact ⟨_, _, _, _, .int .i64 ((j + 1 : Nat) : Int), ⟨j + 1, rfl, Hlt.out, Hb4.out⟩, rfl, rfl, rfl, rfl, by go_num⟩
          · have hie : i = nP := by omega
            subst hie
            have hii : ¬ (i : Int) < (i : Int) := by omega
            obtain ⟨h0, h1, -, -⟩ := (HkC.out.below hb HkC.out.lt).cells2
            have Hb := Lib.hid (below_trans Hb3.out Hb3.out.size (below_trans HbC.out HbC.out.size hb))
            clear hb hlt hi
            cases hs with
            | true =>
              have ht : t = true := Ht.out.2 (.inl (Hhs.out.1 rfl))
              subst ht
              go_wp2
              go_ret
              exact ⟨rfl, Hb.out⟩
            | false =>
              have hno : ¬ HasTo E DD F kdd (kd : Int) (n0 : Int) := fun h => by have := Hhs.out.2 h; cases this
              by_cases e1 : kdd = 1
              · by_cases e2 : (kd : Int) = (n0 : Int)
                · have ht : t = true := Ht.out.2 (.inr ⟨e1, e2⟩)
                  have f1 : (kdd == 1) = true := by simp [e1]
                  have f2 : ((kd : Int) == (n0 : Int)) = true := by simp [e2]
                  subst ht
                  clear e1 e2 hno
                  go_wp2
                  go_ret
                  exact ⟨rfl, Hb.out⟩
                · have ht : t = false := by cases ht : t with | false => rfl | true => exact absurd (Ht.out.1 ht) (fun h => h.elim hno (fun g => e2 g.2))
                  have f1 : (kdd == 1) = true := by simp [e1]
                  have f2 : ((kd : Int) == (n0 : Int)) = false := by rw [beq_eq_false_iff_ne]; exact e2
                  subst ht
                  clear e1 e2 hno
                  go_wp2
                  go_ret
                  exact ⟨rfl, Hb.out⟩
              · have ht : t = false := by cases ht : t with | false => rfl | true => exact absurd (Ht.out.1 ht) (fun h => h.elim hno (fun g => e1 g.1))
                have f1 : (kdd == 1) = false := by simp [e1]
                subst ht
                clear e1 hno
                go_wp2
                go_ret
                exact ⟨rfl, Hb.out⟩

end Go.Proofs.YtpnbibokddhheaaGreat
