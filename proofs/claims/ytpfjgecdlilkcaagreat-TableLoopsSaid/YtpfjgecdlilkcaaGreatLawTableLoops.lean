/-
  The law TableLoops: its walk.
-/
import Derived.Test.YtpfjgecdlilkcaaGreatBad
import Derived.Test.YtpfjgecdlilkcaaGreatBaj
import Derived.Test.YtpfjgecdlilkcaaGreatBau
import Derived.Test.YtpfjgecdlilkcaaGreatTbLaws
import Derived.Test.YtpfjgecdlilkcaaGreatTbLoop
import Derived.Test.YtpfjgecdlilkcaaGreatTbOpen
namespace Go.Proofs.YtpfjgecdlilkcaaGreat
open Go.RowKit

theorem cmodL (a n : Nat) : Int.tmod (a : Int) (n : Int) = ((a % n : Nat) : Int) := by
  rw [Int.tmod_eq_emod_of_nonneg (by omega)]
  exact_mod_cast rfl
theorem row_pk {w : World} {B : Nat} {A : Option Addr} {l : List Nat} (h : RowsAt 1 pcell w B A l) (k : Nat) (hk : k < l.length) : ∃ b o, A = some ⟨b, o, none⟩ ∧ b < B ∧ w.cell? ⟨b, o + k, none⟩ = some (.int .u8 (l[k] : Int)) := by
  obtain ⟨b, o, e, hb, hc⟩ := h (by omega)
  exact ⟨b, o, e, hb, by simpa using hc k hk 0 _ (by omega) rfl⟩
theorem hops_few_own {E : List Ed} {DD : Vx → Vx → Option Val2} {F : List Lf} {s : Int} {x : Rt} (h : HasRt E DD F s x) (_hD : Dists E DD) (_hF : LeavesOk F) (_hs : mayV ⟨1, s⟩ = true) : x.next.length ≤ 64 := by
  obtain ⟨L, R, hT, hA, hx⟩ := h
  have hO : ∀ n ∈ L, ∀ y ∈ n.next, okHp y := fun n hn y hy => isHop_ok rfl (((hT.next n hn).2 y).1 hy)
  rcases hA.kinds x hx with e | e
  · obtain ⟨n, hn, -, -, -, g⟩ := (hA.router e).1 hx
    rw [g]
    exact hops_few (hT.next n hn).1 (hO n hn)
  · obtain ⟨⟨h0, h3⟩, g⟩ := (hA.net e).1 hx
    exact hops_few g.sorted fun y hy => by
      obtain ⟨p, hp, -, hy⟩ := (g.mem y).1 hy
      exact ends_ok h0 h3 hO p hp y hy
set_option maxHeartbeats 16000000 in
set_option maxRecDepth 100000 in
theorem tableLoops_any (A : Option Addr) (cap : Nat) (l : List Lsa) (fa fb fd : Nat) (hfa : fa ≤ 255) (hfb : fb ≤ 255) (hfd : fd ≤ 255) (pA : Option Addr) (pcap : Nat) (pk : List Nat) (w : World) (hl : LsasAt w w.heap.size A l) (hm : l.length ≤ maxLen) (hpk : RowsAt 1 pcell w w.heap.size pA pk) (hpm : pk.length ≤ maxLen) (hp8 : ∀ x ∈ pk, x ≤ 255) :
    Calls Tryz.prog 6 #[.slice A l.length cap, .agg #[.int .u8 fa, .int .u8 fb, .int .u8 fd], .slice pA pk.length pcap] w fun r w' => r = .returned (.bool true) ∧ Below w.heap.size w w' := by
  have HL := Lib.hid hl
  obtain ⟨t, ht⟩ : ∃ t, manyB 25 l = t := ⟨_, rfl⟩
  have HMany := Lib.hid (fun W (hW : Below w.heap.size w W) => many22 A cap l W w.heap.size (hl.rows.below hW) hW.size hm l.length rfl ht)
  have Ht := Lib.hid ht
  have HP := Lib.hid hpk
  have HP8 := Lib.hid hp8
  have hb0 := below_new w (.cells #[.int .u8 fa, .int .u8 fb, .int .u8 fd] 47)
  have hk0 := Blk.new w 47 #[.int .u8 fa, .int .u8 fb, .int .u8 fd]
  obtain ⟨w0, hw0⟩ : ∃ v, w.alloc (.cells #[.int .u8 fa, .int .u8 fb, .int .u8 fd] 47) = v := ⟨_, rfl⟩
  obtain ⟨g4, hg4⟩ : ∃ v, w.heap.size = v := ⟨_, rfl⟩
  rw [hw0] at hb0 hk0
  rw [hg4] at hk0
  have Hb0 := Lib.hid hb0
  have Hk0 := Lib.hid hk0
  have hai : (fa : Int) ≤ 255 := by omega
  have hbi : (fb : Int) ≤ 255 := by omega
  have hdi : (fd : Int) ≤ 255 := by omega
  have hremA := cmodL fa 15
  have hremB := cmodL fb 2
  have hremD := cmodL fd 16
  obtain ⟨ka, hka⟩ : ∃ kk, fa % 15 = kk := ⟨_, rfl⟩
  obtain ⟨kb, hkb⟩ : ∃ kk, fb % 2 = kk := ⟨_, rfl⟩
  obtain ⟨kd, hkd⟩ : ∃ kk, fd % 16 = kk := ⟨_, rfl⟩
  have hka15 : kb < 2 ∧ ka < 15 ∧ kd < 16 := by rw [← hka, ← hkb, ← hkd]; omega
  rw [hka] at hremA
  rw [hkb] at hremB
  rw [hkd] at hremD
  have hemA : (fa : Int) % 15 = (ka : Int) := by rw [← hka]; omega
  have hemB : (fb : Int) % 2 = (kb : Int) := by rw [← hkb]; omega
  have hemD : (fd : Int) % 16 = (kd : Int) := by rw [← hkd]; omega
  obtain ⟨np, hnp⟩ : ∃ n, pk.length = n := ⟨_, rfl⟩
  rw [hnp]
  have Hnp := Lib.hid hnp
  unfold maxLen at hpm
  have hnpi : (np : Int) ≤ 9223372036854775807 := by omega
  clear hl hm ht hka hkb hkd hfa hfb hfd hb0 hk0 hpk hp8 hnp hpm
  go_enter Tryz.func6, Tryz.ntmps6
  go_wp2_with fail
  with_reducible refine Calls.mono (wakes22 _) ?_
  rintro r w1 ⟨rfl, hb1⟩
  clear hw0 hg4
  have Hb1 := Lib.hid (below_trans Hb0.out Hb0.out.size hb1)
  have Hk1 := Lib.hid (Hk0.out.below hb1 Hk0.out.lt)
  clear hb1
  go_wp2_with fail
  with_reducible refine Calls.mono (HMany.out _ Hb1.out) ?_
  rintro r w2 ⟨rfl, hb2⟩
  have Hb2 := Lib.hid (below_trans Hb1.out Hb1.out.size hb2)
  have Hk2 := Lib.hid (Hk1.out.below hb2 Hk1.out.lt)
  clear hb2
  cases t with
  | true =>
    go_wp2
    go_ret
    exact ⟨rfl, Hb2.out⟩
  | false =>
    by_cases hp0 : np = 0
    · have hpz : ((np : Int) == 0) = true := by simp [hp0]
      clear hp0
      go_wp2
      go_ret
      exact ⟨rfl, Hb2.out⟩
    have hpz : ((np : Int) == 0) = false := by simp; omega
    have hp1 : 0 < (np : Int) := by omega
    have Hp0 := Lib.hid hp0
    clear hp0
    obtain ⟨hl40, hlens⟩ := manyB_lens Ht.out
    have hlen2 : ∀ x ∈ l, x.links.length ≤ 1000 ∧ x.members.length ≤ 1000 := fun x hx => by have := hlens x hx; omega
    have HIn := Lib.hid (fun W (hW : Below w.heap.size w W) => (show RowsAt 9 Lsa.cells W W.heap.size A l ∧ ∀ x ∈ l, RowsAt 4 Lnk.cells W W.heap.size x.ka x.links ∧ RowsAt 1 icell W W.heap.size x.ma x.members from ⟨(HL.out.rows.below hW).more hW.size, fun x hx => ⟨((HL.out.each x hx).links.below hW).more hW.size, ((HL.out.each x hx).members.below hW).more hW.size⟩⟩))
    obtain ⟨V, hV⟩ : ∃ V, l.map vX = V := ⟨_, rfl⟩
    obtain ⟨E, hE⟩ : ∃ E, edgesV V = E := ⟨_, rfl⟩
    obtain ⟨F, hF⟩ : ∃ F, leavesV V = F := ⟨_, rfl⟩
    obtain ⟨DD, hD⟩ := dists_are E
    have hEl : E.length ≤ 4000 := by rw [← hE]; have := edges_lenT (costC (countsV V)); unfold edgesV; omega
    have hS : SymE E := by rw [← hE]; exact edges_sym V
    have HD := Lib.hid hD
    have HEl := Lib.hid hEl
    have HS := Lib.hid hS
    have HC := Lib.hid (fun id W (hW : Below w.heap.size w W) => Routes_any id A cap l W (HIn.out W hW).1 (HIn.out W hW).2 hlen2 (by omega) l.length rfl E (by rw [hV, hE]) F (by rw [hV, hF]) DD hD)
    have hFok : LeavesOk F := by rw [← hF]; exact leavesOk V
    have HFok := Lib.hid hFok
    have hkai : (ka : Int) < 15 := by omega
    have hkbi : (kb : Int) < 2 := by omega
    have hkdi : (kd : Int) < 16 := by omega
    obtain ⟨at0, hat0⟩ : ∃ i : Int, (1 : Int) + (ka : Int) = i := ⟨_, rfl⟩
    obtain ⟨kdd, hkdd⟩ : ∃ i : Int, (1 : Int) + (kb : Int) = i := ⟨_, rfl⟩
    have hkdd2 : kdd = 1 ∨ kdd = 2 := by omega
    have Hkdd2 := Lib.hid hkdd2
    have hm0 : mayV ⟨1, at0⟩ = true := mayV_iff.2 (.inl ⟨rfl, by simp only; omega, by simp only; omega⟩)
    have Hm0 := Lib.hid hm0
    obtain ⟨c40, c41, c42⟩ : _ ∧ _ ∧ _ := ⟨Hk2.out.cell 0, Hk2.out.cell 1, Hk2.out.cell 2⟩
    simp only [List.getElem?_toArray, List.getElem?_cons_zero, List.getElem?_cons_succ] at c40 c41 c42
    clear hka15 hFok hkdd2
    clear hl40 hlens hlen2 hV hE hF hD hEl hS hm0
    go_wp2
    go_quiet (fail)
    go_wp2_with fail
    have hb2d := below_drewN Hb2.out
    with_reducible refine Calls.mono (HC.out at0 _ (hb2d _)) ?_
    clear c40 c41 c42 hremA hremB hremD hb2d
    rintro r w3 ⟨⟨v3, M, L, rfl, hM, hT, hA⟩, hb3⟩
    have hO := nodesOk HD.out HEl.out hT
    have hok := rts_ok hA hO (hO.low hT) (tree_few HD.out hT)
    obtain ⟨A3, c3, hv3⟩ := hM.row.shape
    subst hv3
    obtain ⟨nM, hnM⟩ : ∃ n, M.length = n := ⟨_, rfl⟩
    rw [hnM] at hM ⊢
    have HOk := Lib.hid hok
    have HA := Lib.hid hA
    have HT := Lib.hid (hT.1 Hm0.out)
    have Hb3 := Lib.hid (below_trans (below_drewN Hb2.out _) (below_drewN Hb2.out _).size hb3)
    have HFi := Lib.hid (FindR_any kdd kd A3 c3 nM M w3 (hM.reads (Below.refl _ _) hok.low) (by have := hok.len; omega) hnM.symm)
    clear hO hok hnM hM hT hA hb3
    go_wp2_with fail
    with_reducible refine Calls.mono HFi.out ?_
    rintro r w4 ⟨hfo, hb4⟩
    clear hkai hkbi hkdi hai hbi hdi
    have Hb4 := Lib.hid (below_trans Hb3.out Hb3.out.size hb4)
    rcases hfo with ⟨z, A14, c14, hx, rfl, ho⟩ | ⟨hx, rfl⟩
    rotate_left
    · clear hx hb4
      go_wp2
      go_ret
      exact ⟨rfl, Hb4.out.alloc Hb4.out.size _⟩
    obtain ⟨hzm, hzk, hzi⟩ := (findR_iff HOk.out).1 hx
    have hch : Chain E DD F kdd kd at0 z [at0] := Chain.start Hm0.out ⟨L, _, HT.out, HA.out, hzm⟩ hzk hzi
    obtain ⟨zk, zi, zc, zn⟩ := z
    simp only at hzk hzi ho ⊢
    obtain ⟨nz, hnz⟩ : ∃ n, zn.length = n := ⟨_, rfl⟩
    rw [hnz] at ho ⊢
    have Hch := Lib.hid hch
    have Hnz := Lib.hid hnz
    have Ho := Lib.hid ho
    have hb5 := below_new w4 (.cells #[.int .i64 zk, .int .i64 zi, .int .i64 zc, .slice A14 nz c14] 31)
    have hk5 := Blk.new w4 31 #[.int .i64 zk, .int .i64 zi, .int .i64 zc, .slice A14 nz c14]
    obtain ⟨w5, hw5⟩ : ∃ v, w4.alloc (.cells #[.int .i64 zk, .int .i64 zi, .int .i64 zc, .slice A14 nz c14] 31) = v := ⟨_, rfl⟩
    obtain ⟨g10, hg10⟩ : ∃ v, w4.heap.size = v := ⟨_, rfl⟩
    rw [hw5, hg10] at hk5
    rw [hw5] at hb5
    have Hb5 := Lib.hid (below_trans Hb4.out Hb4.out.size hb5)
    have Hk5 := Lib.hid hk5
    have Ho5 := Lib.hid (OwnR.lower (Ho.out.below hb5) Hb3.out.size)
    have Hg10 := Lib.hid (show w.heap.size ≤ g10 by rw [← hg10]; exact Hb4.out.size)
    clear hx hb4 hzm hzk hzi hch hnz ho hb5 hk5 Ho Hk0 Hk1 Hk2
    go_wp2_with fail
    clear hw5 hg10
    go_loopw [50] (fun i wr => ∃ (k : Nat) (s : Int) (x : Rt) (S : List Int) (A : Option Addr) (n c : Nat), i = .int .i64 k ∧ k ≤ 20 ∧ S.length = k + 1 ∧ Chain E DD F kdd kd s x S ∧ x.next.length = n ∧ Blk wr g10 31 #[.int .i64 x.kind, .int .i64 x.id, .int .i64 x.cost, .slice A n c] ∧ OwnH wr w.heap.size (.slice A n c) x.next ∧ Below w.heap.size w wr) (fun i _ => 20 - (intOf i).toNat)
    case atStart => exact ⟨0, at0, ⟨zk, zi, zc, zn⟩, [at0], A14, nz, c14, rfl, by omega, rfl, Hch.out, Hnz.out, Hk5.out, Ho5.out, Hb5.out⟩
    case round =>
      obtain ⟨k, s, x, S, Ax, n, c, rfl, hk, hS, hch, hn, hkr, hox, hb⟩ := hrel
      by_cases hlt : k < 20
      · have hki : (k : Int) < 20 := by omega
        have hne := loop_next HD.out hch.has
        have hhop := fun y hy => loop_hop HD.out HFok.out hch.may hch.has (y := y) hy
        have hxk := hch.kind
        have hxi := hch.ide
        obtain ⟨xk, xi, xc, xn⟩ := x
        simp only at hne hhop hxk hxi hkr hox hn
        have hxk2 := hxk.symm
        subst hxk2
        subst hxi
        have hn0 : 0 < n := by rw [← hn]; exact List.length_pos_iff.2 hne
        have hn0i : 0 < (n : Int) := by omega
        have hnz0 : ((n : Int) == 0) = false := by simp; omega
        have hnbig : (n : Int) ≤ 4294967296 := by
          have h1 := hops_few_own hch.has HD.out HFok.out hch.may
          simp only at h1
          omega
        have hnp0 := Hp0.out
        have hn00 : ¬ n = 0 := by omega
        obtain ⟨p, hp⟩ : ∃ p, k % np = p := ⟨_, rfl⟩
        have hpn : p < np := by rw [← hp]; exact Nat.mod_lt _ (Nat.pos_of_ne_zero Hp0.out)
        have hpp : p < pk.length := by rw [Hnp.out]; exact hpn
        have hpi : (p : Int) < (np : Int) := by omega
        have hkm : (k : Int) % (np : Int) = (p : Int) := by rw [← hp]; exact_mod_cast rfl
        have hkt : Int.tmod (k : Int) (np : Int) = (p : Int) := by rw [cmodL, hp]
        have hpv8 := HP8.out _ (List.getElem_mem hpp)
        have Hpk : Hid (∃ b o, pA = some ⟨b, o, none⟩ ∧ ∀ W, Below w.heap.size w W → W.cell? ⟨b, o + p, none⟩ = some (.int .u8 ((pk[p]'hpp : Nat) : Int))) := Lib.hid (by
          obtain ⟨b, o, hA, -⟩ := row_pk HP.out p hpp
          refine ⟨b, o, hA, fun W hW => ?_⟩
          obtain ⟨b', o', hA', -, t0⟩ := row_pk (HP.out.below hW) p hpp
          rw [hA] at hA'
          cases hA'
          exact t0)
        obtain ⟨bp, op, hAp, hpc⟩ := Hpk.out
        generalize (pk[p]'hpp) = pv at hpc hpv8 Hpk
        have Hpc := Lib.hid hpc
        have hpv : (pv : Int) ≤ 255 := by omega
        obtain ⟨q, hq⟩ : ∃ q, pv % n = q := ⟨_, rfl⟩
        have hqn : q < n := by rw [← hq]; exact Nat.mod_lt _ hn0
        have hqx : q < xn.length := by rw [hn]; exact hqn
        have hqi : (q : Int) < (n : Int) := by omega
        have hqm : (pv : Int) % (n : Int) = (q : Int) := by rw [← hq]; exact_mod_cast rfl
        have hqt : Int.tmod (pv : Int) (n : Int) = (q : Int) := by rw [cmodL, hq]
        have hpw : IntKind.i64.wrap (pv : Int) = (pv : Int) := (wrap_small (z := (pv : Int)) (by omega) (by omega)).1
        have Hrow : Hid (∃ b o, Ax = some ⟨b, o, none⟩ ∧ ∀ W, Below wr.heap.size wr W → W.cell? ⟨b, o + q * 2, none⟩ = some (.int .i64 (xn[q]'hqx).lan) ∧ W.cell? ⟨b, o + q * 2 + 1, none⟩ = some (.int .i64 (xn[q]'hqx).id)) := Lib.hid (by
          have hr := (OwnR.rows (C := 2) (cells := Hp.cells) (fun _ => rfl) hox).2
          obtain ⟨b, o, hA, -⟩ := row_hp hr q hqx
          refine ⟨b, o, hA, fun W hW => ?_⟩
          obtain ⟨b', o', hA', -, t0, t1⟩ := row_hp (hr.below hW) q hqx
          rw [hA] at hA'
          cases hA'
          exact ⟨t0, t1⟩)
        obtain ⟨bx, ox, hAx, hxc⟩ := Hrow.out
        have hy := hhop _ (List.getElem_mem hqx)
        generalize (xn[q]'hqx) = y at *
        obtain ⟨y1, y2⟩ := y
        simp only at hxc hy
        have Hy := Lib.hid hy
        have Hxc := Lib.hid hxc
        have Hch := Lib.hid hch
        have HS := Lib.hid hS
        have Hlt := Lib.hid hlt
        have Hkr := Lib.hid hkr
        have Hox := Lib.hid hox
        have Hb := Lib.hid hb
        have Hn := Lib.hid hn
        obtain ⟨⟨r0, r1, r2, r3⟩, -⟩ := blk4r hkr
        subst hAp hAx
        clear hne hhop hn0 hp hpn hpp hpv8 Hpk hpc hq hqn hqx Hrow hxc hy hch hS hlt hkr hox hb hn hk
        go_wp2
        refine wp_region_F (F := fun W => Below wr.heap.size wr W) (n := 17) (m := 18) (s := #[false, false, false, false, false, false, false, false, false, false, false, false, false, false, false, false, false, false]) (by kernel_rfl) (by kernel_rfl) (by kernel_rfl) ?_
        intro wd hwd
        have hF : Below wr.heap.size wr wd := by rw [hwd.out]; exact (Below.refl _ _).drew
        clear hwd
        refine F_take (i := 0) (d := some 57) (by kernel_rfl) (by kernel_rfl) (by decide) (s' := #[true, false, false, false, false, false, false, false, false, false, false, false, false, false, false, false, false, false]) (by kernel_rfl) rfl rfl (by kernel_rfl) (by kernel_rfl) (by kernel_rfl) (fun _ _ _ h => h) (Or.inl ⟨by kernel_rfl, fun W hW => by go_simp; try with_reducible rfl⟩) hF ?_
        go_frame
        refine F_take (i := 1) (d := some 58) (by kernel_rfl) (by kernel_rfl) (by decide) (s' := #[true, true, false, false, false, false, false, false, false, false, false, false, false, false, false, false, false, false]) (by kernel_rfl) rfl rfl (by kernel_rfl) (by kernel_rfl) (by kernel_rfl) (fun _ _ _ h => h) (Or.inl ⟨by kernel_rfl, fun W hW => by obtain ⟨⟨r0, r1, r2, r3⟩, -⟩ := blk4r (Hkr.out.below hW Hkr.out.lt); go_simp; try with_reducible rfl⟩) hF ?_
        go_frame
        refine F_take (i := 2) (d := some 59) (by kernel_rfl) (by kernel_rfl) (by decide) (s' := #[true, true, true, false, false, false, false, false, false, false, false, false, false, false, false, false, false, false]) (by kernel_rfl) rfl rfl (by kernel_rfl) (by kernel_rfl) (by kernel_rfl) (fun _ _ _ h => h) (Or.inl ⟨by kernel_rfl, fun W hW => by go_simp; try with_reducible rfl⟩) hF ?_
        go_frame
        refine F_take (i := 3) (d := some 60) (by kernel_rfl) (by kernel_rfl) (by decide) (s' := #[true, true, true, true, false, false, false, false, false, false, false, false, false, false, false, false, false, false]) (by kernel_rfl) rfl rfl (by kernel_rfl) (by kernel_rfl) (by kernel_rfl) (fun _ _ _ h => h) (Or.inl ⟨by kernel_rfl, fun W hW => by go_simp; try with_reducible rfl⟩) hF ?_
        go_frame
        refine F_take (i := 4) (d := some 61) (by kernel_rfl) (by kernel_rfl) (by decide) (s' := #[true, true, true, true, true, false, false, false, false, false, false, false, false, false, false, false, false, false]) (by kernel_rfl) rfl rfl (by kernel_rfl) (by kernel_rfl) (by kernel_rfl) (fun _ _ _ h => h) (Or.inl ⟨by kernel_rfl, fun W hW => by go_simp; try with_reducible rfl⟩) hF ?_
        go_frame
        refine F_take (i := 5) (d := some 62) (by kernel_rfl) (by kernel_rfl) (by decide) (s' := #[true, true, true, true, true, true, false, false, false, false, false, false, false, false, false, false, false, false]) (by kernel_rfl) rfl rfl (by kernel_rfl) (by kernel_rfl) (by kernel_rfl) (fun _ _ _ h => h) (Or.inl ⟨by kernel_rfl, fun W hW => by go_simp; try with_reducible rfl⟩) hF ?_
        go_frame
        refine F_take (i := 6) (d := some 63) (by kernel_rfl) (by kernel_rfl) (by decide) (s' := #[true, true, true, true, true, true, true, false, false, false, false, false, false, false, false, false, false, false]) (by kernel_rfl) rfl rfl (by kernel_rfl) (by kernel_rfl) (by kernel_rfl) (fun _ _ _ h => h) (Or.inl ⟨by kernel_rfl, fun W hW => by go_simp; try with_reducible rfl⟩) hF ?_
        go_frame
        refine F_take (i := 7) (d := some 64) (by kernel_rfl) (by kernel_rfl) (by decide) (s' := #[true, true, true, true, true, true, true, true, false, false, false, false, false, false, false, false, false, false]) (by kernel_rfl) rfl rfl (by kernel_rfl) (by kernel_rfl) (by kernel_rfl) (fun _ _ _ h => h) (Or.inl ⟨by kernel_rfl, fun W hW => by go_simp; try with_reducible rfl⟩) hF ?_
        go_frame
        refine F_take (i := 8) (d := some 65) (by kernel_rfl) (by kernel_rfl) (by decide) (s' := #[true, true, true, true, true, true, true, true, true, false, false, false, false, false, false, false, false, false]) (by kernel_rfl) rfl rfl (by kernel_rfl) (by kernel_rfl) (by kernel_rfl) (fun _ _ _ h => h) (Or.inl ⟨by kernel_rfl, fun W hW => by have hpc := Hpc.out W (below_trans Hb.out Hb.out.size hW); go_simp; try with_reducible rfl⟩) hF ?_
        go_frame
        refine F_take (i := 9) (d := some 66) (by kernel_rfl) (by kernel_rfl) (by decide) (s' := #[true, true, true, true, true, true, true, true, true, true, false, false, false, false, false, false, false, false]) (by kernel_rfl) rfl rfl (by kernel_rfl) (by kernel_rfl) (by kernel_rfl) (fun _ _ _ h => h) (Or.inl ⟨by kernel_rfl, fun W hW => by go_simp; try with_reducible rfl⟩) hF ?_
        go_frame
        refine F_take (i := 10) (d := some 67) (by kernel_rfl) (by kernel_rfl) (by decide) (s' := #[true, true, true, true, true, true, true, true, true, true, true, false, false, false, false, false, false, false]) (by kernel_rfl) rfl rfl (by kernel_rfl) (by kernel_rfl) (by kernel_rfl) (fun _ _ _ h => h) (Or.inl ⟨by kernel_rfl, fun W hW => by go_simp; try with_reducible rfl⟩) hF ?_
        go_frame
        refine F_take (i := 11) (d := some 68) (by kernel_rfl) (by kernel_rfl) (by decide) (s' := #[true, true, true, true, true, true, true, true, true, true, true, true, false, false, false, false, false, false]) (by kernel_rfl) rfl rfl (by kernel_rfl) (by kernel_rfl) (by kernel_rfl) (fun _ _ _ h => h) (Or.inl ⟨by kernel_rfl, fun W hW => by obtain ⟨⟨r0, r1, r2, r3⟩, -⟩ := blk4r (Hkr.out.below hW Hkr.out.lt); go_simp; try with_reducible rfl⟩) hF ?_
        go_frame
        refine F_take (i := 12) (d := some 69) (by kernel_rfl) (by kernel_rfl) (by decide) (s' := #[true, true, true, true, true, true, true, true, true, true, true, true, true, false, false, false, false, false]) (by kernel_rfl) rfl rfl (by kernel_rfl) (by kernel_rfl) (by kernel_rfl) (fun _ _ _ h => h) (Or.inl ⟨by kernel_rfl, fun W hW => by go_simp; try with_reducible rfl⟩) hF ?_
        go_frame
        refine F_take (i := 13) (d := some 70) (by kernel_rfl) (by kernel_rfl) (by decide) (s' := #[true, true, true, true, true, true, true, true, true, true, true, true, true, true, false, false, false, false]) (by kernel_rfl) rfl rfl (by kernel_rfl) (by kernel_rfl) (by kernel_rfl) (fun _ _ _ h => h) (Or.inl ⟨by kernel_rfl, fun W hW => by go_simp; try with_reducible rfl⟩) hF ?_
        go_frame
        refine F_take (i := 14) (d := some 71) (by kernel_rfl) (by kernel_rfl) (by decide) (s' := #[true, true, true, true, true, true, true, true, true, true, true, true, true, true, true, false, false, false]) (by kernel_rfl) rfl rfl (by kernel_rfl) (by kernel_rfl) (by kernel_rfl) (fun _ _ _ h => h) (Or.inl ⟨by kernel_rfl, fun W hW => by go_simp; try with_reducible rfl⟩) hF ?_
        go_frame
        refine F_take (i := 15) (d := some 72) (by kernel_rfl) (by kernel_rfl) (by decide) (s' := #[true, true, true, true, true, true, true, true, true, true, true, true, true, true, true, true, false, false]) (by kernel_rfl) rfl rfl (by kernel_rfl) (by kernel_rfl) (by kernel_rfl) (fun _ _ _ h => h) (Or.inl ⟨by kernel_rfl, fun W hW => by obtain ⟨hx0, hx1⟩ := Hxc.out W hW; go_simp; try with_reducible rfl⟩) hF ?_
        go_frame
        obtain ⟨we, hV⟩ : ∃ v, wd.alloc (.cells #[.int .i64 0, .int .i64 0] 50) = v := ⟨_, rfl⟩
        have hbe := below_new wd (.cells #[.int .i64 0, .int .i64 0] 50)
        have ke := Blk.new wd 50 #[.int .i64 0, .int .i64 0]
        obtain ⟨g13, hg13⟩ : ∃ p, wd.heap.size = p := ⟨_, rfl⟩
        rw [hV] at hbe ke
        rw [hg13] at ke
        have hgw : wr.heap.size ≤ g13 := by rw [← hg13]; exact hF.size
        have hFe := below_trans hF hF.size hbe
        refine F_one (i := 16) (s' := #[true, true, true, true, true, true, true, true, true, true, true, true, true, true, true, true, true, false]) (by kernel_rfl) (by kernel_rfl) (wpOp_valueL (i := 16) (d := some 13) (w' := we) (v := .pointer (some ⟨g13, 0, none⟩)) rfl rfl (by kernel_rfl) (by go_simp) ⟨fun _ => hFe, ?_⟩)
        go_frame
        clear hV hg13 hbe
        have k2' := ((ke.set_ 0 (.int .i64 y1)).set_ 1 (.int .i64 y2)).to (cs' := #[.int .i64 y1, .int .i64 y2]) (by simp)
        have hFz := (hFe.setCell (p := ⟨g13, 0, none⟩) hgw (.int .i64 y1)).setCell (p := ⟨g13, 1, none⟩) hgw (.int .i64 y2)
        obtain ⟨c0, c1, cf0, cf1⟩ := ke.cells2
        obtain ⟨wz, hwz⟩ : ∃ v, (we.setCell ⟨g13, 0, none⟩ (.int .i64 y1)).setCell ⟨g13, 1, none⟩ (.int .i64 y2) = v := ⟨_, rfl⟩
        rw [hwz] at k2' hFz
        refine F_one (i := 17) (s' := #[true, true, true, true, true, true, true, true, true, true, true, true, true, true, true, true, true, true]) (by kernel_rfl) (by kernel_rfl) (wpOp_skipL (i := 17) (w' := wz) rfl rfl (by kernel_rfl) (by go_simp) ⟨fun h => absurd h (by decide), ?_⟩)
        go_frame
        refine F_done (by kernel_rfl) ?_ _
        have Hkh := Lib.hid k2'
        have HbZ := Lib.hid hFz
        clear k2' hFz c0 c1 cf0 cf1 hwz ke hFe hF hgw r0 r1 r2 r3 hkm hkt hqm hqt hpv hpi hqi hpw
        obtain ⟨h0, h1, -, -⟩ := Hkh.out.cells2
        by_cases hz2 : y2 = 0
        · have e1 : (y2 == 0) = true := by simp [hz2]
          obtain ⟨hk2, hl2⟩ := Hy.out.1 hz2
          have e2 : (kdd == 2) = true := by simp [hk2]
          have e3 : (y1 == (kd : Int)) = true := by simp [hl2]
          clear hz2 hk2 hl2
          go_wp2
          go_ret
          exact ⟨rfl, below_trans Hb.out Hb.out.size HbZ.out⟩
        · have e1 : (y2 == 0) = false := by simp [hz2]
          obtain ⟨hrg, hgo⟩ := Hy.out.2 hz2
          clear hz2
          by_cases hend : kdd = 1 ∧ y2 = (kd : Int)
          · have e2 : (kdd == 1) = true := by simp [hend.1]
            have e3 : (y2 == (kd : Int)) = true := by simp [hend.2]
            clear hend hrg hgo
            go_wp2
            go_ret
            exact ⟨rfl, below_trans Hb.out Hb.out.size HbZ.out⟩
          · have Hgo := Lib.hid (hgo hend)
            have Hrg := Lib.hid hrg
            have hbz := Lib.hid (below_trans Hb.out Hb.out.size HbZ.out)
            clear hgo hrg
            have hcase : (¬ kdd = 1) ∨ (kdd = 1 ∧ ¬ y2 = (kd : Int)) := by
              by_cases e : kdd = 1
              · exact .inr ⟨e, fun g => hend ⟨e, g⟩⟩
              · exact .inl e
            clear hend
            rcases hcase with e | ⟨e, e'⟩
            · have e2 : (kdd == 1) = false := by simp [e]
              clear e
              go_wp2_with fail
              with_reducible refine Calls.mono (HC.out y2 _ hbz.out) ?_
              clear h0 h1
              rintro r w6 ⟨⟨v6, M', L', rfl, hM', hT', hA'⟩, hb6⟩
              have hO := nodesOk HD.out HEl.out hT'
              have hok := rts_ok hA' hO (hO.low hT') (tree_few HD.out hT')
              obtain ⟨A6, c6, hv6⟩ := hM'.row.shape
              subst hv6
              obtain ⟨nM', hnM'⟩ : ∃ n, M'.length = n := ⟨_, rfl⟩
              rw [hnM'] at hM' ⊢
              have HOk' := Lib.hid hok
              have hmy : mayV ⟨1, y2⟩ = true := mayV_iff.2 (.inl ⟨rfl, Hrg.out.1, Hrg.out.2⟩)
              have HT' := Lib.hid (hT'.1 hmy)
              have HA' := Lib.hid hA'
              have Hb6 := Lib.hid (below_trans hbz.out hbz.out.size hb6)
              have Hk6 := Lib.hid (Hkr.out.below (below_trans HbZ.out HbZ.out.size hb6) Hkr.out.lt)
              have HFi2 := Lib.hid (FindR_any kdd kd A6 c6 nM' M' w6 (hM'.reads (Below.refl _ _) hok.low) (by have := hok.len; omega) hnM'.symm)
              obtain ⟨z, hzm, hzk, hzi, hzc⟩ := Hgo.out L' _ HT'.out HA'.out
              have Hfd := Lib.hid ((findR_iff hok (k := kdd) (i := (kd : Int))).2 ⟨hzm, hzk, hzi⟩)
              have Hcn := Lib.hid (Hch.out.next HD.out Hrg.out ⟨L', _, HT'.out, HA'.out, hzm⟩ hzk hzi hzc)
              clear hO hok hnM' hmy hM' hT' hA' hb6 hzm hzk hzi
              go_wp2_with fail
              with_reducible refine Calls.mono HFi2.out ?_
              rintro r w7 ⟨hfo, hb7⟩
              rcases hfo with ⟨z2, A15, c15, hx, rfl, ho⟩ | ⟨hx, -⟩
              rotate_left
              · rw [Hfd.out] at hx; cases hx
              rw [Hfd.out] at hx
              injection hx with hx
              subst hx
              obtain ⟨zk2, zi2, zc2, zn2⟩ := z
              simp only at hzc ho ⊢
              obtain ⟨nz2, hnz2⟩ : ∃ n, zn2.length = n := ⟨_, rfl⟩
              rw [hnz2] at ho ⊢
              have Hnz2 := Lib.hid hnz2
              have hgc : ¬ (xc : Int) ≤ (zc2 : Int) := by omega
              have Hb7 := Lib.hid (below_trans Hb6.out Hb6.out.size hb7)
              have hb8 := below_new w7 (.cells #[.int .i64 zk2, .int .i64 zi2, .int .i64 zc2, .slice A15 nz2 c15] 31)
              have hk8 := Blk.new w7 31 #[.int .i64 zk2, .int .i64 zi2, .int .i64 zc2, .slice A15 nz2 c15]
              have hk18 := (Hk6.out.below hb7 Hk6.out.lt).below hb8 (Hk6.out.below hb7 Hk6.out.lt).lt
              obtain ⟨w8, hw8⟩ : ∃ v, w7.alloc (.cells #[.int .i64 zk2, .int .i64 zi2, .int .i64 zc2, .slice A15 nz2 c15] 31) = v := ⟨_, rfl⟩
              obtain ⟨g14, hg14⟩ : ∃ v, w7.heap.size = v := ⟨_, rfl⟩
              rw [hw8, hg14] at hk8
              rw [hw8] at hb8 hk18
              have ho8 := OwnR.lower (ho.below (show Below w7.heap.size w7 w8 from hb8)) Hb6.out.size
              obtain ⟨⟨z0, z1, z2, z3⟩, -⟩ := blk4r hk8
              obtain ⟨⟨u0, u1, u2, u3⟩, v0, v1, v2, v3⟩ := blk4r hk18
              have hk9 := Blk.put4 hk18 (.int .i64 zk2) (.int .i64 zi2) (.int .i64 zc2) (.slice A15 nz2 c15)
              have hb9 := below_put4 (below_trans Hb7.out Hb7.out.size hb8) Hg10.out (.int .i64 zk2) (.int .i64 zi2) (.int .i64 zc2) (.slice A15 nz2 c15)
              have hne4 := own_ne ho8 hk18 (by decide)
              have ho9 := (((ho8.kept (grown_setC w8 g10 0 (.int .i64 zk2)) (.inr hne4)).kept (grown_setC _ g10 1 (.int .i64 zi2)) (.inr hne4)).kept (grown_setC _ g10 2 (.int .i64 zc2)) (.inr hne4)).kept (grown_setC _ g10 3 (.slice A15 nz2 c15)) (.inr hne4)
              obtain ⟨w9, hw9⟩ : ∃ v, (((w8.setCell ⟨g10, 0, none⟩ (.int .i64 zk2)).setCell ⟨g10, 1, none⟩ (.int .i64 zi2)).setCell ⟨g10, 2, none⟩ (.int .i64 zc2)).setCell ⟨g10, 3, none⟩ (.slice A15 nz2 c15) = v := ⟨_, rfl⟩
              rw [hw9] at hk9 hb9 ho9
              have Hk9 := Lib.hid hk9
              have Hb9 := Lib.hid hb9
              have Ho9 := Lib.hid ho9
              clear hb7 hb8 hk8 hk18 ho8 hk9 hb9 ho9 hne4 ho hnz2 hzc
              go_wp2
              go_roundw
              case measure => have := Hlt.out; simp [intOf]; omega
              case rel => exact ⟨k + 1, y2, ⟨zk2, zi2, zc2, zn2⟩, y2 :: S, A15, nz2, c15, by go_num, Hlt.out, by rw [List.length_cons, HS.out], Hcn.out, Hnz2.out, Hk9.out, Ho9.out, Hb9.out⟩
            · have e2 : (kdd == 1) = true := by simp [e]
              have e3 : (y2 == (kd : Int)) = false := by simp [e']
              clear e e'
              go_wp2_with fail
              with_reducible refine Calls.mono (HC.out y2 _ hbz.out) ?_
              clear h0 h1
              rintro r w6 ⟨⟨v6, M', L', rfl, hM', hT', hA'⟩, hb6⟩
              have hO := nodesOk HD.out HEl.out hT'
              have hok := rts_ok hA' hO (hO.low hT') (tree_few HD.out hT')
              obtain ⟨A6, c6, hv6⟩ := hM'.row.shape
              subst hv6
              obtain ⟨nM', hnM'⟩ : ∃ n, M'.length = n := ⟨_, rfl⟩
              rw [hnM'] at hM' ⊢
              have HOk' := Lib.hid hok
              have hmy : mayV ⟨1, y2⟩ = true := mayV_iff.2 (.inl ⟨rfl, Hrg.out.1, Hrg.out.2⟩)
              have HT' := Lib.hid (hT'.1 hmy)
              have HA' := Lib.hid hA'
              have Hb6 := Lib.hid (below_trans hbz.out hbz.out.size hb6)
              have Hk6 := Lib.hid (Hkr.out.below (below_trans HbZ.out HbZ.out.size hb6) Hkr.out.lt)
              have HFi2 := Lib.hid (FindR_any kdd kd A6 c6 nM' M' w6 (hM'.reads (Below.refl _ _) hok.low) (by have := hok.len; omega) hnM'.symm)
              obtain ⟨z, hzm, hzk, hzi, hzc⟩ := Hgo.out L' _ HT'.out HA'.out
              have Hfd := Lib.hid ((findR_iff hok (k := kdd) (i := (kd : Int))).2 ⟨hzm, hzk, hzi⟩)
              have Hcn := Lib.hid (Hch.out.next HD.out Hrg.out ⟨L', _, HT'.out, HA'.out, hzm⟩ hzk hzi hzc)
              clear hO hok hnM' hmy hM' hT' hA' hb6 hzm hzk hzi
              go_wp2_with fail
              with_reducible refine Calls.mono HFi2.out ?_
              rintro r w7 ⟨hfo, hb7⟩
              rcases hfo with ⟨z2, A15, c15, hx, rfl, ho⟩ | ⟨hx, -⟩
              rotate_left
              · rw [Hfd.out] at hx; cases hx
              rw [Hfd.out] at hx
              injection hx with hx
              subst hx
              obtain ⟨zk2, zi2, zc2, zn2⟩ := z
              simp only at hzc ho ⊢
              obtain ⟨nz2, hnz2⟩ : ∃ n, zn2.length = n := ⟨_, rfl⟩
              rw [hnz2] at ho ⊢
              have Hnz2 := Lib.hid hnz2
              have hgc : ¬ (xc : Int) ≤ (zc2 : Int) := by omega
              have Hb7 := Lib.hid (below_trans Hb6.out Hb6.out.size hb7)
              have hb8 := below_new w7 (.cells #[.int .i64 zk2, .int .i64 zi2, .int .i64 zc2, .slice A15 nz2 c15] 31)
              have hk8 := Blk.new w7 31 #[.int .i64 zk2, .int .i64 zi2, .int .i64 zc2, .slice A15 nz2 c15]
              have hk18 := (Hk6.out.below hb7 Hk6.out.lt).below hb8 (Hk6.out.below hb7 Hk6.out.lt).lt
              obtain ⟨w8, hw8⟩ : ∃ v, w7.alloc (.cells #[.int .i64 zk2, .int .i64 zi2, .int .i64 zc2, .slice A15 nz2 c15] 31) = v := ⟨_, rfl⟩
              obtain ⟨g14, hg14⟩ : ∃ v, w7.heap.size = v := ⟨_, rfl⟩
              rw [hw8, hg14] at hk8
              rw [hw8] at hb8 hk18
              have ho8 := OwnR.lower (ho.below (show Below w7.heap.size w7 w8 from hb8)) Hb6.out.size
              obtain ⟨⟨z0, z1, z2, z3⟩, -⟩ := blk4r hk8
              obtain ⟨⟨u0, u1, u2, u3⟩, v0, v1, v2, v3⟩ := blk4r hk18
              have hk9 := Blk.put4 hk18 (.int .i64 zk2) (.int .i64 zi2) (.int .i64 zc2) (.slice A15 nz2 c15)
              have hb9 := below_put4 (below_trans Hb7.out Hb7.out.size hb8) Hg10.out (.int .i64 zk2) (.int .i64 zi2) (.int .i64 zc2) (.slice A15 nz2 c15)
              have hne4 := own_ne ho8 hk18 (by decide)
              have ho9 := (((ho8.kept (grown_setC w8 g10 0 (.int .i64 zk2)) (.inr hne4)).kept (grown_setC _ g10 1 (.int .i64 zi2)) (.inr hne4)).kept (grown_setC _ g10 2 (.int .i64 zc2)) (.inr hne4)).kept (grown_setC _ g10 3 (.slice A15 nz2 c15)) (.inr hne4)
              obtain ⟨w9, hw9⟩ : ∃ v, (((w8.setCell ⟨g10, 0, none⟩ (.int .i64 zk2)).setCell ⟨g10, 1, none⟩ (.int .i64 zi2)).setCell ⟨g10, 2, none⟩ (.int .i64 zc2)).setCell ⟨g10, 3, none⟩ (.slice A15 nz2 c15) = v := ⟨_, rfl⟩
              rw [hw9] at hk9 hb9 ho9
              have Hk9 := Lib.hid hk9
              have Hb9 := Lib.hid hb9
              have Ho9 := Lib.hid ho9
              clear hb7 hb8 hk8 hk18 ho8 hk9 hb9 ho9 hne4 ho hnz2 hzc
              go_wp2
              go_roundw
              case measure => have := Hlt.out; simp [intOf]; omega
              case rel => exact ⟨k + 1, y2, ⟨zk2, zi2, zc2, zn2⟩, y2 :: S, A15, nz2, c15, by go_num, Hlt.out, by rw [List.length_cons, HS.out], Hcn.out, Hnz2.out, Hk9.out, Ho9.out, Hb9.out⟩
      · have hke : k = 20 := by omega
        have := hch.len
        omega

end Go.Proofs.YtpfjgecdlilkcaaGreat
