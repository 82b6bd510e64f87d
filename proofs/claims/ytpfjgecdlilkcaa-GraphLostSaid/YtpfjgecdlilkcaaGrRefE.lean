/-
  Layer 20: which descriptions count: the document's way.
-/
import Derived.Test.YtpfjgecdlilkcaaGrRefC
import Derived.Test.YtpfjgecdlilkcaaGrCounts
namespace Go.Proofs.Ytpfjgecdlilkcaa
open Go.RowKit Go.Sort

theorem eqKey20 (a b c a' b' c' : Int) (w : World) : (Op.equalIn 10000 36 (.agg #[.int .i64 a, .int .i64 b, .int .i64 c]) (.agg #[.int .i64 a', .int .i64 b', .int .i64 c'])).run Try.prog w = .ok (decide ((⟨a, b, c⟩ : K3) = ⟨a', b', c'⟩)) w := by
  rw [eqKey]
  congr 1
  by_cases h1 : a = a' <;> by_cases h2 : b = b' <;> by_cases h3 : c = c' <;> simp [h1, h2, h3]
theorem hasV_more {C : List VX} {i : Nat} (hi : i < C.length) (k : K3) : hasV (C.take (i + 1)) k = (hasV (C.take i) k || decide (keyV C[i] = k)) := by
  unfold hasV
  rw [List.take_succ_eq_append_getElem hi, List.any_append]
  simp
/-- what lies in memory behind so many rounds -/
structure RcSt (w wr : World) (l : List Lsa) (k : Nat) (v : Value) (O : List Lsa) : Prop where
  is : O.map vX = countsV ((l.take k).map vX)
  xs : XsAt wr 0 v O
  new : ∀ m, v.ownBlock = some m → w.heap.size ≤ m
  bel : Below w.heap.size w wr
theorem RcSt.keep {w wr wr' : World} {l : List Lsa} {k : Nat} {v : Value} {O : List Lsa} (h : RcSt w wr l k v O) (hb : Below wr.heap.size wr wr') : RcSt w wr' l k v O := ⟨h.is, h.xs.keep hb, h.new, below_trans h.bel h.bel.size hb⟩
theorem tmod16 (x : Int) (h : 0 ≤ x) : Int.tmod x 16 = x % 16 := Int.tmod_eq_emod_of_nonneg h
set_option maxHeartbeats 16000000 in
set_option maxRecDepth 100000 in
theorem refCounts_any (A : Option Addr) (cap : Nat) (l : List Lsa) (w : World) (hl : RowsAt 9 Lsa.cells w w.heap.size A l) (he : ∀ x ∈ l, RowsAt 4 Lnk.cells w w.heap.size x.ka x.links ∧ RowsAt 1 icell w w.heap.size x.ma x.members) (hlens : ∀ x ∈ l, x.links.length ≤ 1000 ∧ x.members.length ≤ 1000) (hm : l.length ≤ 2 ^ 16) (nn : Nat) (hnn : nn = l.length) :
    Calls Try.prog 16 #[.slice A nn cap] w fun r w' => (∃ v, r = .returned v ∧ ∃ O, XsAt w' 0 v O ∧ O.map vX = countsV (l.map vX)) ∧ Below w.heap.size w w' := by
  subst hnn
  have HL := Lib.hid hl
  have HE := Lib.hid he
  have Hlens := Lib.hid hlens
  have hm' : (l.length : Int) ≤ 9223372036854775807 := by omega
  clear hl he hlens
  go_enter Try.func16, Try.ntmps16
  go_wp2
  go_loopw [3, 4] (fun v i wr => ∃ (k : Nat) (O : List Lsa), i = .int .i64 k ∧ k ≤ l.length ∧ RcSt w wr l k v O) (fun _ i _ => l.length - (intOf i).toNat)
  case atStart => exact ⟨0, [], rfl, Nat.zero_le _, ⟨rfl, XsAt.nil _ _, (by intro m e; cases e), Below.refl _ _⟩⟩
  case round =>
    obtain ⟨k, O, rfl, hk, hst⟩ := hrel
    obtain ⟨A7, c7, hv7⟩ := hst.xs.own.shape
    subst hv7
    have HSt := Lib.hid hst
    by_cases hlt : k < l.length
    · obtain ⟨g, o, hA, -, x0, x1, x2, x3, x4, x5, x6, x7, x8⟩ := row_lsa9b (HL.out.below hst.bel) k hlt
      have hok := HE.out l[k] (List.getElem_mem hlt)
      have hln := Hlens.out l[k] (List.getElem_mem hlt)
      have hkl : (k : Int) < (l.length : Int) := by omega
      have hno := cnt_no hlt hst.is
      have hyes := fun x => cnt_yes (x := x) hlt hst.is
      have hOl : O.length ≤ 2 ^ 20 := by
        have h1 := congrArg List.length hst.is
        have h2 := countsV_len ((l.take k).map vX)
        rw [List.length_map] at h1 h2
        rw [List.length_take] at h2
        omega
      have HA := Lib.hid hA
      rw [hA]
      have Hlt := Lib.hid hlt
      generalize l[k] = x at *
      obtain ⟨⟨y1, y2, y3, y4, y5, y6, y7⟩, ka, kc, ls, ma, mc, ms⟩ := x
      have hls := hok.1
      have hms := hok.2
      simp only at x0 x1 x2 x3 x4 x5 x6 x7 x8 hln hls hms
      change cntV (⟨y1, y2, y3, y4, y5, y6, y7⟩, ls, ms) = false ∨ hasV (O.map vX) ⟨y2, y3, y4⟩ = true → _ at hno
      change ∀ x, vX x = (⟨y1, y2, y3, y4, y5, y6, y7⟩, ls, ms) → cntV (⟨y1, y2, y3, y4, y5, y6, y7⟩, ls, ms) = true → hasV (O.map vX) ⟨y2, y3, y4⟩ = false → _ at hyes
      obtain ⟨nl, hnl⟩ : ∃ nl, nl = ls.length := ⟨_, rfl⟩
      obtain ⟨nm, hnm⟩ : ∃ nm, nm = ms.length := ⟨_, rfl⟩
      rw [← hnl] at x7
      rw [← hnm] at x8
      have hcs := cnt_split ⟨y1, y2, y3, y4, y5, y6, y7⟩ ka kc ls ma mc ms
      have Hnl := Lib.hid (show nl = ls.length ∧ ls.length ≤ 1000 from ⟨hnl, hln.1⟩)
      have Hnm := Lib.hid (show nm = ms.length ∧ ms.length ≤ 1000 from ⟨hnm, hln.2⟩)
      have Hno := Lib.hid hno
      have Hyes := Lib.hid hyes
      have HOl := Lib.hid hOl
      have HL9 := Lib.hid hls
      have HM9 := Lib.hid hms
      obtain ⟨w8, hw8⟩ : ∃ w8, wr.alloc (.cells #[.int .i64 y1, .int .i64 y2, .int .i64 y3, .int .i64 y4, .int .i64 y5, .int .i64 y6, .int .i64 y7, .slice ka nl kc, .slice ma nm mc] 30) = w8 := ⟨_, rfl⟩
      obtain ⟨g8, hg8⟩ : ∃ g8, wr.heap.size = g8 := ⟨_, rfl⟩
      have hk8 := Blk.new wr 30 #[.int .i64 y1, .int .i64 y2, .int .i64 y3, .int .i64 y4, .int .i64 y5, .int .i64 y6, .int .i64 y7, .slice ka nl kc, .slice ma nm mc]
      have hb8 := below_new wr (.cells #[.int .i64 y1, .int .i64 y2, .int .i64 y3, .int .i64 y4, .int .i64 y5, .int .i64 y6, .int .i64 y7, .slice ka nl kc, .slice ma nm mc] 30)
      rw [hw8, hg8] at hk8
      rw [hw8] at hb8
      have K8 := Lib.hid hk8
      have S8 := Lib.hid (hst.keep hb8)
      obtain ⟨z0, z1, z2, z3, z4, z5, z6, z7, z8, zf⟩ := blk9 hk8
      have HR := Lib.hid (fun t ht => refRight_any y1 y2 y3 y4 y5 y6 y7 ka kc ls ma mc ms w8 w.heap.size (HL9.out.below S8.out.bel) (HM9.out.below S8.out.bel) S8.out.bel.size (by have := Hnl.out.2; unfold maxLen; omega) (by have := Hnm.out.2; unfold maxLen; omega) nl nm Hnl.out.1 Hnm.out.1 (t := t) ht)
      clear hnl hnm hA hlt hk8 hb8 hk hst hok hln hls hms hno hyes hOl
      rcases hcs with ⟨hr, hc⟩ | ⟨hr, hcs⟩
      · have HR2 := Lib.hid (HR.out false hr)
        have Hn := Lib.hid (Hno.out (.inl hc))
        clear hr hc
        go_wp2_with fail
        with_reducible refine Calls.mono HR2.out ?_
        rintro r w10 ⟨rfl, hb10⟩
        have HS := Lib.hid (S8.out.keep hb10)
        clear hb10 z0 z1 z2 z3 z4 z5 z6 z7 z8 zf x0 x1 x2 x3 x4 x5 x6 x7 x8
        go_wp2
        go_roundw
        case measure => have := Hlt.out; simp [intOf]; omega
        case rel => exact ⟨k + 1, O, by go_num, Hlt.out, ⟨Hn.out, HS.out.xs, HS.out.new, HS.out.bel⟩⟩
      · have HR2 := Lib.hid (HR.out true hr)
        have Hr2 := Lib.hid hr
        clear hr
        go_wp2_with fail
        with_reducible refine Calls.mono HR2.out ?_
        rintro r wc ⟨rfl, hb10⟩
        have Kc := Lib.hid (K8.out.below hb10 K8.out.lt)
        have Sc := Lib.hid (S8.out.keep hb10)
        have HSk := Lib.hid (fun (h : cntV (⟨y1, y2, y3, y4, y5, y6, y7⟩, ls, ms) = false) => (show RcSt w wc l (k + 1) _ O from ⟨Hno.out (.inl h), Sc.out.xs, Sc.out.new, Sc.out.bel⟩))
        clear hb10 z0 z1 z2 z3 z4 z5 z6 z7 z8 zf x0 x1 x2 x3 x4 x5 x6 x7 x8
        obtain ⟨z0, z1, z2, z3, z4, z5, z6, z7, z8, zf⟩ := blk9 Kc.out
        have hor : (y1 = 60 ∧ cntV (⟨y1, y2, y3, y4, y5, y6, y7⟩, ls, ms) = false) ∨ (y1 ≠ 60 ∧ ((y2 = 2 ∧ ¬ y3 % 16 = y4 ∧ cntV (⟨y1, y2, y3, y4, y5, y6, y7⟩, ls, ms) = false) ∨ (¬ y2 = 2 ∧ cntV (⟨y1, y2, y3, y4, y5, y6, y7⟩, ls, ms) = true) ∨ (y2 = 2 ∧ y3 % 16 = y4 ∧ cntV (⟨y1, y2, y3, y4, y5, y6, y7⟩, ls, ms) = true))) := hcs
        clear hcs
        rcases hor with ⟨h60, hc⟩ | ⟨h60, ⟨h2, h3, hc⟩ | hor⟩
        · have HS := Lib.hid (HSk.out hc)
          subst h60
          clear hc
          go_wp2
          go_roundw
          case measure => have := Hlt.out; simp [intOf]; omega
          case rel => exact ⟨k + 1, O, by go_num, Hlt.out, HS.out⟩
        · have HS := Lib.hid (HSk.out hc)
          have hb3 : (Int.tmod y3 16 != y4) = true := by
            have hid := right_id Hr2.out h2
            rw [tmod16 y3 hid.1]
            simpa using h3
          subst h2
          clear hc
          go_wp2
          go_roundw
          case measure => have := Hlt.out; simp [intOf]; omega
          case rel => exact ⟨k + 1, O, by go_num, Hlt.out, HS.out⟩
        · have hc : cntV (⟨y1, y2, y3, y4, y5, y6, y7⟩, ls, ms) = true := hor.elim (fun h => h.2) (fun h => h.2.2)
          have Hc := Lib.hid hc
          have hmod : y2 = 2 → Int.tmod y3 16 = y4 := fun h2 => by
            have hid := right_id Hr2.out h2
            rw [tmod16 y3 hid.1]
            exact hor.elim (fun h => absurd h2 h.1) (fun h => h.2.1)
          clear hor hc
          have hOl2 : (O.length : Int) ≤ 1048576 := by have := HOl.out; omega
          by_cases h2 : y2 = 2
          · subst h2
            have hmod2 := hmod rfl
            clear hmod
            go_wp2
            go_loopw [6, 7] (fun d i wx => ∃ (q : Nat), i = .int .i64 q ∧ d = .bool (hasV ((O.map vX).take q) ⟨2, y3, y4⟩) ∧ q ≤ O.length ∧ RcSt w wx l k (.slice A7 O.length c7) O ∧ Blk wx g8 30 #[.int .i64 y1, .int .i64 2, .int .i64 y3, .int .i64 y4, .int .i64 y5, .int .i64 y6, .int .i64 y7, .slice ka nl kc, .slice ma nm mc]) (fun _ i _ => O.length - (intOf i).toNat)
            case atStart => exact ⟨0, rfl, rfl, Nat.zero_le _, Sc.out, Kc.out⟩
            case round =>
              obtain ⟨q, rfl, rfl, hq, hsi, hki⟩ := hrel
              have Hsi := Lib.hid hsi
              have Hki := Lib.hid hki
              clear z0 z1 z2 z3 z4 z5 z6 z7 z8 zf
              by_cases hql : q < O.length
              · have hqk : (q : Int) < (O.length : Int) := by omega
                obtain ⟨g7, c9, hv9, e0, e1, e2, e3, e4, e5, e6, -, -⟩ := row_at hsi.xs.own q hql
                injection hv9 with hA9 hn9 hc9
                subst hA9 hc9
                have hmv := hasV_more (C := O.map vX) (i := q) (by simpa using hql) ⟨2, y3, y4⟩
                rw [List.getElem_map, keyV_vX] at hmv
                have Hql := Lib.hid hql
                generalize O[q] = x at *
                obtain ⟨⟨x1, x2, x3, x4, x5, x6, x7⟩, kb, kd, lt, mb, md, mt⟩ := x
                simp only at e0 e1 e2 e3 e4 e5 e6
                obtain ⟨E, hE⟩ : ∃ E, decide ((⟨x2, x3, x4⟩ : K3) = ⟨2, y3, y4⟩) = E := ⟨_, rfl⟩
                have hmv2 : hasV ((O.map vX).take (q + 1)) ⟨2, y3, y4⟩ = (hasV ((O.map vX).take q) ⟨2, y3, y4⟩ || E) := by rw [hmv, ← hE]; rfl
                have he := eqKey20 x2 x3 x4 2 y3 y4
                rw [hE] at he
                have Hmv := Lib.hid hmv2
                have CK := Lib.hid (fun a b c d e f g dd os => Calls.regrown_of (w := wr) (d := dd) (os := os) (key_any a b c d e f g _))
                obtain ⟨z0, z1, z2, z3, z4, z5, z6, z7, z8, zf⟩ := blk9 hki
                obtain ⟨B0, hB0⟩ : ∃ B0, hasV ((O.map vX).take q) ⟨2, y3, y4⟩ = B0 := ⟨_, rfl⟩
                have HB0 := Lib.hid hB0
                rw [hB0]
                clear hsi hki hn9 hmv hmv2 hE hB0 hql hq z7 z8 zf
                have z0 := cell_regrown z0
                have z1 := cell_regrown z1
                have z2 := cell_regrown z2
                have z3 := cell_regrown z3
                have z4 := cell_regrown z4
                have z5 := cell_regrown z5
                have z6 := cell_regrown z6
                have e0 := cell_regrown e0
                have e1 := cell_regrown e1
                have e2 := cell_regrown e2
                have e3 := cell_regrown e3
                have e4 := cell_regrown e4
                have e5 := cell_regrown e5
                have e6 := cell_regrown e6
                go_wp2_with fail
                refine wp_region_quiet_below (by kernel_rfl) (by kernel_rfl) ?_
                repeat (go_big_quiet_step (exact CK.out _ _ _ _ _ _ _ _ _))
                refine wpQuiet_nil ?_
                rintro w15 ⟨⟨dq2, osq2⟩, rfl⟩
                have hb15 := below_regrown wr dq2 osq2
                generalize grow (redrawn wr dq2) osq2 = w15 at *
                have S15 := Lib.hid (Hsi.out.keep hb15)
                have K15 := Lib.hid (Hki.out.below hb15 Hki.out.lt)
                clear hb15 z0 z1 z2 z3 z4 z5 z6 e0 e1 e2 e3 e4 e5 e6 CK
                cases E with
                | true =>
                  go_wp2
                  go_roundw
                  case measure => have := Hql.out; simp [intOf]; omega
                  case rel => exact ⟨q + 1, by go_num, by rw [Hmv.out]; simp, Hql.out, S15.out, K15.out⟩
                | false =>
                  go_wp2
                  go_roundw
                  case measure => have := Hql.out; simp [intOf]; omega
                  case rel => exact ⟨q + 1, by go_num, by rw [Hmv.out, HB0.out]; simp, Hql.out, S15.out, K15.out⟩
              · have hqe : q = O.length := by omega
                subst hqe
                have hqk : ¬ (O.length : Int) < (O.length : Int) := by omega
                have htl : (O.map vX).take O.length = O.map vX := by rw [← List.length_map (f := vX), List.take_length]
                rw [htl]
                obtain ⟨z0, z1, z2, z3, z4, z5, z6, z7, z8, zf⟩ := blk9 hki
                clear hsi hki htl hql hq
                cases hhas : hasV (O.map vX) ⟨2, y3, y4⟩ with
                | true =>
                  have HS := Lib.hid (show RcSt w wr l (k + 1) (.slice A7 O.length c7) O from ⟨Hno.out (.inr hhas), Hsi.out.xs, Hsi.out.new, Hsi.out.bel⟩)
                  clear hhas
                  go_wp2
                  go_roundw
                  case measure => have := Hlt.out; simp [intOf]; omega
                  case rel => exact ⟨k + 1, O, by go_num, Hlt.out, HS.out⟩
                | false =>
                  have Hy := Lib.hid (Hyes.out ⟨⟨y1, 2, y3, y4, y5, y6, y7⟩, ka, kc, ls, ma, mc, ms⟩ rfl Hc.out hhas)
                  have HBN := Lib.hid (fun o => below_new wr o)
                  have HKN := Lib.hid (show Blk (wr.alloc (.cells #[.int .i64 y1, .int .i64 2, .int .i64 y3, .int .i64 y4, .int .i64 y5, .int .i64 y6, .int .i64 y7, .slice ka nl kc, .slice ma nm mc] 30)) wr.heap.size 30 (Lsa.cells ⟨⟨y1, 2, y3, y4, y5, y6, y7⟩, ka, kc, ls, ma, mc, ms⟩).toArray by unfold Lsa.cells; simp only; rw [← Hnl.out.1, ← Hnm.out.1]; exact Blk.new _ _ _)
                  clear hhas
                  go_wp2_with (at_builtin; (refine app_row (e := 30) Lsa.cells (fun _ => rfl) (by decide) (bytes := 104) (by decide) infoX rfl Try.underlying22 onesX (by rfl) _ _ (by rfl) 0 _ O (by rfl) (Hsi.out.xs.own.below (HBN.out _)) wr.heap.size ⟨⟨y1, 2, y3, y4, y5, y6, y7⟩, ka, kc, ls, ma, mc, ms⟩ (by rfl) HKN.out (by have := HOl.out; omega) (Nat.zero_le _) ?_); intro v6 w6 hown6 hg6 hor6; have Hx6 := Lib.hid ((Hsi.out.xs.keep (HBN.out _)).app hown6 hg6 hor6 ⟨(HL9.out.below (below_trans Hsi.out.bel Hsi.out.bel.size (HBN.out _))).more (Nat.le_trans Hsi.out.bel.size (HBN.out _).size), (HM9.out.below (below_trans Hsi.out.bel Hsi.out.bel.size (HBN.out _))).more (Nat.le_trans Hsi.out.bel.size (HBN.out _).size)⟩ ⟨fun a e h0 e2 => by have h1 := Hsi.out.new _ e2; have h2 := row_lt2 HL9.out e h0; omega, fun a e h0 e2 => by have h1 := Hsi.out.new _ e2; have h2 := row_lt2 HM9.out e h0; omega⟩ ⟨fun _ _ _ => Nat.zero_le _, fun _ _ _ => Nat.zero_le _⟩ ⟨Hnl.out.2, Hnm.out.2⟩); have Hn6 := Lib.hid (own_new Hsi.out.new hor6 (Nat.le_trans Hsi.out.bel.size (HBN.out _).size)); have Hb6 := Lib.hid ((below_trans Hsi.out.bel Hsi.out.bel.size (HBN.out _)).grown hg6 (Nat.le_trans Hsi.out.bel.size (HBN.out _).size) (fun m hm => Hsi.out.new m hm)); clear hown6 hg6 hor6)
                  go_roundw
                  case measure => have := Hlt.out; simp [intOf]; omega
                  case rel => exact ⟨k + 1, _, by go_num, Hlt.out, Hy.out, Hx6.out, Hn6.out, Hb6.out⟩
          · clear hmod
            go_wp2
            go_loopw [6, 7] (fun d i wx => ∃ (q : Nat), i = .int .i64 q ∧ d = .bool (hasV ((O.map vX).take q) ⟨y2, y3, y4⟩) ∧ q ≤ O.length ∧ RcSt w wx l k (.slice A7 O.length c7) O ∧ Blk wx g8 30 #[.int .i64 y1, .int .i64 y2, .int .i64 y3, .int .i64 y4, .int .i64 y5, .int .i64 y6, .int .i64 y7, .slice ka nl kc, .slice ma nm mc]) (fun _ i _ => O.length - (intOf i).toNat)
            case atStart => exact ⟨0, rfl, rfl, Nat.zero_le _, Sc.out, Kc.out⟩
            case round =>
              obtain ⟨q, rfl, rfl, hq, hsi, hki⟩ := hrel
              have Hsi := Lib.hid hsi
              have Hki := Lib.hid hki
              clear z0 z1 z2 z3 z4 z5 z6 z7 z8 zf
              by_cases hql : q < O.length
              · have hqk : (q : Int) < (O.length : Int) := by omega
                obtain ⟨g7, c9, hv9, e0, e1, e2, e3, e4, e5, e6, -, -⟩ := row_at hsi.xs.own q hql
                injection hv9 with hA9 hn9 hc9
                subst hA9 hc9
                have hmv := hasV_more (C := O.map vX) (i := q) (by simpa using hql) ⟨y2, y3, y4⟩
                rw [List.getElem_map, keyV_vX] at hmv
                have Hql := Lib.hid hql
                generalize O[q] = x at *
                obtain ⟨⟨x1, x2, x3, x4, x5, x6, x7⟩, kb, kd, lt, mb, md, mt⟩ := x
                simp only at e0 e1 e2 e3 e4 e5 e6
                obtain ⟨E, hE⟩ : ∃ E, decide ((⟨x2, x3, x4⟩ : K3) = ⟨y2, y3, y4⟩) = E := ⟨_, rfl⟩
                have hmv2 : hasV ((O.map vX).take (q + 1)) ⟨y2, y3, y4⟩ = (hasV ((O.map vX).take q) ⟨y2, y3, y4⟩ || E) := by rw [hmv, ← hE]; rfl
                have he := eqKey20 x2 x3 x4 y2 y3 y4
                rw [hE] at he
                have Hmv := Lib.hid hmv2
                have CK := Lib.hid (fun a b c d e f g dd os => Calls.regrown_of (w := wr) (d := dd) (os := os) (key_any a b c d e f g _))
                obtain ⟨z0, z1, z2, z3, z4, z5, z6, z7, z8, zf⟩ := blk9 hki
                obtain ⟨B0, hB0⟩ : ∃ B0, hasV ((O.map vX).take q) ⟨y2, y3, y4⟩ = B0 := ⟨_, rfl⟩
                have HB0 := Lib.hid hB0
                rw [hB0]
                clear hsi hki hn9 hmv hmv2 hE hB0 hql hq z7 z8 zf
                have z0 := cell_regrown z0
                have z1 := cell_regrown z1
                have z2 := cell_regrown z2
                have z3 := cell_regrown z3
                have z4 := cell_regrown z4
                have z5 := cell_regrown z5
                have z6 := cell_regrown z6
                have e0 := cell_regrown e0
                have e1 := cell_regrown e1
                have e2 := cell_regrown e2
                have e3 := cell_regrown e3
                have e4 := cell_regrown e4
                have e5 := cell_regrown e5
                have e6 := cell_regrown e6
                go_wp2_with fail
                refine wp_region_quiet_below (by kernel_rfl) (by kernel_rfl) ?_
                repeat (go_big_quiet_step (exact CK.out _ _ _ _ _ _ _ _ _))
                refine wpQuiet_nil ?_
                rintro w15 ⟨⟨dq2, osq2⟩, rfl⟩
                have hb15 := below_regrown wr dq2 osq2
                generalize grow (redrawn wr dq2) osq2 = w15 at *
                have S15 := Lib.hid (Hsi.out.keep hb15)
                have K15 := Lib.hid (Hki.out.below hb15 Hki.out.lt)
                clear hb15 z0 z1 z2 z3 z4 z5 z6 e0 e1 e2 e3 e4 e5 e6 CK
                cases E with
                | true =>
                  go_wp2
                  go_roundw
                  case measure => have := Hql.out; simp [intOf]; omega
                  case rel => exact ⟨q + 1, by go_num, by rw [Hmv.out]; simp, Hql.out, S15.out, K15.out⟩
                | false =>
                  go_wp2
                  go_roundw
                  case measure => have := Hql.out; simp [intOf]; omega
                  case rel => exact ⟨q + 1, by go_num, by rw [Hmv.out, HB0.out]; simp, Hql.out, S15.out, K15.out⟩
              · have hqe : q = O.length := by omega
                subst hqe
                have hqk : ¬ (O.length : Int) < (O.length : Int) := by omega
                have htl : (O.map vX).take O.length = O.map vX := by rw [← List.length_map (f := vX), List.take_length]
                rw [htl]
                obtain ⟨z0, z1, z2, z3, z4, z5, z6, z7, z8, zf⟩ := blk9 hki
                clear hsi hki htl hql hq
                cases hhas : hasV (O.map vX) ⟨y2, y3, y4⟩ with
                | true =>
                  have HS := Lib.hid (show RcSt w wr l (k + 1) (.slice A7 O.length c7) O from ⟨Hno.out (.inr hhas), Hsi.out.xs, Hsi.out.new, Hsi.out.bel⟩)
                  clear hhas
                  go_wp2
                  go_roundw
                  case measure => have := Hlt.out; simp [intOf]; omega
                  case rel => exact ⟨k + 1, O, by go_num, Hlt.out, HS.out⟩
                | false =>
                  have Hy := Lib.hid (Hyes.out ⟨⟨y1, y2, y3, y4, y5, y6, y7⟩, ka, kc, ls, ma, mc, ms⟩ rfl Hc.out hhas)
                  have HBN := Lib.hid (fun o => below_new wr o)
                  have HKN := Lib.hid (show Blk (wr.alloc (.cells #[.int .i64 y1, .int .i64 y2, .int .i64 y3, .int .i64 y4, .int .i64 y5, .int .i64 y6, .int .i64 y7, .slice ka nl kc, .slice ma nm mc] 30)) wr.heap.size 30 (Lsa.cells ⟨⟨y1, y2, y3, y4, y5, y6, y7⟩, ka, kc, ls, ma, mc, ms⟩).toArray by unfold Lsa.cells; simp only; rw [← Hnl.out.1, ← Hnm.out.1]; exact Blk.new _ _ _)
                  clear hhas
                  go_wp2_with (at_builtin; (refine app_row (e := 30) Lsa.cells (fun _ => rfl) (by decide) (bytes := 104) (by decide) infoX rfl Try.underlying22 onesX (by rfl) _ _ (by rfl) 0 _ O (by rfl) (Hsi.out.xs.own.below (HBN.out _)) wr.heap.size ⟨⟨y1, y2, y3, y4, y5, y6, y7⟩, ka, kc, ls, ma, mc, ms⟩ (by rfl) HKN.out (by have := HOl.out; omega) (Nat.zero_le _) ?_); intro v6 w6 hown6 hg6 hor6; have Hx6 := Lib.hid ((Hsi.out.xs.keep (HBN.out _)).app hown6 hg6 hor6 ⟨(HL9.out.below (below_trans Hsi.out.bel Hsi.out.bel.size (HBN.out _))).more (Nat.le_trans Hsi.out.bel.size (HBN.out _).size), (HM9.out.below (below_trans Hsi.out.bel Hsi.out.bel.size (HBN.out _))).more (Nat.le_trans Hsi.out.bel.size (HBN.out _).size)⟩ ⟨fun a e h0 e2 => by have h1 := Hsi.out.new _ e2; have h2 := row_lt2 HL9.out e h0; omega, fun a e h0 e2 => by have h1 := Hsi.out.new _ e2; have h2 := row_lt2 HM9.out e h0; omega⟩ ⟨fun _ _ _ => Nat.zero_le _, fun _ _ _ => Nat.zero_le _⟩ ⟨Hnl.out.2, Hnm.out.2⟩); have Hn6 := Lib.hid (own_new Hsi.out.new hor6 (Nat.le_trans Hsi.out.bel.size (HBN.out _).size)); have Hb6 := Lib.hid ((below_trans Hsi.out.bel Hsi.out.bel.size (HBN.out _)).grown hg6 (Nat.le_trans Hsi.out.bel.size (HBN.out _).size) (fun m hm => Hsi.out.new m hm)); clear hown6 hg6 hor6)
                  go_roundw
                  case measure => have := Hlt.out; simp [intOf]; omega
                  case rel => exact ⟨k + 1, _, by go_num, Hlt.out, Hy.out, Hx6.out, Hn6.out, Hb6.out⟩
    · have hkk : k = l.length := by omega
      subst hkk
      have hkl : ¬ (l.length : Int) < (l.length : Int) := by omega
      have hi := hst.is
      rw [List.take_length] at hi
      have Hi := Lib.hid hi
      clear hlt hst hi hk
      go_wp2
      go_ret
      exact ⟨⟨_, rfl, O, HSt.out.xs, Hi.out⟩, HSt.out.bel⟩

end Go.Proofs.Ytpfjgecdlilkcaa
