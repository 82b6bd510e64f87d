/-
  Layer 20: which descriptions count: the program's way.
-/
import Derived.Test.YtpfjgecdlilkcaaGrPlain
import Derived.Test.YtpfjgecdlilkcaaXsAt
import Derived.Test.YtpfjgecdlilkcaaRegionP
import Derived.Test.YtpfjgecdlilkcaaLsClone
import Derived.Laws.BitsLemmas
namespace Go.Proofs.Ytpfjgecdlilkcaa
open Go.RowKit Go.Sort

/-- who was seen -/
def seenL (O : List Lsa) : List (K3 × Value) := O.map fun x => (keyX x, Value.int .i64 1)
theorem seen_get (k : K3) : ∀ O : List Lsa, getL k (seenL O) = if hasV (O.map vX) k = true then some (.int .i64 1) else none
  | [] => rfl
  | x :: O => by
    have h := seen_get k O
    unfold seenL at h ⊢
    rw [List.map_cons, getL, h]
    unfold hasV
    rw [List.map_cons, List.any_cons, keyV_vX]
    by_cases e : keyX x = k <;> simp [e]
theorem seen_set (k : K3) (O : List Lsa) (h : hasV (O.map vX) k = false) : setL k (.int .i64 1) (seenL O) = seenL O ++ [(k, .int .i64 1)] := by
  cases hl : look k (seenL O) 0 with
  | none => exact (look_none hl).2.2 _
  | some jv =>
    obtain ⟨j, v⟩ := jv
    obtain ⟨n, -, -, h1, -⟩ := look_some hl
    rw [seen_get, h] at h1
    simp at h1
/-- the low bits of a number -/
theorem and15 (x : Int) (h0 : 0 ≤ x) (h1 : x ≤ 63) : bits .and .i64 x 15 = x % 16 :=
  bits_mask .i64 63 (by decide) (fun n h0 h1 => by rw [IntKind.wrap_i64]; omega) 4 (by decide) x h0 (by omega)
theorem right_id {h : Hd} {ka : Option Addr} {kc : Nat} {ls : List Lnk} {ma : Option Addr} {mc : Nat} {ms : List Int} (hr : rightB ⟨h, ka, kc, ls, ma, mc, ms⟩ = true) (h2 : h.kind = 2) : 0 ≤ h.id ∧ h.id ≤ 63 := by
  unfold rightB at hr
  rw [if_neg (by simp only; omega)] at hr
  simp only [Bool.and_eq_true, inB_iff] at hr
  exact hr.2.1.1
theorem zeroI20 (w : World) : (zeroValue 3).run Try.prog w = .ok (.int .i64 0) w := by kernel_rfl
theorem cnt_split (h : Hd) (ka : Option Addr) (kc : Nat) (ls : List Lnk) (ma : Option Addr) (mc : Nat) (ms : List Int) :
    (rightB ⟨h, ka, kc, ls, ma, mc, ms⟩ = false ∧ cntV (h, ls, ms) = false) ∨ (rightB ⟨h, ka, kc, ls, ma, mc, ms⟩ = true ∧ ((h.age = 60 ∧ cntV (h, ls, ms) = false) ∨ (h.age ≠ 60 ∧ ((h.kind = 2 ∧ ¬ h.id % 16 = h.adv ∧ cntV (h, ls, ms) = false) ∨ (h.kind ≠ 2 ∧ cntV (h, ls, ms) = true) ∨ (h.kind = 2 ∧ h.id % 16 = h.adv ∧ cntV (h, ls, ms) = true))))) := by
  have e : rightB (xV (h, ls, ms)) = rightB ⟨h, ka, kc, ls, ma, mc, ms⟩ := rfl
  unfold cntV
  rw [e]
  cases rightB ⟨h, ka, kc, ls, ma, mc, ms⟩ with
  | false => exact .inl ⟨rfl, rfl⟩
  | true =>
    refine .inr ⟨rfl, ?_⟩
    by_cases h1 : h.age = 60
    · exact .inl ⟨h1, by simp [h1]⟩
    · refine .inr ⟨h1, ?_⟩
      by_cases h2 : h.kind = 2
      · by_cases h3 : h.id % 16 = h.adv
        · exact .inr (.inr ⟨h2, h3, by simp [h1, h3]⟩)
        · exact .inl ⟨h2, h3, by simp [h2, h3]⟩
      · exact .inr (.inl ⟨h2, by simp [h1, h2]⟩)
/-- what lies in memory behind so many rounds -/
structure CntSt (w wr : World) (b : Nat) (l : List Lsa) (k : Nat) (v : Value) (O : List Lsa) : Prop where
  is : O.map vX = countsV ((l.take k).map vX)
  xs : XsAt wr (b + 1) v O
  map : MapAt K3.enc wr b (seenL O)
  bel : Below w.heap.size w wr
theorem cnt_no {l : List Lsa} {k : Nat} (hk : k < l.length) {O : List Lsa} (h : O.map vX = countsV ((l.take k).map vX)) (hn : cntV (vX l[k]) = false ∨ hasV (O.map vX) (keyV (vX l[k])) = true) : O.map vX = countsV ((l.take (k + 1)).map vX) := by
  rw [List.take_succ_eq_append_getElem hk, List.map_append, List.map_singleton, countsV_snoc, ← h]
  unfold addV
  rw [if_neg]
  rintro ⟨h1, h2⟩
  rcases hn with hn | hn
  · rw [hn] at h1; cases h1
  · rw [hn] at h2; cases h2
theorem cnt_yes {l : List Lsa} {k : Nat} (hk : k < l.length) {O : List Lsa} {x : Lsa} (h : O.map vX = countsV ((l.take k).map vX)) (hx : vX x = vX l[k]) (hc : cntV (vX l[k]) = true) (hn : hasV (O.map vX) (keyV (vX l[k])) = false) : (O ++ [x]).map vX = countsV ((l.take (k + 1)).map vX) := by
  rw [List.take_succ_eq_append_getElem hk, List.map_append, List.map_append, List.map_singleton, List.map_singleton, countsV_snoc, ← h, hx]
  unfold addV
  rw [if_pos ⟨hc, hn⟩]

set_option maxHeartbeats 16000000 in
set_option maxRecDepth 100000 in
theorem Counts_any (A : Option Addr) (cap : Nat) (l : List Lsa) (w : World) (hl : RowsAt 9 Lsa.cells w w.heap.size A l) (he : ∀ x ∈ l, RowsAt 4 Lnk.cells w w.heap.size x.ka x.links ∧ RowsAt 1 icell w w.heap.size x.ma x.members) (hlens : ∀ x ∈ l, x.links.length ≤ 1000 ∧ x.members.length ≤ 1000) (hm : l.length ≤ 2 ^ 16) (nn : Nat) (hnn : nn = l.length) :
    Calls Try.prog 20 #[.slice A nn cap] w fun r w' => (∃ v, r = .returned v ∧ ∃ O, XsAt w' w.heap.size v O ∧ O.map vX = countsV (l.map vX)) ∧ Below w.heap.size w w' := by
  subst hnn
  obtain ⟨b, hb⟩ : ∃ b, w.heap.size = b := ⟨_, rfl⟩
  have HL := Lib.hid hl
  have HE := Lib.hid he
  have Hlens := Lib.hid hlens
  have Hb0 := Lib.hid hb
  have hmm := @run_makeMap Try.prog
  have hm' : (l.length : Int) ≤ 9223372036854775807 := by omega
  have HS0 := Lib.hid (show CntSt w (w.alloc (.map #[] 0)) b l 0 (.slice none 0 0) [] from ⟨rfl, XsAt.nil _ _, by rw [← hb]; exact MapAt.new w, (Below.refl _ _).alloc (Nat.le_refl _) _⟩)
  clear hl he hlens
  go_enter Try.func20, Try.ntmps20
  go_wp2
  clear hmm
  go_loopw [3, 11] (fun v i wr => ∃ (k : Nat) (O : List Lsa), i = .int .i64 k ∧ k ≤ l.length ∧ CntSt w wr b l k v O) (fun _ i _ => l.length - (intOf i).toNat)
  case atStart => exact ⟨0, [], rfl, Nat.zero_le _, HS0.out⟩
  case round =>
    obtain ⟨k, O, rfl, hk, hst⟩ := hrel
    clear HS0
    obtain ⟨A7, c7, hv7⟩ := hst.xs.own.shape
    subst hv7
    have HSt := Lib.hid hst
    by_cases hlt : k < l.length
    · obtain ⟨g, o, hA, -, x0, x1, x2, x3, x4, x5, x6, x7, x8⟩ := row_lsa9b (HL.out.below hst.bel) k hlt
      have hok := HE.out l[k] (List.getElem_mem hlt)
      have hln := Hlens.out l[k] (List.getElem_mem hlt)
      have hkl : (k : Int) < (l.length : Int) := by omega
      have hno := cnt_no hlt hst.is
      have hyes := fun x => cnt_yes (x := x) hlt hst.is
      have hOl : O.length ≤ 2 ^ 20 := by
        have h1 := congrArg List.length hst.is
        have h2 := countsV_len ((l.take k).map vX)
        rw [List.length_map] at h1 h2
        rw [List.length_take] at h2
        omega
      have HA := Lib.hid hA
      rw [hA]
      have Hlt := Lib.hid hlt
      generalize l[k] = x at *
      obtain ⟨⟨y1, y2, y3, y4, y5, y6, y7⟩, ka, kc, ls, ma, mc, ms⟩ := x
      have hls := hok.1
      have hms := hok.2
      simp only at x0 x1 x2 x3 x4 x5 x6 x7 x8 hln hls hms
      change cntV (⟨y1, y2, y3, y4, y5, y6, y7⟩, ls, ms) = false ∨ hasV (O.map vX) ⟨y2, y3, y4⟩ = true → _ at hno
      change ∀ x, vX x = (⟨y1, y2, y3, y4, y5, y6, y7⟩, ls, ms) → cntV (⟨y1, y2, y3, y4, y5, y6, y7⟩, ls, ms) = true → hasV (O.map vX) ⟨y2, y3, y4⟩ = false → _ at hyes
      obtain ⟨nl, hnl⟩ : ∃ nl, nl = ls.length := ⟨_, rfl⟩
      obtain ⟨nm, hnm⟩ : ∃ nm, nm = ms.length := ⟨_, rfl⟩
      rw [← hnl] at x7
      rw [← hnm] at x8
      have hcs := cnt_split ⟨y1, y2, y3, y4, y5, y6, y7⟩ ka kc ls ma mc ms
      have Hnl := Lib.hid (show nl = ls.length ∧ ls.length ≤ 1000 from ⟨hnl, hln.1⟩)
      have Hnm := Lib.hid (show nm = ms.length ∧ ms.length ≤ 1000 from ⟨hnm, hln.2⟩)
      have Hno := Lib.hid hno
      have Hyes := Lib.hid hyes
      have HOl := Lib.hid hOl
      have HL9 := Lib.hid hls
      have HM9 := Lib.hid hms
      obtain ⟨w8, hw8⟩ : ∃ w8, wr.alloc (.cells #[.int .i64 y1, .int .i64 y2, .int .i64 y3, .int .i64 y4, .int .i64 y5, .int .i64 y6, .int .i64 y7, .slice ka nl kc, .slice ma nm mc] 30) = w8 := ⟨_, rfl⟩
      obtain ⟨g8, hg8⟩ : ∃ g8, wr.heap.size = g8 := ⟨_, rfl⟩
      have hk8 := Blk.new wr 30 #[.int .i64 y1, .int .i64 y2, .int .i64 y3, .int .i64 y4, .int .i64 y5, .int .i64 y6, .int .i64 y7, .slice ka nl kc, .slice ma nm mc]
      have hb8 := below_new wr (.cells #[.int .i64 y1, .int .i64 y2, .int .i64 y3, .int .i64 y4, .int .i64 y5, .int .i64 y6, .int .i64 y7, .slice ka nl kc, .slice ma nm mc] 30)
      rw [hw8, hg8] at hk8
      rw [hw8] at hb8
      have K8 := Lib.hid hk8
      have X8 := Lib.hid (hst.xs.keep hb8)
      have M8 := Lib.hid (hst.map.below hb8 hst.map.lt)
      have B8 := Lib.hid (below_trans hst.bel hst.bel.size hb8)
      have Hg8 := Lib.hid (show (Value.slice A7 O.length c7).ownBlock ≠ some g8 from fun e => by have := (hst.xs.own.block _ e).2; omega)
      have Hgb := Lib.hid (show g8 ≠ b from fun e => by have := hst.map.lt; omega)
      obtain ⟨z0, z1, z2, z3, z4, z5, z6, z7, z8, zf⟩ := blk9 hk8
      clear hnl hnm hA hlt hk8 hb8 hk hst hok hln hls hms hno hyes hOl
      go_wp2_with fail
      with_reducible refine Calls.mono (keyOf_any _ _ _ _ _ _ _ _) ?_
      rintro r wk ⟨rfl, hbk⟩
      obtain ⟨wa, hwa⟩ : ∃ wa, wk.alloc (.cells #[.int .i64 y2, .int .i64 y3, .int .i64 y4] 36) = wa := ⟨_, rfl⟩
      obtain ⟨g9, hg9⟩ : ∃ g9, wk.heap.size = g9 := ⟨_, rfl⟩
      have hk9 := Blk.new wk 36 #[.int .i64 y2, .int .i64 y3, .int .i64 y4]
      have hb9 := below_new wk (.cells #[.int .i64 y2, .int .i64 y3, .int .i64 y4] 36)
      rw [hwa, hg9] at hk9
      rw [hwa] at hb9
      have hbk9 := below_trans hbk hbk.size hb9
      have K9a := Lib.hid (K8.out.below hbk9 K8.out.lt)
      have Q9a := Lib.hid hk9
      have X9a := Lib.hid (X8.out.keep hbk9)
      have M9a := Lib.hid (M8.out.below hbk9 M8.out.lt)
      have B9a := Lib.hid (below_trans B8.out B8.out.size hbk9)
      have Hg9b := Lib.hid (show g9 ≠ b from fun e => by have := M8.out.lt; have := hbk.size; omega)
      clear hbk hk9 hb9 hbk9 z0 z1 z2 z3 z4 z5 z6 z7 z8 zf
      obtain ⟨z0, z1, z2, z3, z4, z5, z6, z7, z8, zf⟩ := blk9 K9a.out
      obtain ⟨q0, q1, q2⟩ : _ ∧ _ ∧ _ := ⟨Q9a.out.cell 0, Q9a.out.cell 1, Q9a.out.cell 2⟩
      simp only [List.getElem?_toArray, List.getElem?_cons_zero, List.getElem?_cons_succ] at q0 q1 q2
      have HR := Lib.hid (fun t ht => lsaRight_any y1 y2 y3 y4 y5 y6 y7 ka kc ls ma mc ms wa w.heap.size (HL9.out.below B9a.out) (HM9.out.below B9a.out) B9a.out.size (by have := Hnl.out.2; unfold maxLen; omega) (by have := Hnm.out.2; unfold maxLen; omega) nl nm Hnl.out.1 Hnm.out.1 (t := t) ht)
      rcases hcs with ⟨hr, hc⟩ | ⟨hr, hcs⟩
      · have HR2 := Lib.hid (HR.out false hr)
        have Hn := Lib.hid (Hno.out (.inl hc))
        clear hr hc
        go_wp2_with fail
        with_reducible refine Calls.mono HR2.out ?_
        rintro r w10 ⟨rfl, hb10⟩
        have HS := Lib.hid (show CntSt w w10 b l (k + 1) _ O from ⟨Hn.out, X9a.out.keep hb10, M9a.out.below hb10 M9a.out.lt, below_trans B9a.out B9a.out.size hb10⟩)
        clear hb10 z0 z1 z2 z3 z4 z5 z6 z7 z8 zf q0 q1 q2
        go_wp2
        go_roundw
        case measure => have := Hlt.out; simp [intOf]; omega
        case rel => exact ⟨k + 1, O, by go_num, Hlt.out, HS.out⟩
      · have HR2 := Lib.hid (HR.out true hr)
        have Hr2 := Lib.hid hr
        clear hr
        go_wp2_with fail
        with_reducible refine Calls.mono HR2.out ?_
        rintro r wc ⟨rfl, hb10⟩
        have Kc := Lib.hid (K9a.out.below hb10 K9a.out.lt)
        have Qc := Lib.hid (Q9a.out.below hb10 Q9a.out.lt)
        have Xc := Lib.hid (X9a.out.keep hb10)
        have Mc := Lib.hid (M9a.out.below hb10 M9a.out.lt)
        have Bc := Lib.hid (below_trans B9a.out B9a.out.size hb10)
        have HSk := Lib.hid (fun (h : cntV (⟨y1, y2, y3, y4, y5, y6, y7⟩, ls, ms) = false ∨ hasV (O.map vX) ⟨y2, y3, y4⟩ = true) => (show CntSt w wc b l (k + 1) _ O from ⟨Hno.out h, Xc.out, Mc.out, Bc.out⟩))
        have hlk := Mc.out.look_run keyK3 Try.underlying88 (zeroI20 _) ⟨y2, y3, y4⟩ false
        rw [seen_get] at hlk
        clear hb10 z0 z1 z2 z3 z4 z5 z6 z7 z8 zf q0 q1 q2
        obtain ⟨z0, z1, z2, z3, z4, z5, z6, z7, z8, zf⟩ := blk9 Kc.out
        obtain ⟨q0, q1, q2⟩ : _ ∧ _ ∧ _ := ⟨Qc.out.cell 0, Qc.out.cell 1, Qc.out.cell 2⟩
        simp only [List.getElem?_toArray, List.getElem?_cons_zero, List.getElem?_cons_succ] at q0 q1 q2
        have hor : (y1 = 60 ∧ cntV (⟨y1, y2, y3, y4, y5, y6, y7⟩, ls, ms) = false) ∨ (y1 ≠ 60 ∧ ((y2 = 2 ∧ ¬ y3 % 16 = y4 ∧ cntV (⟨y1, y2, y3, y4, y5, y6, y7⟩, ls, ms) = false) ∨ (¬ y2 = 2 ∧ cntV (⟨y1, y2, y3, y4, y5, y6, y7⟩, ls, ms) = true) ∨ (y2 = 2 ∧ y3 % 16 = y4 ∧ cntV (⟨y1, y2, y3, y4, y5, y6, y7⟩, ls, ms) = true))) := hcs
        clear hcs
        rcases hor with ⟨h60, hc⟩ | ⟨h60, ⟨h2, h3, hc⟩ | hor⟩
        · have HS := Lib.hid (HSk.out (.inl hc))
          subst h60
          clear hc hlk
          go_wp2
          go_roundw
          case measure => have := Hlt.out; simp [intOf]; omega
          case rel => exact ⟨k + 1, O, by go_num, Hlt.out, HS.out⟩
        · have HS := Lib.hid (HSk.out (.inl hc))
          have hid := right_id Hr2.out h2
          have hand := and15 y3 hid.1 hid.2
          subst h2
          clear hc hlk hid
          go_wp2
          go_roundw
          case measure => have := Hlt.out; simp [intOf]; omega
          case rel => exact ⟨k + 1, O, by go_num, Hlt.out, HS.out⟩
        · cases hhas : hasV (O.map vX) ⟨y2, y3, y4⟩ with
          | true =>
            rw [hhas] at hlk
            simp only [if_true, K3.enc, Option.getD, Bool.false_eq_true, if_false] at hlk
            have HS := Lib.hid (HSk.out (.inr hhas))
            rcases hor with ⟨h2, hc⟩ | ⟨h2, h3, hc⟩
            · clear hc hhas
              go_wp2
              go_roundw
              case measure => have := Hlt.out; simp [intOf]; omega
              case rel => exact ⟨k + 1, O, by go_num, Hlt.out, HS.out⟩
            · have hid := right_id Hr2.out h2
              have hand := and15 y3 hid.1 hid.2
              subst h2
              clear hc hhas hid
              go_wp2
              go_roundw
              case measure => have := Hlt.out; simp [intOf]; omega
              case rel => exact ⟨k + 1, O, by go_num, Hlt.out, HS.out⟩
          | false =>
            rw [hhas] at hlk
            simp only [K3.enc, Option.getD, Bool.false_eq_true, if_false] at hlk
            have hc : cntV (⟨y1, y2, y3, y4, y5, y6, y7⟩, ls, ms) = true := hor.elim (fun h => h.2) (fun h => h.2.2)
            have Hy := Lib.hid (fun x hx => Hyes.out x hx hc hhas)
            have Hhas := Lib.hid hhas
            clear hc hhas
            have hand : y2 = 2 → bits .and .i64 y3 15 = y4 := fun h2 => by
              have hid := right_id Hr2.out h2
              rw [and15 y3 hid.1 hid.2]
              exact hor.elim (fun h => absurd h2 h.1) (fun h => h.2.1)
            clear hor
            by_cases h2 : y2 = 2
            · subst h2
              have hand2 := hand rfl
              clear hand
              go_wp2_with (at_mapUpdate; (refine wpList_update_st _ (by rfl) _ _ _ 88 (by rfl) 36 3 keyK3 Try.underlying88 (by rfl) Mc.out ⟨2, y3, y4⟩ (by rfl) (.int .i64 1) (by rfl) ?_); intro w9 hm13 hg13 hs13; rw [seen_set _ _ Hhas.out] at hm13; have M9 := Lib.hid hm13; have K9 := Lib.hid (Kc.out.grown hg13 (fun e => Hgb.out (by injection e))); have X9 := Lib.hid (Xc.out.iter hg13 (Nat.lt_succ_self b)); have B9 := Lib.hid (Bc.out.grown hg13 Bc.out.size (fun m e => by injection e with e; rw [← e, Hb0.out]; exact Nat.le_refl _)); have HB9 := Lib.hid (show b < w9.heap.size from hm13.lt); clear hm13 hg13 hs13 z0 z1 z2 z3 z4 z5 z6 z7 z8 zf q0 q1 q2)
              refine wp_region_F (F := fun W => Below w.heap.size w W ∧ Blk W g8 30 #[.int .i64 y1, .int .i64 2, .int .i64 y3, .int .i64 y4, .int .i64 y5, .int .i64 y6, .int .i64 y7, .slice ka nl kc, .slice ma nm mc]) (n := 12) (m := 13) (s := #[false, false, false, false, false, false, false, false, false, false, false, false, false]) (by kernel_rfl) (by kernel_rfl) (by kernel_rfl) ?_
              intro wd hwd
              have hbd : Below w9.heap.size w9 wd := by rw [hwd.out]; exact (Below.refl _ _).drew
              have hF : Below w.heap.size w wd ∧ Blk wd g8 30 #[.int .i64 y1, .int .i64 2, .int .i64 y3, .int .i64 y4, .int .i64 y5, .int .i64 y6, .int .i64 y7, .slice ka nl kc, .slice ma nm mc] := ⟨below_trans B9.out B9.out.size hbd, K9.out.below hbd K9.out.lt⟩
              clear hwd
              refine F_take (i := 0) (d := some 48) (by kernel_rfl) (by kernel_rfl) (by decide) (s' := #[true, false, false, false, false, false, false, false, false, false, false, false, false]) (by kernel_rfl) rfl rfl (by kernel_rfl) (by kernel_rfl) (by kernel_rfl) (fun _ _ _ h => h) (Or.inl ⟨by kernel_rfl, fun W hW => by obtain ⟨x0, x1, x2, x3, x4, x5, x6, x7, x8, -⟩ := blk9 hW.2; go_simp; try with_reducible rfl⟩) hF ?_
              go_frame
              refine F_take (i := 1) (d := some 49) (by kernel_rfl) (by kernel_rfl) (by decide) (s' := #[true, true, false, false, false, false, false, false, false, false, false, false, false]) (by kernel_rfl) rfl rfl (by kernel_rfl) (by kernel_rfl) (by kernel_rfl) (fun _ _ _ h => h) (Or.inl ⟨by kernel_rfl, fun W hW => by obtain ⟨x0, x1, x2, x3, x4, x5, x6, x7, x8, -⟩ := blk9 hW.2; go_simp; try with_reducible rfl⟩) hF ?_
              go_frame
              refine F_take (i := 3) (d := some 51) (by kernel_rfl) (by kernel_rfl) (by decide) (s' := #[true, true, false, true, false, false, false, false, false, false, false, false, false]) (by kernel_rfl) rfl rfl (by kernel_rfl) (by kernel_rfl) (by kernel_rfl) (fun _ _ _ h => h) (Or.inl ⟨by kernel_rfl, fun W hW => by obtain ⟨x0, x1, x2, x3, x4, x5, x6, x7, x8, -⟩ := blk9 hW.2; go_simp; try with_reducible rfl⟩) hF ?_
              go_frame
              refine F_take (i := 6) (d := some 54) (by kernel_rfl) (by kernel_rfl) (by decide) (s' := #[true, true, false, true, false, false, true, false, false, false, false, false, false]) (by kernel_rfl) rfl rfl (by kernel_rfl) (by kernel_rfl) (by kernel_rfl) (fun _ _ _ h => h) (Or.inl ⟨by kernel_rfl, fun W hW => by obtain ⟨x0, x1, x2, x3, x4, x5, x6, x7, x8, -⟩ := blk9 hW.2; go_simp; try with_reducible rfl⟩) hF ?_
              go_frame
              refine F_take (i := 2) (d := some 50) (by kernel_rfl) (by kernel_rfl) (by decide) (s' := #[true, true, true, true, false, false, true, false, false, false, false, false, false]) (by kernel_rfl) rfl rfl (by kernel_rfl) (by kernel_rfl) (by kernel_rfl) (fun _ _ _ h => h) (Or.inl ⟨by kernel_rfl, fun W hW => by obtain ⟨x0, x1, x2, x3, x4, x5, x6, x7, x8, -⟩ := blk9 hW.2; go_simp; try with_reducible rfl⟩) hF ?_
              go_frame
              refine F_take (i := 4) (d := some 52) (by kernel_rfl) (by kernel_rfl) (by decide) (s' := #[true, true, true, true, true, false, true, false, false, false, false, false, false]) (by kernel_rfl) rfl rfl (by kernel_rfl) (by kernel_rfl) (by kernel_rfl) (fun _ _ _ h => h) (Or.inl ⟨by kernel_rfl, fun W hW => by obtain ⟨x0, x1, x2, x3, x4, x5, x6, x7, x8, -⟩ := blk9 hW.2; go_simp; try with_reducible rfl⟩) hF ?_
              go_frame
              refine F_take (i := 7) (d := some 55) (by kernel_rfl) (by kernel_rfl) (by decide) (s' := #[true, true, true, true, true, false, true, true, false, false, false, false, false]) (by kernel_rfl) rfl rfl (by kernel_rfl) (by kernel_rfl) (by kernel_rfl) (fun _ _ _ h => h) (Or.inl ⟨by kernel_rfl, fun W hW => by obtain ⟨x0, x1, x2, x3, x4, x5, x6, x7, x8, -⟩ := blk9 hW.2; go_simp; try with_reducible rfl⟩) hF ?_
              go_frame
              refine F_one (i := 5) (s' := #[true, true, true, true, true, true, true, true, false, false, false, false, false]) (by kernel_rfl) (by kernel_rfl) (wpOp_enterL (i := 5) (d := some 53) (f := 44) (args := #[.slice ka nl kc]) rfl rfl (by kernel_rfl) (by go_simp) ((cloneLnk ka kc ls wd w.heap.size (HL9.out.below hF.1) hF.1.size (by have := Hnl.out.2; omega) nl Hnl.out.1).mono ?_))
              rintro r v5w ⟨va, rfl, oA, hb5⟩
              obtain ⟨Aa, ca, rfl⟩ : ∃ A c, va = .slice A nl c := by obtain ⟨A, c, e⟩ := oA.shape; exact ⟨A, c, by rw [e, Hnl.out.1]⟩
              have oA := OwnR.lower oA hbd.size
              have hbd := below_trans hbd hbd.size hb5
              have hF : Below w.heap.size w v5w ∧ Blk v5w g8 30 #[.int .i64 y1, .int .i64 2, .int .i64 y3, .int .i64 y4, .int .i64 y5, .int .i64 y6, .int .i64 y7, .slice ka nl kc, .slice ma nm mc] := ⟨below_trans hF.1 hF.1.size hb5, hF.2.below hb5 hF.2.lt⟩
              refine ⟨_, rfl, fun _ => hF, ?_⟩
              go_frame
              clear hb5
              refine F_one (i := 8) (s' := #[true, true, true, true, true, true, true, true, true, false, false, false, false]) (by kernel_rfl) (by kernel_rfl) (wpOp_enterL (i := 8) (d := some 56) (f := 45) (args := #[.slice ma nm mc]) rfl rfl (by kernel_rfl) (by go_simp) ((cloneInt ma mc ms v5w w.heap.size (HM9.out.below hF.1) hF.1.size (by have := Hnm.out.2; omega) nm Hnm.out.1).mono ?_))
              rintro r v8w ⟨vb, rfl, oB, hb8⟩
              obtain ⟨Ab, cb, rfl⟩ : ∃ A c, vb = .slice A nm c := by obtain ⟨A, c, e⟩ := oB.shape; exact ⟨A, c, by rw [e, Hnm.out.1]⟩
              have oA := OwnR.below oA hb8
              have oB := OwnR.lower oB hbd.size
              have hbd := below_trans hbd hbd.size hb8
              have hF : Below w.heap.size w v8w ∧ Blk v8w g8 30 #[.int .i64 y1, .int .i64 2, .int .i64 y3, .int .i64 y4, .int .i64 y5, .int .i64 y6, .int .i64 y7, .slice ka nl kc, .slice ma nm mc] := ⟨below_trans hF.1 hF.1.size hb8, hF.2.below hb8 hF.2.lt⟩
              refine ⟨_, rfl, fun _ => hF, ?_⟩
              go_frame
              clear hb8
              refine F_take (i := 9) (d := some 57) (by kernel_rfl) (by kernel_rfl) (by decide) (s' := #[true, true, true, true, true, true, true, true, true, true, false, false, false]) (by kernel_rfl) rfl rfl (by kernel_rfl) (by kernel_rfl) (by kernel_rfl) (fun _ _ _ h => h) (Or.inl ⟨by kernel_rfl, fun W hW => by obtain ⟨x0, x1, x2, x3, x4, x5, x6, x7, x8, -⟩ := blk9 hW.2; go_simp; try with_reducible rfl⟩) hF ?_
              go_frame
              have HEl := seal_el (q := b) (h := ⟨y1, 2, y3, y4, y5, y6, y7⟩) X9.out.own HB9.out Hnl.out.1 Hnm.out.1 Hnl.out.2 Hnm.out.2 oA oB
              have X10 := X9.out.keep hbd
              have M10 := M9.out.below hbd M9.out.lt
              have B10 := hF.1
              clear oA oB
              have hbn := below_new v8w (.cells #[.int .i64 y1, .int .i64 2, .int .i64 y3, .int .i64 y4, .int .i64 y5, .int .i64 y6, .int .i64 y7, .slice Aa nl ca, .slice Ab nm cb] 30)
              have hFn : Below w.heap.size w (v8w.alloc (.cells #[.int .i64 y1, .int .i64 2, .int .i64 y3, .int .i64 y4, .int .i64 y5, .int .i64 y6, .int .i64 y7, .slice Aa nl ca, .slice Ab nm cb] 30)) ∧ Blk (v8w.alloc (.cells #[.int .i64 y1, .int .i64 2, .int .i64 y3, .int .i64 y4, .int .i64 y5, .int .i64 y6, .int .i64 y7, .slice Aa nl ca, .slice Ab nm cb] 30)) g8 30 #[.int .i64 y1, .int .i64 2, .int .i64 y3, .int .i64 y4, .int .i64 y5, .int .i64 y6, .int .i64 y7, .slice ka nl kc, .slice ma nm mc] := ⟨below_trans hF.1 hF.1.size hbn, hF.2.below hbn hF.2.lt⟩
              refine F_one (i := 10) (s' := #[true, true, true, true, true, true, true, true, true, true, true, false, false]) (by kernel_rfl) (by kernel_rfl) (wpOp_valueL (i := 10) (d := some 58) (w' := v8w.alloc (.cells #[.int .i64 y1, .int .i64 2, .int .i64 y3, .int .i64 y4, .int .i64 y5, .int .i64 y6, .int .i64 y7, .slice Aa nl ca, .slice Ab nm cb] 30)) (v := .slice (some ⟨v8w.heap.size, 0, none⟩) 1 1) rfl rfl (by kernel_rfl) (by go_simp) ⟨fun _ => hFn, ?_⟩)
              go_frame
              have hkn : Blk (v8w.alloc (.cells #[.int .i64 y1, .int .i64 2, .int .i64 y3, .int .i64 y4, .int .i64 y5, .int .i64 y6, .int .i64 y7, .slice Aa nl ca, .slice Ab nm cb] 30)) v8w.heap.size 30 (Lsa.cells ⟨⟨y1, 2, y3, y4, y5, y6, y7⟩, Aa, ca, ls, Ab, cb, ms⟩).toArray := by unfold Lsa.cells; simp only; rw [← Hnl.out.1, ← Hnm.out.1]; exact Blk.new _ _ _
              obtain ⟨v5, w5, hrun, hown5, hg5, hor5⟩ := app_row_run (e := 30) (sl := 22) Lsa.cells (fun _ => rfl) (by decide) (bytes := 104) (by decide) infoX rfl Try.underlying22 onesX 22 (b + 1) (.slice A7 O.length c7) O (X10.own.below hbn) v8w.heap.size ⟨⟨y1, 2, y3, y4, y5, y6, y7⟩, Aa, ca, ls, Ab, cb, ms⟩ hkn (by have := HOl.out; omega) (by have := M10.lt; simp; omega)
              have X11 := Lib.hid ((X10.keep hbn).app hown5 hg5 hor5 (HEl.1.keep hbn) HEl.2.1 HEl.2.2.1 HEl.2.2.2)
              have M11 := Lib.hid ((M10.below hbn M10.lt).grown hg5 (fun e => by have := (X10.own.block _ e.symm).1; omega))
              have B11 := Lib.hid (show Below w.heap.size w w5 from (below_trans B10 B10.size hbn).grown hg5 (Nat.le_trans B10.size hbn.size) (fun m e => by have := (X10.own.block m e).1; have := Hb0.out; omega))
              refine F_one (i := 11) (s' := #[true, true, true, true, true, true, true, true, true, true, true, true, false]) (by kernel_rfl) (by kernel_rfl) (wpOp_appendL (i := 11) (d := some 59) (t := 22) rfl rfl rfl (by kernel_rfl) rfl (by rfl) (by rfl) hrun ⟨fun _ => ⟨B11.out, hFn.2.grown hg5 (fun e => Hg8.out e.symm)⟩, ?_⟩)
              go_frame
              obtain ⟨A5, c5, hv5⟩ := hown5.shape
              subst hv5
              refine F_one (i := 12) (s' := #[true, true, true, true, true, true, true, true, true, true, true, true, true]) (by kernel_rfl) (by kernel_rfl) (wpOp_valueL (i := 12) (d := some 3) (w' := w5) (v := .slice A5 (O ++ [(⟨⟨y1, 2, y3, y4, y5, y6, y7⟩, Aa, ca, ls, Ab, cb, ms⟩ : Lsa)]).length c5) rfl rfl (by kernel_rfl) (by go_simp) ⟨fun h => absurd h (by decide), ?_⟩)
              go_frame
              refine F_done (by kernel_rfl) ?_ _
              clear hF hFn hkn hbn hrun hown5 hg5 hor5 X10 M10 B10 HEl hbd
              go_wp2
              go_roundw
              case measure => have := Hlt.out; simp [intOf]; omega
              case rel => exact ⟨k + 1, _, by go_num, Hlt.out, Hy.out _ rfl, X11.out, by have := M11.out; simpa [seenL, keyX, keyH] using this, B11.out⟩
            · clear hand
              go_wp2_with (at_mapUpdate; (refine wpList_update_st _ (by rfl) _ _ _ 88 (by rfl) 36 3 keyK3 Try.underlying88 (by rfl) Mc.out ⟨y2, y3, y4⟩ (by rfl) (.int .i64 1) (by rfl) ?_); intro w9 hm13 hg13 hs13; rw [seen_set _ _ Hhas.out] at hm13; have M9 := Lib.hid hm13; have K9 := Lib.hid (Kc.out.grown hg13 (fun e => Hgb.out (by injection e))); have X9 := Lib.hid (Xc.out.iter hg13 (Nat.lt_succ_self b)); have B9 := Lib.hid (Bc.out.grown hg13 Bc.out.size (fun m e => by injection e with e; rw [← e, Hb0.out]; exact Nat.le_refl _)); have HB9 := Lib.hid (show b < w9.heap.size from hm13.lt); clear hm13 hg13 hs13 z0 z1 z2 z3 z4 z5 z6 z7 z8 zf q0 q1 q2)
              refine wp_region_F (F := fun W => Below w.heap.size w W ∧ Blk W g8 30 #[.int .i64 y1, .int .i64 y2, .int .i64 y3, .int .i64 y4, .int .i64 y5, .int .i64 y6, .int .i64 y7, .slice ka nl kc, .slice ma nm mc]) (n := 12) (m := 13) (s := #[false, false, false, false, false, false, false, false, false, false, false, false, false]) (by kernel_rfl) (by kernel_rfl) (by kernel_rfl) ?_
              intro wd hwd
              have hbd : Below w9.heap.size w9 wd := by rw [hwd.out]; exact (Below.refl _ _).drew
              have hF : Below w.heap.size w wd ∧ Blk wd g8 30 #[.int .i64 y1, .int .i64 y2, .int .i64 y3, .int .i64 y4, .int .i64 y5, .int .i64 y6, .int .i64 y7, .slice ka nl kc, .slice ma nm mc] := ⟨below_trans B9.out B9.out.size hbd, K9.out.below hbd K9.out.lt⟩
              clear hwd
              refine F_take (i := 0) (d := some 48) (by kernel_rfl) (by kernel_rfl) (by decide) (s' := #[true, false, false, false, false, false, false, false, false, false, false, false, false]) (by kernel_rfl) rfl rfl (by kernel_rfl) (by kernel_rfl) (by kernel_rfl) (fun _ _ _ h => h) (Or.inl ⟨by kernel_rfl, fun W hW => by obtain ⟨x0, x1, x2, x3, x4, x5, x6, x7, x8, -⟩ := blk9 hW.2; go_simp; try with_reducible rfl⟩) hF ?_
              go_frame
              refine F_take (i := 1) (d := some 49) (by kernel_rfl) (by kernel_rfl) (by decide) (s' := #[true, true, false, false, false, false, false, false, false, false, false, false, false]) (by kernel_rfl) rfl rfl (by kernel_rfl) (by kernel_rfl) (by kernel_rfl) (fun _ _ _ h => h) (Or.inl ⟨by kernel_rfl, fun W hW => by obtain ⟨x0, x1, x2, x3, x4, x5, x6, x7, x8, -⟩ := blk9 hW.2; go_simp; try with_reducible rfl⟩) hF ?_
              go_frame
              refine F_take (i := 3) (d := some 51) (by kernel_rfl) (by kernel_rfl) (by decide) (s' := #[true, true, false, true, false, false, false, false, false, false, false, false, false]) (by kernel_rfl) rfl rfl (by kernel_rfl) (by kernel_rfl) (by kernel_rfl) (fun _ _ _ h => h) (Or.inl ⟨by kernel_rfl, fun W hW => by obtain ⟨x0, x1, x2, x3, x4, x5, x6, x7, x8, -⟩ := blk9 hW.2; go_simp; try with_reducible rfl⟩) hF ?_
              go_frame
              refine F_take (i := 6) (d := some 54) (by kernel_rfl) (by kernel_rfl) (by decide) (s' := #[true, true, false, true, false, false, true, false, false, false, false, false, false]) (by kernel_rfl) rfl rfl (by kernel_rfl) (by kernel_rfl) (by kernel_rfl) (fun _ _ _ h => h) (Or.inl ⟨by kernel_rfl, fun W hW => by obtain ⟨x0, x1, x2, x3, x4, x5, x6, x7, x8, -⟩ := blk9 hW.2; go_simp; try with_reducible rfl⟩) hF ?_
              go_frame
              refine F_take (i := 2) (d := some 50) (by kernel_rfl) (by kernel_rfl) (by decide) (s' := #[true, true, true, true, false, false, true, false, false, false, false, false, false]) (by kernel_rfl) rfl rfl (by kernel_rfl) (by kernel_rfl) (by kernel_rfl) (fun _ _ _ h => h) (Or.inl ⟨by kernel_rfl, fun W hW => by obtain ⟨x0, x1, x2, x3, x4, x5, x6, x7, x8, -⟩ := blk9 hW.2; go_simp; try with_reducible rfl⟩) hF ?_
              go_frame
              refine F_take (i := 4) (d := some 52) (by kernel_rfl) (by kernel_rfl) (by decide) (s' := #[true, true, true, true, true, false, true, false, false, false, false, false, false]) (by kernel_rfl) rfl rfl (by kernel_rfl) (by kernel_rfl) (by kernel_rfl) (fun _ _ _ h => h) (Or.inl ⟨by kernel_rfl, fun W hW => by obtain ⟨x0, x1, x2, x3, x4, x5, x6, x7, x8, -⟩ := blk9 hW.2; go_simp; try with_reducible rfl⟩) hF ?_
              go_frame
              refine F_take (i := 7) (d := some 55) (by kernel_rfl) (by kernel_rfl) (by decide) (s' := #[true, true, true, true, true, false, true, true, false, false, false, false, false]) (by kernel_rfl) rfl rfl (by kernel_rfl) (by kernel_rfl) (by kernel_rfl) (fun _ _ _ h => h) (Or.inl ⟨by kernel_rfl, fun W hW => by obtain ⟨x0, x1, x2, x3, x4, x5, x6, x7, x8, -⟩ := blk9 hW.2; go_simp; try with_reducible rfl⟩) hF ?_
              go_frame
              refine F_one (i := 5) (s' := #[true, true, true, true, true, true, true, true, false, false, false, false, false]) (by kernel_rfl) (by kernel_rfl) (wpOp_enterL (i := 5) (d := some 53) (f := 44) (args := #[.slice ka nl kc]) rfl rfl (by kernel_rfl) (by go_simp) ((cloneLnk ka kc ls wd w.heap.size (HL9.out.below hF.1) hF.1.size (by have := Hnl.out.2; omega) nl Hnl.out.1).mono ?_))
              rintro r v5w ⟨va, rfl, oA, hb5⟩
              obtain ⟨Aa, ca, rfl⟩ : ∃ A c, va = .slice A nl c := by obtain ⟨A, c, e⟩ := oA.shape; exact ⟨A, c, by rw [e, Hnl.out.1]⟩
              have oA := OwnR.lower oA hbd.size
              have hbd := below_trans hbd hbd.size hb5
              have hF : Below w.heap.size w v5w ∧ Blk v5w g8 30 #[.int .i64 y1, .int .i64 y2, .int .i64 y3, .int .i64 y4, .int .i64 y5, .int .i64 y6, .int .i64 y7, .slice ka nl kc, .slice ma nm mc] := ⟨below_trans hF.1 hF.1.size hb5, hF.2.below hb5 hF.2.lt⟩
              refine ⟨_, rfl, fun _ => hF, ?_⟩
              go_frame
              clear hb5
              refine F_one (i := 8) (s' := #[true, true, true, true, true, true, true, true, true, false, false, false, false]) (by kernel_rfl) (by kernel_rfl) (wpOp_enterL (i := 8) (d := some 56) (f := 45) (args := #[.slice ma nm mc]) rfl rfl (by kernel_rfl) (by go_simp) ((cloneInt ma mc ms v5w w.heap.size (HM9.out.below hF.1) hF.1.size (by have := Hnm.out.2; omega) nm Hnm.out.1).mono ?_))
              rintro r v8w ⟨vb, rfl, oB, hb8⟩
              obtain ⟨Ab, cb, rfl⟩ : ∃ A c, vb = .slice A nm c := by obtain ⟨A, c, e⟩ := oB.shape; exact ⟨A, c, by rw [e, Hnm.out.1]⟩
              have oA := OwnR.below oA hb8
              have oB := OwnR.lower oB hbd.size
              have hbd := below_trans hbd hbd.size hb8
              have hF : Below w.heap.size w v8w ∧ Blk v8w g8 30 #[.int .i64 y1, .int .i64 y2, .int .i64 y3, .int .i64 y4, .int .i64 y5, .int .i64 y6, .int .i64 y7, .slice ka nl kc, .slice ma nm mc] := ⟨below_trans hF.1 hF.1.size hb8, hF.2.below hb8 hF.2.lt⟩
              refine ⟨_, rfl, fun _ => hF, ?_⟩
              go_frame
              clear hb8
              refine F_take (i := 9) (d := some 57) (by kernel_rfl) (by kernel_rfl) (by decide) (s' := #[true, true, true, true, true, true, true, true, true, true, false, false, false]) (by kernel_rfl) rfl rfl (by kernel_rfl) (by kernel_rfl) (by kernel_rfl) (fun _ _ _ h => h) (Or.inl ⟨by kernel_rfl, fun W hW => by obtain ⟨x0, x1, x2, x3, x4, x5, x6, x7, x8, -⟩ := blk9 hW.2; go_simp; try with_reducible rfl⟩) hF ?_
              go_frame
              have HEl := seal_el (q := b) (h := ⟨y1, y2, y3, y4, y5, y6, y7⟩) X9.out.own HB9.out Hnl.out.1 Hnm.out.1 Hnl.out.2 Hnm.out.2 oA oB
              have X10 := X9.out.keep hbd
              have M10 := M9.out.below hbd M9.out.lt
              have B10 := hF.1
              clear oA oB
              have hbn := below_new v8w (.cells #[.int .i64 y1, .int .i64 y2, .int .i64 y3, .int .i64 y4, .int .i64 y5, .int .i64 y6, .int .i64 y7, .slice Aa nl ca, .slice Ab nm cb] 30)
              have hFn : Below w.heap.size w (v8w.alloc (.cells #[.int .i64 y1, .int .i64 y2, .int .i64 y3, .int .i64 y4, .int .i64 y5, .int .i64 y6, .int .i64 y7, .slice Aa nl ca, .slice Ab nm cb] 30)) ∧ Blk (v8w.alloc (.cells #[.int .i64 y1, .int .i64 y2, .int .i64 y3, .int .i64 y4, .int .i64 y5, .int .i64 y6, .int .i64 y7, .slice Aa nl ca, .slice Ab nm cb] 30)) g8 30 #[.int .i64 y1, .int .i64 y2, .int .i64 y3, .int .i64 y4, .int .i64 y5, .int .i64 y6, .int .i64 y7, .slice ka nl kc, .slice ma nm mc] := ⟨below_trans hF.1 hF.1.size hbn, hF.2.below hbn hF.2.lt⟩
              refine F_one (i := 10) (s' := #[true, true, true, true, true, true, true, true, true, true, true, false, false]) (by kernel_rfl) (by kernel_rfl) (wpOp_valueL (i := 10) (d := some 58) (w' := v8w.alloc (.cells #[.int .i64 y1, .int .i64 y2, .int .i64 y3, .int .i64 y4, .int .i64 y5, .int .i64 y6, .int .i64 y7, .slice Aa nl ca, .slice Ab nm cb] 30)) (v := .slice (some ⟨v8w.heap.size, 0, none⟩) 1 1) rfl rfl (by kernel_rfl) (by go_simp) ⟨fun _ => hFn, ?_⟩)
              go_frame
              have hkn : Blk (v8w.alloc (.cells #[.int .i64 y1, .int .i64 y2, .int .i64 y3, .int .i64 y4, .int .i64 y5, .int .i64 y6, .int .i64 y7, .slice Aa nl ca, .slice Ab nm cb] 30)) v8w.heap.size 30 (Lsa.cells ⟨⟨y1, y2, y3, y4, y5, y6, y7⟩, Aa, ca, ls, Ab, cb, ms⟩).toArray := by unfold Lsa.cells; simp only; rw [← Hnl.out.1, ← Hnm.out.1]; exact Blk.new _ _ _
              obtain ⟨v5, w5, hrun, hown5, hg5, hor5⟩ := app_row_run (e := 30) (sl := 22) Lsa.cells (fun _ => rfl) (by decide) (bytes := 104) (by decide) infoX rfl Try.underlying22 onesX 22 (b + 1) (.slice A7 O.length c7) O (X10.own.below hbn) v8w.heap.size ⟨⟨y1, y2, y3, y4, y5, y6, y7⟩, Aa, ca, ls, Ab, cb, ms⟩ hkn (by have := HOl.out; omega) (by have := M10.lt; simp; omega)
              have X11 := Lib.hid ((X10.keep hbn).app hown5 hg5 hor5 (HEl.1.keep hbn) HEl.2.1 HEl.2.2.1 HEl.2.2.2)
              have M11 := Lib.hid ((M10.below hbn M10.lt).grown hg5 (fun e => by have := (X10.own.block _ e.symm).1; omega))
              have B11 := Lib.hid (show Below w.heap.size w w5 from (below_trans B10 B10.size hbn).grown hg5 (Nat.le_trans B10.size hbn.size) (fun m e => by have := (X10.own.block m e).1; have := Hb0.out; omega))
              refine F_one (i := 11) (s' := #[true, true, true, true, true, true, true, true, true, true, true, true, false]) (by kernel_rfl) (by kernel_rfl) (wpOp_appendL (i := 11) (d := some 59) (t := 22) rfl rfl rfl (by kernel_rfl) rfl (by rfl) (by rfl) hrun ⟨fun _ => ⟨B11.out, hFn.2.grown hg5 (fun e => Hg8.out e.symm)⟩, ?_⟩)
              go_frame
              obtain ⟨A5, c5, hv5⟩ := hown5.shape
              subst hv5
              refine F_one (i := 12) (s' := #[true, true, true, true, true, true, true, true, true, true, true, true, true]) (by kernel_rfl) (by kernel_rfl) (wpOp_valueL (i := 12) (d := some 3) (w' := w5) (v := .slice A5 (O ++ [(⟨⟨y1, y2, y3, y4, y5, y6, y7⟩, Aa, ca, ls, Ab, cb, ms⟩ : Lsa)]).length c5) rfl rfl (by kernel_rfl) (by go_simp) ⟨fun h => absurd h (by decide), ?_⟩)
              go_frame
              refine F_done (by kernel_rfl) ?_ _
              clear hF hFn hkn hbn hrun hown5 hg5 hor5 X10 M10 B10 HEl hbd
              go_wp2
              go_roundw
              case measure => have := Hlt.out; simp [intOf]; omega
              case rel => exact ⟨k + 1, _, by go_num, Hlt.out, Hy.out _ rfl, X11.out, by have := M11.out; simpa [seenL, keyX, keyH] using this, B11.out⟩
    · have hkk : k = l.length := by omega
      subst hkk
      have hkl : ¬ (l.length : Int) < (l.length : Int) := by omega
      have hi := hst.is
      rw [List.take_length] at hi
      have Hi := Lib.hid hi
      clear hlt hst hi hk
      go_wp2
      go_ret
      exact ⟨⟨_, rfl, O, HSt.out.xs.lower (by have := Hb0.out; omega), Hi.out⟩, by have := HSt.out.bel; rw [Hb0.out] at this; exact this⟩

end Go.Proofs.Ytpfjgecdlilkcaa
