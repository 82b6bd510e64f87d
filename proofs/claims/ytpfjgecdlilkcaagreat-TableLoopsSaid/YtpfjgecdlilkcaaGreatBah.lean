/-
  Layer 20: which descriptions count: the program's way.
-/
import Derived.Laws.BitsLemmas
import Derived.Test.YtpfjgecdlilkcaaGreatBab
import Derived.Test.YtpfjgecdlilkcaaGreatBad
import Derived.Test.YtpfjgecdlilkcaaGreatBaf
import Derived.Test.YtpfjgecdlilkcaaGreatBag
namespace Go.Proofs.YtpfjgecdlilkcaaGreat
open Go.RowKit Go.Sort

/-- who was seen -/
def seenL (O : List Lsa) : List (K3 × Value) := O.map fun x => (keyX x, Value.int .i64 1)
theorem seen_get (k : K3) : ∀ O : List Lsa, getL k (seenL O) = if hasV (O.map vX) k = true then some (.int .i64 1) else none
  | [] => rfl
  | x :: O => by
    have h := seen_get k O
    unfold seenL at h ⊢
    rw [List.map_cons, getL, h]
    unfold hasV
    rw [List.map_cons, List.any_cons, keyV_vX]
    by_cases e : keyX x = k <;> simp [e]
theorem seen_set (k : K3) (O : List Lsa) (h : hasV (O.map vX) k = false) : setL k (.int .i64 1) (seenL O) = seenL O ++ [(k, .int .i64 1)] := by
  cases hl : look k (seenL O) 0 with
  | none => exact (look_none hl).2.2 _
  | some jv =>
    obtain ⟨j, v⟩ := jv
    obtain ⟨n, -, -, h1, -⟩ := look_some hl
    rw [seen_get, h] at h1
    simp at h1
/-- the low bits of a number -/
theorem and15 (x : Int) (h0 : 0 ≤ x) (h1 : x ≤ 63) : bits .and .i64 x 15 = x % 16 :=
  bits_mask .i64 63 (by decide) (fun n h0 h1 => by rw [IntKind.wrap_i64]; omega) 4 (by decide) x h0 (by omega)
theorem right_id {h : Hd} {ka : Option Addr} {kc : Nat} {ls : List Lnk} {ma : Option Addr} {mc : Nat} {ms : List Int} (hr : rightB ⟨h, ka, kc, ls, ma, mc, ms⟩ = true) (h2 : h.kind = 2) : 0 ≤ h.id ∧ h.id ≤ 63 := by
  unfold rightB at hr
  rw [if_neg (by simp only; omega)] at hr
  simp only [Bool.and_eq_true, inB_iff] at hr
  exact hr.2.1.1
theorem zeroI20 (w : World) : (zeroValue 3).run Tryz.prog w = .ok (.int .i64 0) w := by kernel_rfl
theorem cnt_split (h : Hd) (ka : Option Addr) (kc : Nat) (ls : List Lnk) (ma : Option Addr) (mc : Nat) (ms : List Int) :
    (rightB ⟨h, ka, kc, ls, ma, mc, ms⟩ = false ∧ cntV (h, ls, ms) = false) ∨ (rightB ⟨h, ka, kc, ls, ma, mc, ms⟩ = true ∧ ((h.age = 60 ∧ cntV (h, ls, ms) = false) ∨ (h.age ≠ 60 ∧ ((h.kind = 2 ∧ ¬ h.id % 16 = h.adv ∧ cntV (h, ls, ms) = false) ∨ (h.kind ≠ 2 ∧ cntV (h, ls, ms) = true) ∨ (h.kind = 2 ∧ h.id % 16 = h.adv ∧ cntV (h, ls, ms) = true))))) := by
  have e : rightB (xV (h, ls, ms)) = rightB ⟨h, ka, kc, ls, ma, mc, ms⟩ := rfl
  unfold cntV
  rw [e]
  cases rightB ⟨h, ka, kc, ls, ma, mc, ms⟩ with
  | false => exact .inl ⟨rfl, rfl⟩
  | true =>
    refine .inr ⟨rfl, ?_⟩
    by_cases h1 : h.age = 60
    · exact .inl ⟨h1, by simp [h1]⟩
    · refine .inr ⟨h1, ?_⟩
      by_cases h2 : h.kind = 2
      · by_cases h3 : h.id % 16 = h.adv
        · exact .inr (.inr ⟨h2, h3, by simp [h1, h3]⟩)
        · exact .inl ⟨h2, h3, by simp [h2, h3]⟩
      · exact .inr (.inl ⟨h2, by simp [h1, h2]⟩)
/-- what lies in memory behind so many rounds -/
structure CntSt (w wr : World) (b : Nat) (l : List Lsa) (k : Nat) (v : Value) (O : List Lsa) : Prop where
  is : O.map vX = countsV ((l.take k).map vX)
  xs : XsAt wr (b + 1) v O
  map : MapAt K3.enc wr b (seenL O)
  bel : Below w.heap.size w wr
theorem cnt_no {l : List Lsa} {k : Nat} (hk : k < l.length) {O : List Lsa} (h : O.map vX = countsV ((l.take k).map vX)) (hn : cntV (vX l[k]) = false ∨ hasV (O.map vX) (keyV (vX l[k])) = true) : O.map vX = countsV ((l.take (k + 1)).map vX) := by
  rw [List.take_succ_eq_append_getElem hk, List.map_append, List.map_singleton, countsV_snoc, ← h]
  unfold addV
  rw [if_neg]
  rintro ⟨h1, h2⟩
  rcases hn with hn | hn
  · rw [hn] at h1; cases h1
  · rw [hn] at h2; cases h2
theorem cnt_yes {l : List Lsa} {k : Nat} (hk : k < l.length) {O : List Lsa} {x : Lsa} (h : O.map vX = countsV ((l.take k).map vX)) (hx : vX x = vX l[k]) (hc : cntV (vX l[k]) = true) (hn : hasV (O.map vX) (keyV (vX l[k])) = false) : (O ++ [x]).map vX = countsV ((l.take (k + 1)).map vX) := by
  rw [List.take_succ_eq_append_getElem hk, List.map_append, List.map_append, List.map_singleton, List.map_singleton, countsV_snoc, ← h, hx]
  unfold addV
  rw [if_pos ⟨hc, hn⟩]

set_option maxHeartbeats 16000000 in
set_option maxRecDepth 100000 in
theorem Counts_any (A : Option Addr) (cap : Nat) (l : List Lsa) (w : World) (hl : RowsAt 9 Lsa.cells w w.heap.size A l) (he : ∀ x ∈ l, RowsAt 4 Lnk.cells w w.heap.size x.ka x.links ∧ RowsAt 1 icell w w.heap.size x.ma x.members) (hlens : ∀ x ∈ l, x.links.length ≤ 1000 ∧ x.members.length ≤ 1000) (hm : l.length ≤ 2 ^ 16) (nn : Nat) (hnn : nn = l.length) :
    Calls Tryz.prog 29 #[.slice A nn cap] w fun r w' => (∃ v, r = .returned v ∧ ∃ O, XsAt w' w.heap.size v O ∧ O.map vX = countsV (l.map vX)) ∧ Below w.heap.size w w' := by
  subst hnn
  obtain ⟨b, hb⟩ : ∃ b, w.heap.size = b := ⟨_, rfl⟩
  have HL := Lib.hid hl
  have HE := Lib.hid he
  have Hlens := Lib.hid hlens
  have Hb0 := Lib.hid hb
  have hmm := @run_makeMap Tryz.prog
  have hm' : (l.length : Int) ≤ 9223372036854775807 := by omega
  have HS0 := Lib.hid (show CntSt w (w.alloc (.map #[] 0)) b l 0 (.slice none 0 0) [] from ⟨rfl, XsAt.nil _ _, by rw [← hb]; exact MapAt.new w, (Below.refl _ _).alloc (Nat.le_refl _) _⟩)
  clear hl he hlens
  go_enter Tryz.func29, Tryz.ntmps29
  go_wp2
  clear hmm
  go_loopw [3, 11] (fun v i wr => ∃ (k : Nat) (O : List Lsa), i = .int .i64 k ∧ k ≤ l.length ∧ CntSt w wr b l k v O) (fun _ i _ => l.length - (intOf i).toNat)
  case atStart => exact ⟨0, [], rfl, Nat.zero_le _, HS0.out⟩
  case round =>
    obtain ⟨k, O, rfl, hk, hst⟩ := hrel
    clear HS0
    obtain ⟨A7, c7, hv7⟩ := hst.xs.own.shape
    subst hv7
    have HSt := Lib.hid hst
    by_cases hlt : k < l.length
    · obtain ⟨g, o, hA, -, x0, x1, x2, x3, x4, x5, x6, x7, x8⟩ := row_lsa9b (HL.out.below hst.bel) k hlt
      have hok := HE.out l[k] (List.getElem_mem hlt)
      have hln := Hlens.out l[k] (List.getElem_mem hlt)
      have hkl : (k : Int) < (l.length : Int) := by omega
      have hno := cnt_no hlt hst.is
      have hyes := fun x => cnt_yes (x := x) hlt hst.is
      have hOl : O.length ≤ 2 ^ 20 := by
        have h1 := congrArg List.length hst.is
        have h2 := countsV_len ((l.take k).map vX)
        rw [List.length_map] at h1 h2
        rw [List.length_take] at h2
        omega
      have HA := Lib.hid hA
      rw [hA]
      have Hlt := Lib.hid hlt
      generalize l[k] = x at *
      obtain ⟨⟨y1, y2, y3, y4, y5, y6, y7⟩, ka, kc, ls, ma, mc, ms⟩ := x
      have hls := hok.1
      have hms := hok.2
      simp only at x0 x1 x2 x3 x4 x5 x6 x7 x8 hln hls hms
      change cntV (⟨y1, y2, y3, y4, y5, y6, y7⟩, ls, ms) = false ∨ hasV (O.map vX) ⟨y2, y3, y4⟩ = true → _ at hno
      change ∀ x, vX x = (⟨y1, y2, y3, y4, y5, y6, y7⟩, ls, ms) → cntV (⟨y1, y2, y3, y4, y5, y6, y7⟩, ls, ms) = true → hasV (O.map vX) ⟨y2, y3, y4⟩ = false → _ at hyes
      obtain ⟨nl, hnl⟩ : ∃ nl, nl = ls.length := ⟨_, rfl⟩
      obtain ⟨nm, hnm⟩ : ∃ nm, nm = ms.length := ⟨_, rfl⟩
      rw [← hnl] at x7
      rw [← hnm] at x8
      have hcs := cnt_split ⟨y1, y2, y3, y4, y5, y6, y7⟩ ka kc ls ma mc ms
      have Hnl := Lib.hid (show nl = ls.length ∧ ls.length ≤ 1000 from ⟨hnl, hln.1⟩)
      have Hnm := Lib.hid (show nm = ms.length ∧ ms.length ≤ 1000 from ⟨hnm, hln.2⟩)
      have Hno := Lib.hid hno
      have Hyes := Lib.hid hyes
      have HOl := Lib.hid hOl
      have HL9 := Lib.hid hls
      have HM9 := Lib.hid hms
      obtain ⟨w8, hw8⟩ : ∃ w8, wr.alloc (.cells #[.int .i64 y1, .int .i64 y2, .int .i64 y3, .int .i64 y4, .int .i64 y5, .int .i64 y6, .int .i64 y7, .slice ka nl kc, .slice ma nm mc] 41) = w8 := ⟨_, rfl⟩
      obtain ⟨g8, hg8⟩ : ∃ g8, wr.heap.size = g8 := ⟨_, rfl⟩
      have hk8 := Blk.new wr 41 #[.int .i64 y1, .int .i64 y2, .int .i64 y3, .int .i64 y4, .int .i64 y5, .int .i64 y6, .int .i64 y7, .slice ka nl kc, .slice ma nm mc]
      have hb8 := below_new wr (.cells #[.int .i64 y1, .int .i64 y2, .int .i64 y3, .int .i64 y4, .int .i64 y5, .int .i64 y6, .int .i64 y7, .slice ka nl kc, .slice ma nm mc] 41)
      rw [hw8, hg8] at hk8
      rw [hw8] at hb8
      have K8 := Lib.hid hk8
      have X8 := Lib.hid (hst.xs.keep hb8)
      have M8 := Lib.hid (hst.map.below hb8 hst.map.lt)
      have B8 := Lib.hid (below_trans hst.bel hst.bel.size hb8)
      have Hg8 := Lib.hid (show (Value.slice A7 O.length c7).ownBlock ≠ some g8 from fun e => by have := (hst.xs.own.block _ e).2; omega)
      have Hgb := Lib.hid (show g8 ≠ b from fun e => by have := hst.map.lt; omega)
      obtain ⟨z0, z1, z2, z3, z4, z5, z6, z7, z8, zf⟩ := blk9 hk8
      clear hnl hnm hA hlt hk8 hb8 hk hst hok hln hls hms hno hyes hOl
      go_wp2_with fail
      with_reducible refine Calls.mono (keyOf_any _ _ _ _ _ _ _ _) ?_
      rintro r wk ⟨rfl, hbk⟩
      obtain ⟨wa, hwa⟩ : ∃ wa, wk.alloc (.cells #[.int .i64 y2, .int .i64 y3, .int .i64 y4] 80) = wa := ⟨_, rfl⟩
      obtain ⟨g9, hg9⟩ : ∃ g9, wk.heap.size = g9 := ⟨_, rfl⟩
      have hk9 := Blk.new wk 80 #[.int .i64 y2, .int .i64 y3, .int .i64 y4]
      have hb9 := below_new wk (.cells #[.int .i64 y2, .int .i64 y3, .int .i64 y4] 80)
      rw [hwa, hg9] at hk9
      rw [hwa] at hb9
      have hbk9 := below_trans hbk hbk.size hb9
      have K9a := Lib.hid (K8.out.below hbk9 K8.out.lt)
      have Q9a := Lib.hid hk9
      have X9a := Lib.hid (X8.out.keep hbk9)
      have M9a := Lib.hid (M8.out.below hbk9 M8.out.lt)
      have B9a := Lib.hid (below_trans B8.out B8.out.size hbk9)
      have Hg9b := Lib.hid (show g9 ≠ b from fun e => by have := M8.out.lt; have := hbk.size; omega)
      clear hbk hk9 hb9 hbk9 z0 z1 z2 z3 z4 z5 z6 z7 z8 zf
      obtain ⟨z0, z1, z2, z3, z4, z5, z6, z7, z8, zf⟩ := blk9 K9a.out
      obtain ⟨q0, q1, q2⟩ : _ ∧ _ ∧ _ := ⟨Q9a.out.cell 0, Q9a.out.cell 1, Q9a.out.cell 2⟩
      simp only [List.getElem?_toArray, List.getElem?_cons_zero, List.getElem?_cons_succ] at q0 q1 q2
      have HR := Lib.hid (fun t ht => lsaRight_any y1 y2 y3 y4 y5 y6 y7 ka kc ls ma mc ms wa w.heap.size (HL9.out.below B9a.out) (HM9.out.below B9a.out) B9a.out.size (by have := Hnl.out.2; unfold maxLen; omega) (by have := Hnm.out.2; unfold maxLen; omega) nl nm Hnl.out.1 Hnm.out.1 (t := t) ht)
      rcases hcs with ⟨hr, hc⟩ | ⟨hr, hcs⟩
      · have HR2 := Lib.hid (HR.out false hr)
        have Hn := Lib.hid (Hno.out (.inl hc))
        clear hr hc
        go_wp2_with fail
        with_reducible refine Calls.mono HR2.out ?_
        rintro r w10 ⟨rfl, hb10⟩
        have HS := Lib.hid (show CntSt w w10 b l (k + 1) _ O from ⟨Hn.out, X9a.out.keep hb10, M9a.out.below hb10 M9a.out.lt, below_trans B9a.out B9a.out.size hb10⟩)
        clear hb10 z0 z1 z2 z3 z4 z5 z6 z7 z8 zf q0 q1 q2
        go_wp2
        go_roundw
        case measure => have := Hlt.out; simp [intOf]; omega
        case rel => exact ⟨k + 1, O, by go_num, Hlt.out, HS.out⟩
      · have HR2 := Lib.hid (HR.out true hr)
        have Hr2 := Lib.hid hr
        clear hr
        go_wp2_with fail
        with_reducible refine Calls.mono HR2.out ?_
        rintro r wc ⟨rfl, hb10⟩
        have Kc := Lib.hid (K9a.out.below hb10 K9a.out.lt)
        have Qc := Lib.hid (Q9a.out.below hb10 Q9a.out.lt)
        have Xc := Lib.hid (X9a.out.keep hb10)
        have Mc := Lib.hid (M9a.out.below hb10 M9a.out.lt)
        have Bc := Lib.hid (below_trans B9a.out B9a.out.size hb10)
        have HSk := Lib.hid (fun (h : cntV (⟨y1, y2, y3, y4, y5, y6, y7⟩, ls, ms) = false ∨ hasV (O.map vX) ⟨y2, y3, y4⟩ = true) => (show CntSt w wc b l (k + 1) _ O from ⟨Hno.out h, Xc.out, Mc.out, Bc.out⟩))
        have hlk := Mc.out.look_run keyK3 Tryz.underlying132 (zeroI20 _) ⟨y2, y3, y4⟩ false
        rw [seen_get] at hlk
        clear hb10 z0 z1 z2 z3 z4 z5 z6 z7 z8 zf q0 q1 q2
        obtain ⟨z0, z1, z2, z3, z4, z5, z6, z7, z8, zf⟩ := blk9 Kc.out
        obtain ⟨q0, q1, q2⟩ : _ ∧ _ ∧ _ := ⟨Qc.out.cell 0, Qc.out.cell 1, Qc.out.cell 2⟩
        simp only [List.getElem?_toArray, List.getElem?_cons_zero, List.getElem?_cons_succ] at q0 q1 q2
        have hor : (y1 = 60 ∧ cntV (⟨y1, y2, y3, y4, y5, y6, y7⟩, ls, ms) = false) ∨ (y1 ≠ 60 ∧ ((y2 = 2 ∧ ¬ y3 % 16 = y4 ∧ cntV (⟨y1, y2, y3, y4, y5, y6, y7⟩, ls, ms) = false) ∨ (¬ y2 = 2 ∧ cntV (⟨y1, y2, y3, y4, y5, y6, y7⟩, ls, ms) = true) ∨ (y2 = 2 ∧ y3 % 16 = y4 ∧ cntV (⟨y1, y2, y3, y4, y5, y6, y7⟩, ls, ms) = true))) := hcs
        clear hcs
        rcases hor with ⟨h60, hc⟩ | ⟨h60, ⟨h2, h3, hc⟩ | hor⟩
        · have HS := Lib.hid (HSk.out (.inl hc))
          subst h60
          clear hc hlk
          go_wp2
          go_roundw
          case measure => have := Hlt.out; simp [intOf]; omega
          case rel => exact ⟨k + 1, O, by go_num, Hlt.out, HS.out⟩
        · have HS := Lib.hid (HSk.out (.inl hc))
          have hid := right_id Hr2.out h2
          have hand := and15 y3 hid.1 hid.2
          subst h2
          clear hc hlk hid
          go_wp2
          go_roundw
          case measure => have := Hlt.out; simp [intOf]; omega
          case rel => exact ⟨k + 1, O, by go_num, Hlt.out, HS.out⟩
        · cases hhas : hasV (O.map vX) ⟨y2, y3, y4⟩ with
          | true =>
            rw [hhas] at hlk
            simp only [if_true, K3.enc, Option.getD, Bool.false_eq_true, if_false] at hlk
            have HS := Lib.hid (HSk.out (.inr hhas))
            rcases hor with ⟨h2, hc⟩ | ⟨h2, h3, hc⟩
            · clear hc hhas
              go_wp2
              go_roundw
              case measure => have := Hlt.out; simp [intOf]; omega
              case rel => exact ⟨k + 1, O, by go_num, Hlt.out, HS.out⟩
            · have hid := right_id Hr2.out h2
              have hand := and15 y3 hid.1 hid.2
              subst h2
              clear hc hhas hid
              go_wp2
              go_roundw
              case measure => have := Hlt.out; simp [intOf]; omega
              case rel => exact ⟨k + 1, O, by go_num, Hlt.out, HS.out⟩
          | false =>
            rw [hhas] at hlk
            simp only [K3.enc, Option.getD, Bool.false_eq_true, if_false] at hlk
            have hc : cntV (⟨y1, y2, y3, y4, y5, y6, y7⟩, ls, ms) = true := hor.elim (fun h => h.2) (fun h => h.2.2)
            have Hy := Lib.hid (fun x hx => Hyes.out x hx hc hhas)
            have Hhas := Lib.hid hhas
            clear hc hhas
            have hand : y2 = 2 → bits .and .i64 y3 15 = y4 := fun h2 => by
              have hid := right_id Hr2.out h2
              rw [and15 y3 hid.1 hid.2]
              exact hor.elim (fun h => absurd h2 h.1) (fun h => h.2.1)
            clear hor
            by_cases h2 : y2 = 2
            · subst h2
              have hand2 := hand rfl
              clear hand
              go_wp2_with (at_mapUpdate; (refine wpList_update_st _ (by rfl) _ _ _ 132 (by rfl) 80 3 keyK3 Tryz.underlying132 (by rfl) Mc.out ⟨2, y3, y4⟩ (by rfl) (.int .i64 1) (by rfl) ?_); intro w9 hm13 hg13 hs13; rw [seen_set _ _ Hhas.out] at hm13; have M9 := Lib.hid hm13; have K9 := Lib.hid (Kc.out.grown hg13 (fun e => Hgb.out (by injection e))); have X9 := Lib.hid (Xc.out.iter hg13 (Nat.lt_succ_self b)); have B9 := Lib.hid (Bc.out.grown hg13 Bc.out.size (fun m e => by injection e with e; rw [← e, Hb0.out]; exact Nat.le_refl _)); have HB9 := Lib.hid (show b < w9.heap.size from hm13.lt); clear hm13 hg13 hs13 z0 z1 z2 z3 z4 z5 z6 z7 z8 zf q0 q1 q2)
              refine wp_region_F (F := fun W => Below w.heap.size w W ∧ Blk W g8 41 #[.int .i64 y1, .int .i64 2, .int .i64 y3, .int .i64 y4, .int .i64 y5, .int .i64 y6, .int .i64 y7, .slice ka nl kc, .slice ma nm mc]) (n := 12) (m := 13) (s := #[false, false, false, false, false, false, false, false, false, false, false, false, false]) (by kernel_rfl) (by kernel_rfl) (by kernel_rfl) ?_
              intro wd hwd
              have hbd : Below w9.heap.size w9 wd := by rw [hwd.out]; exact (Below.refl _ _).drew
              have hF : Below w.heap.size w wd ∧ Blk wd g8 41 #[.int .i64 y1, .int .i64 2, .int .i64 y3, .int .i64 y4, .int .i64 y5, .int .i64 y6, .int .i64 y7, .slice ka nl kc, .slice ma nm mc] := ⟨below_trans B9.out B9.out.size hbd, K9.out.below hbd K9.out.lt⟩
              clear hwd
              refine F_take (i := 0) (d := some 48) (by kernel_rfl) (by kernel_rfl) (by decide) (s' := #[true, false, false, false, false, false, false, false, false, false, false, false, false]) (by kernel_rfl) rfl rfl (by kernel_rfl) (by kernel_rfl) (by kernel_rfl) (fun _ _ _ h => h) (Or.inl ⟨by kernel_rfl, fun W hW => by obtain ⟨x0, x1, x2, x3, x4, x5, x6, x7, x8, -⟩ := blk9 hW.2; go_simp; try with_reducible rfl⟩) hF ?_
              go_frame
              refine F_take (i := 1) (d := some 49) (by kernel_rfl) (by kernel_rfl) (by decide) (s' := #[true, true, false, false, false, false, false, false, false, false, false, false, false]) (by kernel_rfl) rfl rfl (by kernel_rfl) (by kernel_rfl) (by kernel_rfl) (fun _ _ _ h => h) (Or.inl ⟨by kernel_rfl, fun W hW => by obtain ⟨x0, x1, x2, x3, x4, x5, x6, x7, x8, -⟩ := blk9 hW.2; go_simp; try with_reducible rfl⟩) hF ?_
              go_frame
              refine F_take (i := 3) (d := some 51) (by kernel_rfl) (by kernel_rfl) (by decide) (s' := #[true, true, false, true, false, false, false, false, false, false, false, false, false]) (by kernel_rfl) rfl rfl (by kernel_rfl) (by kernel_rfl) (by kernel_rfl) (fun _ _ _ h => h) (Or.inl ⟨by kernel_rfl, fun W hW => by obtain ⟨x0, x1, x2, x3, x4, x5, x6, x7, x8, -⟩ := blk9 hW.2; go_simp; try with_reducible rfl⟩) hF ?_
              go_frame
              refine F_take (i := 6) (d := some 54) (by kernel_rfl) (by kernel_rfl) (by decide) (s' := #[true, true, false, true, false, false, true, false, false, false, false, false, false]) (by kernel_rfl) rfl rfl (by kernel_rfl) (by kernel_rfl) (by kernel_rfl) (fun _ _ _ h => h) (Or.inl ⟨by kernel_rfl, fun W hW => by obtain ⟨x0, x1, x2, x3, x4, x5, x6, x7, x8, -⟩ := blk9 hW.2; go_simp; try with_reducible rfl⟩) hF ?_
              go_frame
              refine F_take (i := 2) (d := some 50) (by kernel_rfl) (by kernel_rfl) (by decide) (s' := #[true, true, true, true, false, false, true, false, false, false, false, false, false]) (by kernel_rfl) rfl rfl (by kernel_rfl) (by kernel_rfl) (by kernel_rfl) (fun _ _ _ h => h) (Or.inl ⟨by kernel_rfl, fun W hW => by obtain ⟨x0, x1, x2, x3, x4, x5, x6, x7, x8, -⟩ := blk9 hW.2; go_simp; try with_reducible rfl⟩) hF ?_
              go_frame
              refine F_take (i := 4) (d := some 52) (by kernel_rfl) (by kernel_rfl) (by decide) (s' := #[true, true, true, true, true, false, true, false, false, false, false, false, false]) (by kernel_rfl) rfl rfl (by kernel_rfl) (by kernel_rfl) (by kernel_rfl) (fun _ _ _ h => h) (Or.inl ⟨by kernel_rfl, fun W hW => by obtain ⟨x0, x1, x2, x3, x4, x5, x6, x7, x8, -⟩ := blk9 hW.2; go_simp; try with_reducible rfl⟩) hF ?_
              go_frame
              refine F_take (i := 7) (d := some 55) (by kernel_rfl) (by kernel_rfl) (by decide) (s' := #[true, true, true, true, true, false, true, true, false, false, false, false, false]) (by kernel_rfl) rfl rfl (by kernel_rfl) (by kernel_rfl) (by kernel_rfl) (fun _ _ _ h => h) (Or.inl ⟨by kernel_rfl, fun W hW => by obtain ⟨x0, x1, x2, x3, x4, x5, x6, x7, x8, -⟩ := blk9 hW.2; go_simp; try with_reducible rfl⟩) hF ?_
              go_frame
              refine F_one (i := 5) (s' := #[true, true, true, true, true, true, true, true, false, false, false, false, false]) (by kernel_rfl) (by kernel_rfl) (wpOp_enterL (i := 5) (d := some 53) (f := 59) (args := #[.slice ka nl kc]) rfl rfl (by kernel_rfl) (by go_simp) ((cloneLnk ka kc ls wd w.heap.size (HL9.out.below hF.1) hF.1.size (by have := Hnl.out.2; omega) nl Hnl.out.1).mono ?_))
              rintro r v5w ⟨va, rfl, oA, hb5⟩
              obtain ⟨Aa, ca, rfl⟩ : ∃ A c, va = .slice A nl c := by obtain ⟨A, c, e⟩ := oA.shape; exact ⟨A, c, by rw [e, Hnl.out.1]⟩
              have oA := OwnR.lower oA hbd.size
              have hbd := below_trans hbd hbd.size hb5
              have hF : Below w.heap.size w v5w ∧ Blk v5w g8 41 #[.int .i64 y1, .int .i64 2, .int .i64 y3, .int .i64 y4, .int .i64 y5, .int .i64 y6, .int .i64 y7, .slice ka nl kc, .slice ma nm mc] := ⟨below_trans hF.1 hF.1.size hb5, hF.2.below hb5 hF.2.lt⟩
              refine ⟨_, rfl, fun _ => hF, ?_⟩
              go_frame
              clear hb5
              refine F_one (i := 8) (s' := #[true, true, true, true, true, true, true, true, true, false, false, false, false]) (by kernel_rfl) (by kernel_rfl) (wpOp_enterL (i := 8) (d := some 56) (f := 60) (args := #[.slice ma nm mc]) rfl rfl (by kernel_rfl) (by go_simp) ((cloneInt ma mc ms v5w w.heap.size (HM9.out.below hF.1) hF.1.size (by have := Hnm.out.2; omega) nm Hnm.out.1).mono ?_))
              rintro r v8w ⟨vb, rfl, oB, hb8⟩
              obtain ⟨Ab, cb, rfl⟩ : ∃ A c, vb = .slice A nm c := by obtain ⟨A, c, e⟩ := oB.shape; exact ⟨A, c, by rw [e, Hnm.out.1]⟩
              have oA := OwnR.below oA hb8
              have oB := OwnR.lower oB hbd.size
              have hbd := below_trans hbd hbd.size hb8
              have hF : Below w.heap.size w v8w ∧ Blk v8w g8 41 #[.int .i64 y1, .int .i64 2, .int .i64 y3, .int .i64 y4, .int .i64 y5, .int .i64 y6, .int .i64 y7, .slice ka nl kc, .slice ma nm mc] := ⟨below_trans hF.1 hF.1.size hb8, hF.2.below hb8 hF.2.lt⟩
              refine ⟨_, rfl, fun _ => hF, ?_⟩
              go_frame
              clear hb8
              refine F_take (i := 9) (d := some 57) (by kernel_rfl) (by kernel_rfl) (by decide) (s' := #[true, true, true, true, true, true, true, true, true, true, false, false, false]) (by kernel_rfl) rfl rfl (by kernel_rfl) (by kernel_rfl) (by kernel_rfl) (fun _ _ _ h => h) (Or.inl ⟨by kernel_rfl, fun W hW => by obtain ⟨x0, x1, x2, x3, x4, x5, x6, x7, x8, -⟩ := blk9 hW.2; go_simp; try with_reducible rfl⟩) hF ?_
              go_frame
              have HEl := seal_el (q := b) (h := ⟨y1, 2, y3, y4, y5, y6, y7⟩) X9.out.own HB9.out Hnl.out.1 Hnm.out.1 Hnl.out.2 Hnm.out.2 oA oB
              have X10 := X9.out.keep hbd
              have M10 := M9.out.below hbd M9.out.lt
              have B10 := hF.1
              clear oA oB
              have hbn := below_new v8w (.cells #[.int .i64 y1, .int .i64 2, .int .i64 y3, .int .i64 y4, .int .i64 y5, .int .i64 y6, .int .i64 y7, .slice Aa nl ca, .slice Ab nm cb] 41)
              have hFn : Below w.heap.size w (v8w.alloc (.cells #[.int .i64 y1, .int .i64 2, .int .i64 y3, .int .i64 y4, .int .i64 y5, .int .i64 y6, .int .i64 y7, .slice Aa nl ca, .slice Ab nm cb] 41)) ∧ Blk (v8w.alloc (.cells #[.int .i64 y1, .int .i64 2, .int .i64 y3, .int .i64 y4, .int .i64 y5, .int .i64 y6, .int .i64 y7, .slice Aa nl ca, .slice Ab nm cb] 41)) g8 41 #[.int .i64 y1, .int .i64 2, .int .i64 y3, .int .i64 y4, .int .i64 y5, .int .i64 y6, .int .i64 y7, .slice ka nl kc, .slice ma nm mc] := ⟨below_trans hF.1 hF.1.size hbn, hF.2.below hbn hF.2.lt⟩
              refine F_one (i := 10) (s' := #[true, true, true, true, true, true, true, true, true, true, true, false, false]) (by kernel_rfl) (by kernel_rfl) (wpOp_valueL (i := 10) (d := some 58) (w' := v8w.alloc (.cells #[.int .i64 y1, .int .i64 2, .int .i64 y3, .int .i64 y4, .int .i64 y5, .int .i64 y6, .int .i64 y7, .slice Aa nl ca, .slice Ab nm cb] 41)) (v := .slice (some ⟨v8w.heap.size, 0, none⟩) 1 1) rfl rfl (by kernel_rfl) (by go_simp) ⟨fun _ => hFn, ?_⟩)
              go_frame
              have hkn : Blk (v8w.alloc (.cells #[.int .i64 y1, .int .i64 2, .int .i64 y3, .int .i64 y4, .int .i64 y5, .int .i64 y6, .int .i64 y7, .slice Aa nl ca, .slice Ab nm cb] 41)) v8w.heap.size 41 (Lsa.cells ⟨⟨y1, 2, y3, y4, y5, y6, y7⟩, Aa, ca, ls, Ab, cb, ms⟩).toArray := by unfold Lsa.cells; simp only; rw [← Hnl.out.1, ← Hnm.out.1]; exact Blk.new _ _ _
              obtain ⟨v5, w5, hrun, hown5, hg5, hor5⟩ := app_row_run (e := 41) (sl := 22) Lsa.cells (fun _ => rfl) (by decide) (bytes := 104) (by decide) infoX rfl Tryz.underlying22 onesX 22 (b + 1) (.slice A7 O.length c7) O (X10.own.below hbn) v8w.heap.size ⟨⟨y1, 2, y3, y4, y5, y6, y7⟩, Aa, ca, ls, Ab, cb, ms⟩ hkn (by have := HOl.out; omega) (by have := M10.lt; simp; omega)
              have X11 := Lib.hid ((X10.keep hbn).app hown5 hg5 hor5 (HEl.1.keep hbn) HEl.2.1 HEl.2.2.1 HEl.2.2.2)
              have M11 := Lib.hid ((M10.below hbn M10.lt).grown hg5 (fun e => by have := (X10.own.block _ e.symm).1; omega))
              have B11 := Lib.hid (show Below w.heap.size w w5 from (below_trans B10 B10.size hbn).grown hg5 (Nat.le_trans B10.size hbn.size) (fun m e => by have := (X10.own.block m e).1; have := Hb0.out; omega))
              refine F_one (i := 11) (s' := #[true, true, true, true, true, true, true, true, true, true, true, true, false]) (by kernel_rfl) (by kernel_rfl) (wpOp_appendL (i := 11) (d := some 59) (t := 22) rfl rfl rfl (by kernel_rfl) rfl (by rfl) (by rfl) hrun ⟨fun _ => ⟨B11.out, hFn.2.grown hg5 (fun e => Hg8.out e.symm)⟩, ?_⟩)
              go_frame
              obtain ⟨A5, c5, hv5⟩ := hown5.shape
              subst hv5
              refine F_one (i := 12) (s' := #[true, true, true, true, true, true, true, true, true, true, true, true, true]) (by kernel_rfl) (by kernel_rfl) (wpOp_valueL (i := 12) (d := some 3) (w' := w5) (v := .slice A5 (O ++ [(⟨⟨y1, 2, y3, y4, y5, y6, y7⟩, Aa, ca, ls, Ab, cb, ms⟩ : Lsa)]).length c5) rfl rfl (by kernel_rfl) (by go_simp) ⟨fun h => absurd h (by decide), ?_⟩)
              go_frame
              refine F_done (by kernel_rfl) ?_ _
              clear hF hFn hkn hbn hrun hown5 hg5 hor5 X10 M10 B10 HEl hbd
              go_wp2
              go_roundw
              case measure => have := Hlt.out; simp [intOf]; omega
              case rel => exact ⟨k + 1, _, by go_num, Hlt.out, Hy.out _ rfl, X11.out, by have := M11.out; simpa [seenL, keyX, keyH] using this, B11.out⟩
            · clear hand
              go_wp2_with (at_mapUpdate; (refine wpList_update_st _ (by rfl) _ _ _ 132 (by rfl) 80 3 keyK3 Tryz.underlying132 (by rfl) Mc.out ⟨y2, y3, y4⟩ (by rfl) (.int .i64 1) (by rfl) ?_); intro w9 hm13 hg13 hs13; rw [seen_set _ _ Hhas.out] at hm13; have M9 := Lib.hid hm13; have K9 := Lib.hid (Kc.out.grown hg13 (fun e => Hgb.out (by injection e))); have X9 := Lib.hid (Xc.out.iter hg13 (Nat.lt_succ_self b)); have B9 := Lib.hid (Bc.out.grown hg13 Bc.out.size (fun m e => by injection e with e; rw [← e, Hb0.out]; exact Nat.le_refl _)); have HB9 := Lib.hid (show b < w9.heap.size from hm13.lt); clear hm13 hg13 hs13 z0 z1 z2 z3 z4 z5 z6 z7 z8 zf q0 q1 q2)
              refine wp_region_F (F := fun W => Below w.heap.size w W ∧ Blk W g8 41 #[.int .i64 y1, .int .i64 y2, .int .i64 y3, .int .i64 y4, .int .i64 y5, .int .i64 y6, .int .i64 y7, .slice ka nl kc, .slice ma nm mc]) (n := 12) (m := 13) (s := #[false, false, false, false, false, false, false, false, false, false, false, false, false]) (by kernel_rfl) (by kernel_rfl) (by kernel_rfl) ?_
              intro wd hwd
              have hbd : Below w9.heap.size w9 wd := by rw [hwd.out]; exact (Below.refl _ _).drew
              have hF : Below w.heap.size w wd ∧ Blk wd g8 41 #[.int .i64 y1, .int .i64 y2, .int .i64 y3, .int .i64 y4, .int .i64 y5, .int .i64 y6, .int .i64 y7, .slice ka nl kc, .slice ma nm mc] := ⟨below_trans B9.out B9.out.size hbd, K9.out.below hbd K9.out.lt⟩
              clear hwd
              refine F_take (i := 0) (d := some 48) (by kernel_rfl) (by kernel_rfl) (by decide) (s' := #[true, false, false, false, false, false, false, false, false, false, false, false, false]) (by kernel_rfl) rfl rfl (by kernel_rfl) (by kernel_rfl) (by kernel_rfl) (fun _ _ _ h => h) (Or.inl ⟨by kernel_rfl, fun W hW => by obtain ⟨x0, x1, x2, x3, x4, x5, x6, x7, x8, -⟩ := blk9 hW.2; go_simp; try with_reducible rfl⟩) hF ?_
              go_frame
              refine F_take (i := 1) (d := some 49) (by kernel_rfl) (by kernel_rfl) (by decide) (s' := #[true, true, false, false, false, false, false, false, false, false, false, false, false]) (by kernel_rfl) rfl rfl (by kernel_rfl) (by kernel_rfl) (by kernel_rfl) (fun _ _ _ h => h) (Or.inl ⟨by kernel_rfl, fun W hW => by obtain ⟨x0, x1, x2, x3, x4, x5, x6, x7, x8, -⟩ := blk9 hW.2; go_simp; try with_reducible rfl⟩) hF ?_
              go_frame
              refine F_take (i := 3) (d := some 51) (by kernel_rfl) (by kernel_rfl) (by decide) (s' := #[true, true, false, true, false, false, false, false, false, false, false, false, false]) (by kernel_rfl) rfl rfl (by kernel_rfl) (by kernel_rfl) (by kernel_rfl) (fun _ _ _ h => h) (Or.inl ⟨by kernel_rfl, fun W hW => by obtain ⟨x0, x1, x2, x3, x4, x5, x6, x7, x8, -⟩ := blk9 hW.2; go_simp; try with_reducible rfl⟩) hF ?_
              go_frame
              refine F_take (i := 6) (d := some 54) (by kernel_rfl) (by kernel_rfl) (by decide) (s' := #[true, true, false, true, false, false, true, false, false, false, false, false, false]) (by kernel_rfl) rfl rfl (by kernel_rfl) (by kernel_rfl) (by kernel_rfl) (fun _ _ _ h => h) (Or.inl ⟨by kernel_rfl, fun W hW => by obtain ⟨x0, x1, x2, x3, x4, x5, x6, x7, x8, -⟩ := blk9 hW.2; go_simp; try with_reducible rfl⟩) hF ?_
              go_frame
              refine F_take (i := 2) (d := some 50) (by kernel_rfl) (by kernel_rfl) (by decide) (s' := #[true, true, true, true, false, false, true, false, false, false, false, false, false]) (by kernel_rfl) rfl rfl (by kernel_rfl) (by kernel_rfl) (by kernel_rfl) (fun _ _ _ h => h) (Or.inl ⟨by kernel_rfl, fun W hW => by obtain ⟨x0, x1, x2, x3, x4, x5, x6, x7, x8, -⟩ := blk9 hW.2; go_simp; try with_reducible rfl⟩) hF ?_
              go_frame
              refine F_take (i := 4) (d := some 52) (by kernel_rfl) (by kernel_rfl) (by decide) (s' := #[true, true, true, true, true, false, true, false, false, false, false, false, false]) (by kernel_rfl) rfl rfl (by kernel_rfl) (by kernel_rfl) (by kernel_rfl) (fun _ _ _ h => h) (Or.inl ⟨by kernel_rfl, fun W hW => by obtain ⟨x0, x1, x2, x3, x4, x5, x6, x7, x8, -⟩ := blk9 hW.2; go_simp; try with_reducible rfl⟩) hF ?_
              go_frame
              refine F_take (i := 7) (d := some 55) (by kernel_rfl) (by kernel_rfl) (by decide) (s' := #[true, true, true, true, true, false, true, true, false, false, false, false, false]) (by kernel_rfl) rfl rfl (by kernel_rfl) (by kernel_rfl) (by kernel_rfl) (fun _ _ _ h => h) (Or.inl ⟨by kernel_rfl, fun W hW => by obtain ⟨x0, x1, x2, x3, x4, x5, x6, x7, x8, -⟩ := blk9 hW.2; go_simp; try with_reducible rfl⟩) hF ?_
              go_frame
              refine F_one (i := 5) (s' := #[true, true, true, true, true, true, true, true, false, false, false, false, false]) (by kernel_rfl) (by kernel_rfl) (wpOp_enterL (i := 5) (d := some 53) (f := 59) (args := #[.slice ka nl kc]) rfl rfl (by kernel_rfl) (by go_simp) ((cloneLnk ka kc ls wd w.heap.size (HL9.out.below hF.1) hF.1.size (by have := Hnl.out.2; omega) nl Hnl.out.1).mono ?_))
              rintro r v5w ⟨va, rfl, oA, hb5⟩
              obtain ⟨Aa, ca, rfl⟩ : ∃ A c, va = .slice A nl c := by obtain ⟨A, c, e⟩ := oA.shape; exact ⟨A, c, by rw [e, Hnl.out.1]⟩
              have oA := OwnR.lower oA hbd.size
              have hbd := below_trans hbd hbd.size hb5
              have hF : Below w.heap.size w v5w ∧ Blk v5w g8 41 #[.int .i64 y1, .int .i64 y2, .int .i64 y3, .int .i64 y4, .int .i64 y5, .int .i64 y6, .int .i64 y7, .slice ka nl kc, .slice ma nm mc] := ⟨below_trans hF.1 hF.1.size hb5, hF.2.below hb5 hF.2.lt⟩
              refine ⟨_, rfl, fun _ => hF, ?_⟩
              go_frame
              clear hb5
              refine F_one (i := 8) (s' := #[true, true, true, true, true, true, true, true, true, false, false, false, false]) (by kernel_rfl) (by kernel_rfl) (wpOp_enterL (i := 8) (d := some 56) (f := 60) (args := #[.slice ma nm mc]) rfl rfl (by kernel_rfl) (by go_simp) ((cloneInt ma mc ms v5w w.heap.size (HM9.out.below hF.1) hF.1.size (by have := Hnm.out.2; omega) nm Hnm.out.1).mono ?_))
              rintro r v8w ⟨vb, rfl, oB, hb8⟩
              obtain ⟨Ab, cb, rfl⟩ : ∃ A c, vb = .slice A nm c := by obtain ⟨A, c, e⟩ := oB.shape; exact ⟨A, c, by rw [e, Hnm.out.1]⟩
              have oA := OwnR.below oA hb8
              have oB := OwnR.lower oB hbd.size
              have hbd := below_trans hbd hbd.size hb8
              have hF : Below w.heap.size w v8w ∧ Blk v8w g8 41 #[.int .i64 y1, .int .i64 y2, .int .i64 y3, .int .i64 y4, .int .i64 y5, .int .i64 y6, .int .i64 y7, .slice ka nl kc, .slice ma nm mc] := ⟨below_trans hF.1 hF.1.size hb8, hF.2.below hb8 hF.2.lt⟩
              refine ⟨_, rfl, fun _ => hF, ?_⟩
              go_frame
              clear hb8
              refine F_take (i := 9) (d := some 57) (by kernel_rfl) (by kernel_rfl) (by decide) (s' := #[true, true, true, true, true, true, true, true, true, true, false, false, false]) (by kernel_rfl) rfl rfl (by kernel_rfl) (by kernel_rfl) (by kernel_rfl) (fun _ _ _ h => h) (Or.inl ⟨by kernel_rfl, fun W hW => by obtain ⟨x0, x1, x2, x3, x4, x5, x6, x7, x8, -⟩ := blk9 hW.2; go_simp; try with_reducible rfl⟩) hF ?_
              go_frame
              have HEl := seal_el (q := b) (h := ⟨y1, y2, y3, y4, y5, y6, y7⟩) X9.out.own HB9.out Hnl.out.1 Hnm.out.1 Hnl.out.2 Hnm.out.2 oA oB
              have X10 := X9.out.keep hbd
              have M10 := M9.out.below hbd M9.out.lt
              have B10 := hF.1
              clear oA oB
              have hbn := below_new v8w (.cells #[.int .i64 y1, .int .i64 y2, .int .i64 y3, .int .i64 y4, .int .i64 y5, .int .i64 y6, .int .i64 y7, .slice Aa nl ca, .slice Ab nm cb] 41)
              have hFn : Below w.heap.size w (v8w.alloc (.cells #[.int .i64 y1, .int .i64 y2, .int .i64 y3, .int .i64 y4, .int .i64 y5, .int .i64 y6, .int .i64 y7, .slice Aa nl ca, .slice Ab nm cb] 41)) ∧ Blk (v8w.alloc (.cells #[.int .i64 y1, .int .i64 y2, .int .i64 y3, .int .i64 y4, .int .i64 y5, .int .i64 y6, .int .i64 y7, .slice Aa nl ca, .slice Ab nm cb] 41)) g8 41 #[.int .i64 y1, .int .i64 y2, .int .i64 y3, .int .i64 y4, .int .i64 y5, .int .i64 y6, .int .i64 y7, .slice ka nl kc, .slice ma nm mc] := ⟨below_trans hF.1 hF.1.size hbn, hF.2.below hbn hF.2.lt⟩
              refine F_one (i := 10) (s' := #[true, true, true, true, true, true, true, true, true, true, true, false, false]) (by kernel_rfl) (by kernel_rfl) (wpOp_valueL (i := 10) (d := some 58) (w' := v8w.alloc (.cells #[.int .i64 y1, .int .i64 y2, .int .i64 y3, .int .i64 y4, .int .i64 y5, .int .i64 y6, .int .i64 y7, .slice Aa nl ca, .slice Ab nm cb] 41)) (v := .slice (some ⟨v8w.heap.size, 0, none⟩) 1 1) rfl rfl (by kernel_rfl) (by go_simp) ⟨fun _ => hFn, ?_⟩)
              go_frame
              have hkn : Blk (v8w.alloc (.cells #[.int .i64 y1, .int .i64 y2, .int .i64 y3, .int .i64 y4, .int .i64 y5, .int .i64 y6, .int .i64 y7, .slice Aa nl ca, .slice Ab nm cb] 41)) v8w.heap.size 41 (Lsa.cells ⟨⟨y1, y2, y3, y4, y5, y6, y7⟩, Aa, ca, ls, Ab, cb, ms⟩).toArray := by unfold Lsa.cells; simp only; rw [← Hnl.out.1, ← Hnm.out.1]; exact Blk.new _ _ _
              obtain ⟨v5, w5, hrun, hown5, hg5, hor5⟩ := app_row_run (e := 41) (sl := 22) Lsa.cells (fun _ => rfl) (by decide) (bytes := 104) (by decide) infoX rfl Tryz.underlying22 onesX 22 (b + 1) (.slice A7 O.length c7) O (X10.own.below hbn) v8w.heap.size ⟨⟨y1, y2, y3, y4, y5, y6, y7⟩, Aa, ca, ls, Ab, cb, ms⟩ hkn (by have := HOl.out; omega) (by have := M10.lt; simp; omega)
              have X11 := Lib.hid ((X10.keep hbn).app hown5 hg5 hor5 (HEl.1.keep hbn) HEl.2.1 HEl.2.2.1 HEl.2.2.2)
              have M11 := Lib.hid ((M10.below hbn M10.lt).grown hg5 (fun e => by have := (X10.own.block _ e.symm).1; omega))
              have B11 := Lib.hid (show Below w.heap.size w w5 from (below_trans B10 B10.size hbn).grown hg5 (Nat.le_trans B10.size hbn.size) (fun m e => by have := (X10.own.block m e).1; have := Hb0.out; omega))
              refine F_one (i := 11) (s' := #[true, true, true, true, true, true, true, true, true, true, true, true, false]) (by kernel_rfl) (by kernel_rfl) (wpOp_appendL (i := 11) (d := some 59) (t := 22) rfl rfl rfl (by kernel_rfl) rfl (by rfl) (by rfl) hrun ⟨fun _ => ⟨B11.out, hFn.2.grown hg5 (fun e => Hg8.out e.symm)⟩, ?_⟩)
              go_frame
              obtain ⟨A5, c5, hv5⟩ := hown5.shape
              subst hv5
              refine F_one (i := 12) (s' := #[true, true, true, true, true, true, true, true, true, true, true, true, true]) (by kernel_rfl) (by kernel_rfl) (wpOp_valueL (i := 12) (d := some 3) (w' := w5) (v := .slice A5 (O ++ [(⟨⟨y1, y2, y3, y4, y5, y6, y7⟩, Aa, ca, ls, Ab, cb, ms⟩ : Lsa)]).length c5) rfl rfl (by kernel_rfl) (by go_simp) ⟨fun h => absurd h (by decide), ?_⟩)
              go_frame
              refine F_done (by kernel_rfl) ?_ _
              clear hF hFn hkn hbn hrun hown5 hg5 hor5 X10 M10 B10 HEl hbd
              go_wp2
              go_roundw
              case measure => have := Hlt.out; simp [intOf]; omega
              case rel => exact ⟨k + 1, _, by go_num, Hlt.out, Hy.out _ rfl, X11.out, by have := M11.out; simpa [seenL, keyX, keyH] using this, B11.out⟩
    · have hkk : k = l.length := by omega
      subst hkk
      have hkl : ¬ (l.length : Int) < (l.length : Int) := by omega
      have hi := hst.is
      rw [List.take_length] at hi
      have Hi := Lib.hid hi
      clear hlt hst hi hk
      go_wp2
      go_ret
      exact ⟨⟨_, rfl, O, HSt.out.xs.lower (by have := Hb0.out; omega), Hi.out⟩, by have := HSt.out.bel; rw [Hb0.out] at this; exact this⟩

end Go.Proofs.YtpfjgecdlilkcaaGreat

/-
  Layer 20: pairs of vertices, hops and numbers as keys of maps.
-/
namespace Go.Proofs.YtpfjgecdlilkcaaGreat
open Go.RowKit

structure P4 where
  fk : Int
  fi : Int
  tk : Int
  ti : Int
deriving DecidableEq
def P4.cells (k : P4) : List Value := [.int .i64 k.fk, .int .i64 k.fi, .int .i64 k.tk, .int .i64 k.ti]
def P4.enc (k : P4) : Value := .agg #[.int .i64 k.fk, .int .i64 k.fi, .int .i64 k.tk, .int .i64 k.ti]
theorem eqP4_n (n : Nat) (a b c d a' b' c' d' : Int) (w : World) : (Op.equalIn (n + 1 + 1 + 1) 113 (.agg #[.int .i64 a, .int .i64 b, .int .i64 c, .int .i64 d]) (.agg #[.int .i64 a', .int .i64 b', .int .i64 c', .int .i64 d'])).run Tryz.prog w = .ok (a == a' && b == b' && c == c' && d == d') w := by
  have hS : Tryz.prog.underlying 113 = some (.struct (Tryz.prog.fieldsOf 113)) := by kernel_rfl
  have hp : Tryz.prog.stoodInHeld 113 = false := by kernel_rfl
  rw [run_equalIn_struct w (n + 1 + 1) 113 _ _ hS hp]
  simp only [Program.fieldsOf, Tryz.underlying113]
  have hv := eqV2_n n
  go_simp
  by_cases h1 : a = a' <;> by_cases h2 : b = b' <;> by_cases h3 : c = c' <;> by_cases h4 : d = d' <;> simp [h1, h2, h3, h4]
theorem eqP4 (a b : P4) (w : World) : (Op.equal 113 a.enc b.enc).run Tryz.prog w = .ok (decide (a = b)) w := by
  obtain ⟨a1, a2, a3, a4⟩ := a
  obtain ⟨b1, b2, b3, b4⟩ := b
  refine (eqP4_n 9997 a1 a2 a3 a4 b1 b2 b3 b4 w).trans ?_
  by_cases h1 : a1 = b1 <;> by_cases h2 : a2 = b2 <;> by_cases h3 : a3 = b3 <;> by_cases h4 : a4 = b4 <;> simp [h1, h2, h3, h4]
theorem checkP4_n (n : Nat) (e : Bool) (a b c d : Int) (w : World) : (Instr.checkKey e (n + 1 + 1 + 1) 113 (.agg #[.int .i64 a, .int .i64 b, .int .i64 c, .int .i64 d])).run Tryz.prog w = .ok () w := by
  have hc : ∀ x y w, (Instr.checkKey e (n + 1 + 1) 61 (.agg #[.int .i64 x, .int .i64 y])).run Tryz.prog w = .ok () w := fun x y w => checkV2_n n e x y w
  rw [Instr.checkKey]
  simp only [Sem.run_bind, run_underlying Tryz.underlying113, Result.andThen_ok]
  rw [← Array.forIn_toList]
  go_simp
theorem sameP4 (k : P4) : Instr.sameBits 10000 k.enc k.enc = true := by
  rw [show (10000 : Nat) = 9999 + 1 from rfl, P4.enc, Instr.sameBits]
  simp only [beq_self_eq_true, Bool.true_and]
  exact sameBits_agg _ _ fun v hv => by
    simp at hv
    rcases hv with rfl | rfl | rfl | rfl <;> exact sameBits_int _ _
theorem P4.enc_inj (a b : P4) (h : a.enc = b.enc) : a = b := by
  obtain ⟨a1, a2, a3, a4⟩ := a
  obtain ⟨b1, b2, b3, b4⟩ := b
  simp [P4.enc] at h
  simp [h]
theorem keyP4 : KeyOk Tryz.prog 113 P4.enc := KeyOk.of_struct Tryz.underlying113 eqP4 (fun e _k w => checkP4_n 9997 e _ _ _ _ w) sameP4 P4.enc_inj
end Go.Proofs.YtpfjgecdlilkcaaGreat

/-
  Layer 20 in plain words: the maps of costs, and what is laid out of them.
-/
namespace Go.Proofs.YtpfjgecdlilkcaaGreat

def intL {κ : Type} (M : List (κ × Int)) : List (κ × Value) := M.map fun e => (e.1, Value.int .i64 e.2)
def setI {κ : Type} [DecidableEq κ] (k : κ) (v : Int) : List (κ × Int) → List (κ × Int)
  | [] => [(k, v)]
  | e :: M => if e.1 = k then (k, v) :: M else e :: setI k v M
theorem intL_split {κ : Type} {R : List (κ × Int)} {pre post : List (κ × Value)} {e : κ × Value} (h : intL R = pre ++ e :: post) : ∃ P x Q, R = P ++ x :: Q ∧ pre = intL P ∧ post = intL Q ∧ e = (x.1, .int .i64 x.2) := by
  unfold intL at h
  obtain ⟨P, q, rfl, h1, h2⟩ := List.map_eq_append_iff.1 h
  obtain ⟨h', Q, rfl, h3, h4⟩ := List.map_eq_cons_iff.1 h2
  exact ⟨P, h', Q, rfl, h1.symm, h4.symm, h3.symm⟩
theorem intL_append {κ : Type} (P Q : List (κ × Int)) : intL P ++ intL Q = intL (P ++ Q) := by simp [intL]
theorem intL_keys {κ : Type} (M : List (κ × Int)) : (intL M).map (·.1) = M.map (·.1) := by unfold intL; rw [List.map_map]; rfl
section
variable {κ : Type} [DecidableEq κ]
theorem setL_int (k : κ) (v : Int) : ∀ M : List (κ × Int), setL k (.int .i64 v) (intL M) = intL (setI k v M)
  | [] => rfl
  | e :: M => by
    have ih := setL_int k v M
    unfold intL at ih ⊢
    rw [List.map_cons, setL, setI]
    by_cases h : e.1 = k
    · simp [h]
    · simp [h, ih]
theorem setI_len (k : κ) (v : Int) : ∀ M : List (κ × Int), (setI k v M).length ≤ M.length + 1
  | [] => by simp [setI]
  | e :: M => by
    have ih := setI_len k v M
    unfold setI
    split
    · simp
    · simp only [List.length_cons]; omega
/-- a map of costs is what of so many costs the least are -/
structure CostM (W : κ → List (Int × Int × Int) → Option Int) (M : List (κ × Int)) (T : List (Int × Int × Int)) : Prop where
  get : ∀ k, getL k (intL M) = (W k T).map (Value.int .i64)
  len : M.length ≤ T.length
theorem CostM.set_ {W : κ → List (Int × Int × Int) → Option Int} {M : List (κ × Int)} {T : List (Int × Int × Int)} (h : CostM W M T) {x : Int × Int × Int} {key : κ} {c : Int} (hW : ∀ k, W k (T ++ [x]) = if k = key then minO (W k T) c else W k T) (hno : W key T = none ∨ ∃ b, W key T = some b ∧ c < b) : CostM W (setI key c M) (T ++ [x]) := by
  refine ⟨fun k => ?_, by have := setI_len key c M; have := h.len; simp; omega⟩
  rw [← setL_int, getL_set, hW]
  by_cases hk : k = key
  · subst hk
    rw [if_pos rfl, if_pos rfl]
    rcases hno with h1 | ⟨b, h1, h2⟩
    · rw [h1]; rfl
    · rw [h1, minO, if_pos h2]; rfl
  · rw [if_neg hk, if_neg hk, h.get]
theorem CostM.keep {W : κ → List (Int × Int × Int) → Option Int} {M : List (κ × Int)} {T : List (Int × Int × Int)} (h : CostM W M T) {x : Int × Int × Int} {key : κ} {c : Int} (hW : ∀ k, W k (T ++ [x]) = if k = key then minO (W k T) c else W k T) (hno : ∃ b, W key T = some b ∧ ¬ c < b) : CostM W M (T ++ [x]) := by
  refine ⟨fun k => ?_, by have := h.len; simp; omega⟩
  rw [h.get, hW]
  by_cases hk : k = key
  · subst hk
    rw [if_pos rfl]
    obtain ⟨b, h1, h2⟩ := hno
    rw [h1, minO, if_neg h2]
  · rw [if_neg hk]
theorem CostM.mem {W : κ → List (Int × Int × Int) → Option Int} {M : List (κ × Int)} {T : List (Int × Int × Int)} (h : CostM W M T) (hn : (M.map (·.1)).Nodup) {k : κ} {c : Int} : (k, c) ∈ M ↔ W k T = some c := by
  rw [← intL_keys] at hn
  have hg := h.get k
  constructor
  · intro hm
    have hm2 : (k, Value.int .i64 c) ∈ intL M := List.mem_map.2 ⟨_, hm, rfl⟩
    rw [getL_of_mem hn hm2] at hg
    cases hw : W k T with
    | none => rw [hw] at hg; cases hg
    | some b =>
      rw [hw] at hg
      simp only [Option.map_some, Option.some.injEq, Value.int.injEq, true_and] at hg
      rw [hg]
  · intro hw
    rw [hw] at hg
    have := getL_mem hg
    obtain ⟨e, he, h2⟩ := List.mem_map.1 this
    simp only [Prod.mk.injEq, Value.int.injEq, true_and] at h2
    rw [← h2.1, ← h2.2]
    exact he
end
def wantE (k : P4) (T : List (Int × Int × Int)) : Option Int := if k.fk = 1 ∧ k.tk = 2 then bestL (pick k.fi k.ti T) else none
def wantF (k : Hp) (T : List (Int × Int × Int)) : Option Int := bestL (pick k.id k.lan T)
theorem wantE_snoc (r n c : Int) (T : List (Int × Int × Int)) (k : P4) : wantE k (T ++ [(r, n, c)]) = if k = ⟨1, r, 2, n⟩ then minO (wantE k T) c else wantE k T := by
  obtain ⟨a, b, d, e⟩ := k
  unfold wantE
  simp only
  rw [pick_snoc]
  by_cases h : a = 1 ∧ d = 2
  · obtain ⟨rfl, rfl⟩ := h
    by_cases h2 : r = b ∧ n = e
    · obtain ⟨rfl, rfl⟩ := h2
      simp [bestL_snoc]
    · rw [if_neg h2, if_neg (c := _ = _)]
      intro e2
      simp only [P4.mk.injEq, true_and] at e2
      exact h2 ⟨e2.1.symm, e2.2.symm⟩
  · rw [if_neg h, if_neg h, if_neg (c := _ = _)]
    intro e2
    simp only [P4.mk.injEq] at e2
    exact h ⟨e2.1, e2.2.2.1⟩
theorem wantF_snoc (r n c : Int) (T : List (Int × Int × Int)) (k : Hp) : wantF k (T ++ [(r, n, c)]) = if k = ⟨n, r⟩ then minO (wantF k T) c else wantF k T := by
  obtain ⟨a, b⟩ := k
  unfold wantF
  simp only
  rw [pick_snoc]
  by_cases h2 : r = b ∧ n = a
  · obtain ⟨rfl, rfl⟩ := h2
    simp [bestL_snoc]
  · rw [if_neg h2, if_neg (c := _ = _)]
    intro e2
    simp only [Hp.mk.injEq] at e2
    exact h2 ⟨e2.2.symm, e2.1.symm⟩
theorem costM_nil {κ : Type} [DecidableEq κ] {W : κ → List (Int × Int × Int) → Option Int} (h : ∀ k, W k [] = none) : CostM W ([] : List (κ × Int)) [] := ⟨fun k => by rw [h]; rfl, Nat.le_refl _⟩
theorem wantE_nil (k : P4) : wantE k [] = none := by unfold wantE; split <;> rfl
theorem wantF_nil (k : Hp) : wantF k [] = none := rfl

/-- what one more link gives -/
theorem candL_more (C : List VX) (x : VX) {ys : List Lnk} {j : Nat} (hj : j < ys.length) : candL C x (ys.take (j + 1)) = candL C x (ys.take j) ++ if ys[j].kind = 2 ∧ x.1.adv ∈ memV C ys[j].id then [(x.1.adv, ys[j].id, ys[j].cost)] else [] := by
  unfold candL
  rw [List.take_succ_eq_append_getElem hj, List.filterMap_append]
  congr 1
  by_cases h : ys[j].kind = 2 ∧ x.1.adv ∈ memV C ys[j].id <;> simp [h]
theorem leafX_more (x : VX) {ys : List Lnk} {j : Nat} (hj : j < ys.length) : leafX x (ys.take (j + 1)) = leafX x (ys.take j) ++ if ys[j].kind = 3 then [(x.1.adv, ys[j].id / 16, ys[j].cost)] else [] := by
  unfold leafX
  rw [List.take_succ_eq_append_getElem hj, List.filterMap_append]
  congr 1
  by_cases h : ys[j].kind = 3 <;> simp [h]
theorem candC_more (C T : List VX) {k : Nat} (hk : k < T.length) : candC C (T.take (k + 1)) = candC C (T.take k) ++ candL C T[k] T[k].2.1 := by
  unfold candC
  rw [List.take_succ_eq_append_getElem hk, List.flatMap_append, List.flatMap_singleton]
theorem leafC_more (T : List VX) {k : Nat} (hk : k < T.length) : leafC (T.take (k + 1)) = leafC (T.take k) ++ leafX T[k] T[k].2.1 := by
  unfold leafC
  rw [List.take_succ_eq_append_getElem hk, List.flatMap_append, List.flatMap_singleton]
theorem candL_len (C : List VX) (x : VX) (ys : List Lnk) : (candL C x ys).length ≤ ys.length := List.length_filterMap_le _ _
theorem leafX_len (x : VX) (ys : List Lnk) : (leafX x ys).length ≤ ys.length := List.length_filterMap_le _ _
theorem candC_len (C : List VX) {m : Nat} : ∀ T : List VX, (∀ x ∈ T, x.2.1.length ≤ m) → (candC C T).length ≤ T.length * m
  | [], _ => Nat.zero_le _
  | x :: T, h => by
    have ih := candC_len C T fun y hy => h y (by simp [hy])
    have h1 := candL_len C x x.2.1
    have h2 := h x (by simp)
    unfold candC at ih ⊢
    rw [List.flatMap_cons, List.length_append, List.length_cons, Nat.add_mul, Nat.one_mul]
    omega
theorem leafC_len {m : Nat} : ∀ T : List VX, (∀ x ∈ T, x.2.1.length ≤ m) → (leafC T).length ≤ T.length * m
  | [], _ => Nat.zero_le _
  | x :: T, h => by
    have ih := leafC_len T fun y hy => h y (by simp [hy])
    have h1 := leafX_len x x.2.1
    have h2 := h x (by simp)
    unfold leafC at ih ⊢
    rw [List.flatMap_cons, List.length_append, List.length_cons, Nat.add_mul, Nat.one_mul]
    omega

/-- an entry's two edges -/
def two (e : P4 × Int) : List Ed := [⟨e.1.fk, e.1.fi, e.1.tk, e.1.ti, e.2⟩, ⟨e.1.tk, e.1.ti, e.1.fk, e.1.fi, 0⟩]
def one (e : Hp × Int) : Lf := ⟨e.1.id, e.1.lan, e.2⟩
theorem two_len (D : List (P4 × Int)) : (D.flatMap two).length = 2 * D.length := by
  induction D with
  | nil => rfl
  | cons x D ih => rw [List.flatMap_cons, List.length_append, ih, List.length_cons]; simp [two]; omega
theorem edge_keys {M : List (P4 × Int)} {T : List (Int × Int × Int)} (h : CostM wantE M T) (hn : (M.map (·.1)).Nodup) : ∀ e ∈ M, e.1.fk = 1 ∧ e.1.tk = 2 := by
  rintro ⟨k, c⟩ he
  have := (h.mem hn).1 he
  unfold wantE at this
  split at this
  · assumption
  · cases this
theorem edges_apart {M : List (P4 × Int)} (hk : ∀ e ∈ M, e.1.fk = 1 ∧ e.1.tk = 2) (hn : (M.map (·.1)).Nodup) : (M.flatMap two).Pairwise fun x y => ltE x y ∨ ltE y x := by
  rw [List.pairwise_flatMap]
  constructor
  · intro e he
    have h1 := hk e he
    unfold two
    simp only [List.pairwise_cons, List.mem_singleton, forall_eq, List.not_mem_nil, false_imp_iff, implies_true, List.Pairwise.nil, and_true]
    refine .inl (.inl ?_)
    show e.1.fk < e.1.tk
    omega
  · rw [List.Nodup, List.pairwise_map] at hn
    refine List.Pairwise.imp_of_mem (fun {a b} ha hb hab x hx y hy => ?_) hn
    have h1 := hk a ha
    have h2 := hk b hb
    obtain ⟨⟨a1, a2, a3, a4⟩, ac⟩ := a
    obtain ⟨⟨b1, b2, b3, b4⟩, bc⟩ := b
    simp only at h1 h2
    obtain ⟨rfl, rfl⟩ := h1
    obtain ⟨rfl, rfl⟩ := h2
    have hne : ¬ (a2 = b2 ∧ a4 = b4) := fun h => hab (by simp [h])
    simp only [two, List.mem_cons, List.not_mem_nil, or_false] at hx hy
    rcases hx with rfl | rfl <;> rcases hy with rfl | rfl
    · unfold ltE; simp only [true_and, Int.lt_irrefl, false_or]; omega
    · exact .inl (.inl (show (1 : Int) < 2 by decide))
    · exact .inr (.inl (show (1 : Int) < 2 by decide))
    · unfold ltE; simp only [true_and, Int.lt_irrefl, false_or]; omega
theorem edges_laid {C : List VX} (h : CntOk C) {M D : List (P4 × Int)} (hM : CostM wantE M (candC C C)) (hn : (M.map (·.1)).Nodup) (hp : D.Perm M) {N : List Ed} (hN : N.Perm (D.flatMap two)) (hs : N.Pairwise ltE) : N = edgesC (costC C) := by
  refine sorted_ext ltE_irr ltE_asy hs (edgesC_sorted _) fun e => ?_
  rw [hN.mem_iff, mem_edges, List.mem_flatMap]
  constructor
  · rintro ⟨⟨⟨a, r, b, n⟩, c⟩, hm, he⟩
    have hm2 := (hp.mem_iff).1 hm
    have hk := edge_keys hM hn _ hm2
    have hw := (hM.mem hn).1 hm2
    simp only at hk
    obtain ⟨rfl, rfl⟩ := hk
    have hc : costC C r n = some c := by
      unfold wantE at hw
      simpa [costC] using hw
    have hb := cand_bounds h (cost_is h hc)
    refine ⟨r, n, c, hb.1, hb.2.1, hc, ?_⟩
    simpa [two] using he
  · rintro ⟨r, n, c, -, -, hc, he⟩
    refine ⟨(⟨1, r, 2, n⟩, c), (hp.mem_iff).2 ((hM.mem hn).2 ?_), ?_⟩
    · unfold wantE
      rw [if_pos ⟨rfl, rfl⟩]
      exact hc
    · simpa [two] using he
theorem leaves_apart {M : List (Hp × Int)} (hn : (M.map (·.1)).Nodup) : (M.map one).Pairwise fun x y => ltF x y ∨ ltF y x := by
  rw [List.pairwise_map]
  rw [List.Nodup, List.pairwise_map] at hn
  refine hn.imp fun {a b} hab => ?_
  obtain ⟨⟨a1, a2⟩, ac⟩ := a
  obtain ⟨⟨b1, b2⟩, bc⟩ := b
  have hne : ¬ (a1 = b1 ∧ a2 = b2) := fun h => hab (by simp [h])
  unfold ltF one
  simp only
  omega
theorem leaves_laid {C : List VX} (h : CntOk C) {M D : List (Hp × Int)} (hM : CostM wantF M (leafC C)) (hn : (M.map (·.1)).Nodup) (hp : D.Perm M) {N : List Lf} (hN : N.Perm (D.map one)) (hs : N.Pairwise ltF) : N = leavesC (leafCost C) := by
  refine sorted_ext ltF_irr ltF_asy hs (leavesC_sorted _) fun e => ?_
  rw [hN.mem_iff, mem_leaves, List.mem_map]
  constructor
  · rintro ⟨⟨⟨n, r⟩, c⟩, hm, he⟩
    have hm2 := (hp.mem_iff).1 hm
    have hw : leafCost C r n = some c := (hM.mem hn).1 hm2
    have hb := leaf_bounds h (leaf_is hw)
    exact ⟨r, n, c, hb.1, hb.2.1, hw, he.symm⟩
  · rintro ⟨r, n, c, -, -, hc, he⟩
    exact ⟨(⟨n, r⟩, c), (hp.mem_iff).2 ((hM.mem hn).2 hc), he.symm⟩

/-- networks and who is on them, as a map has it -/
def netL (O : List Lsa) : List (Int × Value) := (O.filter fun x => decide (x.head.kind = 2)).map fun x => (x.head.id, Value.slice x.ma x.members.length x.mcap)
theorem net_more {O : List Lsa} {k : Nat} (hk : k < O.length) : netL (O.take (k + 1)) = netL (O.take k) ++ if O[k].head.kind = 2 then [(O[k].head.id, Value.slice O[k].ma O[k].members.length O[k].mcap)] else [] := by
  unfold netL
  rw [List.take_succ_eq_append_getElem hk, List.filter_append, List.map_append]
  congr 1
  by_cases h : O[k].head.kind = 2 <;> simp [h]
theorem net_get (n : Int) : ∀ O : List Lsa, getL n (netL O) = (O.find? fun x => isNet n (vX x)).map fun x => Value.slice x.ma x.members.length x.mcap
  | [] => rfl
  | x :: O => by
    have ih := net_get n O
    unfold netL at ih ⊢
    by_cases h2 : x.head.kind = 2
    · rw [List.filter_cons_of_pos (by simpa using h2), List.map_cons, getL]
      by_cases hn : x.head.id = n
      · rw [if_pos hn, List.find?_cons_of_pos (by simp [isNet, vX, h2, hn])]
        rfl
      · rw [if_neg hn, List.find?_cons_of_neg (by simp [isNet, vX, hn]), ih]
    · rw [List.filter_cons_of_neg (by simpa using h2), List.find?_cons_of_neg (by simp [isNet, vX, h2]), ih]
theorem memV_of (n : Int) (O : List Lsa) : memV (O.map vX) n = ((O.find? fun x => isNet n (vX x)).map fun x => x.members).getD [] := by
  unfold memV
  rw [List.find?_map]
  cases h : O.find? (isNet n ∘ vX) with
  | none =>
    have h2 : (O.find? fun x => isNet n (vX x)) = none := h
    rw [h2]; rfl
  | some x =>
    have h2 : (O.find? fun x => isNet n (vX x)) = some x := h
    rw [h2]; rfl
/-- no network twice -/
theorem net_new {O : List Lsa} (h : CntOk (O.map vX)) {k : Nat} (hk : k < O.length) (h2 : O[k].head.kind = 2) (v : Value) : setL O[k].head.id v (netL (O.take k)) = netL (O.take k) ++ [(O[k].head.id, v)] := by
  cases hl : look O[k].head.id (netL (O.take k)) 0 with
  | none => exact (look_none hl).2.2 _
  | some jv =>
    obtain ⟨j, v'⟩ := jv
    obtain ⟨n, -, -, h1, -⟩ := look_some hl
    rw [net_get] at h1
    cases hf : (O.take k).find? fun x => isNet O[k].head.id (vX x) with
    | none => rw [hf] at h1; cases h1
    | some x =>
      exfalso
      have hx := List.find?_some hf
      obtain ⟨i, hi, e⟩ := List.getElem_of_mem (List.mem_of_find?_eq_some hf)
      rw [List.length_take] at hi
      rw [List.getElem_take] at e
      have hxy : vX x = vX O[k] := net_one h (List.mem_map_of_mem (by rw [← e]; exact List.getElem_mem _)) (List.mem_map_of_mem (List.getElem_mem hk)) hx (by simp [isNet, vX, h2])
      have hn := h.keys
      rw [List.map_map, List.Nodup, List.pairwise_map, List.pairwise_iff_getElem] at hn
      have := hn i k (by omega) hk (by omega)
      rw [e] at this
      exact this (congrArg keyV hxy)

end Go.Proofs.YtpfjgecdlilkcaaGreat

/-
  Layer 20: who is on networks: the program's way; is a number in a list.
-/
namespace Go.Proofs.YtpfjgecdlilkcaaGreat
open Go.RowKit Go.Sort

theorem mem_take_succ {l : List Int} {k : Nat} (hk : k < l.length) (x : Int) : x ∈ l.take (k + 1) ↔ x ∈ l.take k ∨ x = l[k] := by
  rw [List.take_succ_eq_append_getElem hk, List.mem_append, List.mem_singleton]
set_option maxHeartbeats 1000000 in
theorem indexI (A : Option Addr) (c : Nat) (l : List Int) (x : Int) (w : World) (B : Nat) (h : RowsAt 1 icell w B A l) (hB : B ≤ w.heap.size) (hm : l.length ≤ 2 ^ 20) (n : Nat) (hn : n = l.length) :
    Calls Tryz.prog 68 #[.slice A n c, .int .i64 x] w fun r w' => (∃ i : Int, r = .returned (.int .i64 i) ∧ (0 ≤ i ↔ x ∈ l)) ∧ w' = w := by
  subst hn
  have H := Lib.hid (h.more hB)
  have hm' : (l.length : Int) ≤ 9223372036854775807 := by omega
  clear h hB
  go_enter Tryz.func68, Tryz.ntmps68
  go_wp2
  go_loopw [8] (fun i wr => ∃ k : Nat, i = .int .i64 k ∧ k ≤ l.length ∧ x ∉ l.take k ∧ wr = w) (fun i _ => l.length - (intOf i).toNat)
  case atStart => exact ⟨0, rfl, Nat.zero_le _, by simp, rfl⟩
  case round =>
    obtain ⟨k, rfl, hk, hno, rfl⟩ := hrel
    by_cases hlt : k < l.length
    · obtain ⟨g, o, hA, -, x0⟩ := row_int H.out k hlt
      have hkl : (k : Int) < (l.length : Int) := by omega
      have hts := mem_take_succ hlt x
      have hin := List.getElem_mem hlt
      have HA := Lib.hid hA
      rw [hA]
      obtain ⟨y, hy⟩ : ∃ y, l[k] = y := ⟨_, rfl⟩
      rw [hy] at x0 hts hin
      clear hA hy
      by_cases hxy : x = y
      · subst hxy
        have Hin := Lib.hid hin
        clear hts hin hno
        go_wp2
        go_ret
        exact ⟨⟨_, rfl, fun _ => Hin.out, fun _ => by omega⟩, rfl⟩
      · have Hno := Lib.hid (show x ∉ l.take (k + 1) by rw [hts]; exact fun h => h.elim hno hxy)
        clear hts hin hno
        go_wp2
        go_roundw
        case measure => simp [intOf]; omega
        case rel => exact ⟨k + 1, by go_num, hlt, Hno.out, trivial⟩
    · have hke : k = l.length := by omega
      subst hke
      rw [List.take_length] at hno
      have Hno := Lib.hid hno
      clear hno
      have hkl : ¬ (l.length : Int) < (l.length : Int) := by omega
      go_wp2
      go_ret
      exact ⟨⟨_, rfl, fun h => absurd h (by decide), fun h => absurd h Hno.out⟩, rfl⟩
theorem containsI (A : Option Addr) (c : Nat) (l : List Int) (x : Int) (w : World) (B : Nat) (h : RowsAt 1 icell w B A l) (hB : B ≤ w.heap.size) (hm : l.length ≤ 2 ^ 20) (n : Nat) (hn : n = l.length) {t : Bool} (ht : decide (x ∈ l) = t) :
    Calls Tryz.prog 41 #[.slice A n c, .int .i64 x] w fun r w' => r = .returned (.bool t) ∧ w' = w := by
  have H := Lib.hid (indexI A c l x w B h hB hm n hn)
  have Ht := Lib.hid ht
  clear h hB hm hn ht
  go_enter Tryz.func41, Tryz.ntmps41
  go_wp2_with fail
  with_reducible refine Calls.mono H.out ?_
  rintro r w2 ⟨⟨i, rfl, hi⟩, rfl⟩
  have hd : decide (0 ≤ i) = t := by rw [← Ht.out]; exact decide_eq_decide.2 hi
  clear hi
  go_wp2
  go_ret
  exact ⟨rfl, rfl⟩
set_option maxHeartbeats 1000000 in
theorem hasI20 (A : Option Addr) (c : Nat) (l : List Int) (x : Int) (w : World) (B : Nat) (h : RowsAt 1 icell w B A l) (hB : B ≤ w.heap.size) (hm : l.length ≤ 2 ^ 20) (n : Nat) (hn : n = l.length) {t : Bool} (ht : decide (x ∈ l) = t) :
    Calls Tryz.prog 72 #[.slice A n c, .int .i64 x] w fun r w' => r = .returned (.bool t) ∧ w' = w := by
  subst hn
  have H := Lib.hid (h.more hB)
  have Ht := Lib.hid ht
  have hm' : (l.length : Int) ≤ 9223372036854775807 := by omega
  clear h hB ht
  go_enter Tryz.func72, Tryz.ntmps72
  go_wp2
  go_loopw [5] (fun i wr => ∃ k : Nat, i = .int .i64 k ∧ k ≤ l.length ∧ x ∉ l.take k ∧ wr = w) (fun i _ => l.length - (intOf i).toNat)
  case atStart => exact ⟨0, rfl, Nat.zero_le _, by simp, rfl⟩
  case round =>
    obtain ⟨k, rfl, hk, hno, rfl⟩ := hrel
    by_cases hlt : k < l.length
    · obtain ⟨g, o, hA, -, x0⟩ := row_int H.out k hlt
      have hkl : (k : Int) < (l.length : Int) := by omega
      have hts := mem_take_succ hlt x
      have hin := List.getElem_mem hlt
      have HA := Lib.hid hA
      rw [hA]
      obtain ⟨y, hy⟩ : ∃ y, l[k] = y := ⟨_, rfl⟩
      rw [hy] at x0 hts hin
      clear hA hy
      by_cases hxy : y = x
      · subst hxy
        have ht : t = true := by rw [← Ht.out]; exact decide_eq_true hin
        subst ht
        clear hts hin hno
        go_wp2
        go_ret
        exact ⟨rfl, rfl⟩
      · have Hno := Lib.hid (show x ∉ l.take (k + 1) by rw [hts]; exact fun h => h.elim hno (fun e => hxy e.symm))
        clear hts hin hno
        go_wp2
        go_roundw
        case measure => simp [intOf]; omega
        case rel => exact ⟨k + 1, by go_num, hlt, Hno.out, trivial⟩
    · have hke : k = l.length := by omega
      subst hke
      rw [List.take_length] at hno
      have ht : t = false := by rw [← Ht.out]; exact decide_eq_false hno
      subst ht
      clear hno
      have hkl : ¬ (l.length : Int) < (l.length : Int) := by omega
      go_wp2
      go_ret
      exact ⟨rfl, rfl⟩

set_option maxHeartbeats 4000000 in
set_option maxRecDepth 100000 in
theorem on_any (A : Option Addr) (cap : Nat) (O : List Lsa) (w : World) (hO : RowsAt 9 Lsa.cells w w.heap.size A O) (hc : CntOk (O.map vX)) (hm : O.length ≤ 2 ^ 16) (nn : Nat) (hnn : nn = O.length) :
    Calls Tryz.prog 40 #[.slice A nn cap] w fun r w' => r = .returned (.map (some w.heap.size)) ∧ MapAt encI w' w.heap.size (netL O) ∧ Below w.heap.size w w' := by
  subst hnn
  obtain ⟨b, hb⟩ : ∃ b, w.heap.size = b := ⟨_, rfl⟩
  have HO := Lib.hid hO
  have Hc := Lib.hid hc
  have Hb0 := Lib.hid hb
  have hmm := @run_makeMap Tryz.prog
  have hm' : (O.length : Int) ≤ 9223372036854775807 := by omega
  have HS0 := Lib.hid (show MapAt encI (w.alloc (.map #[] 0)) b (netL (O.take 0)) ∧ Below w.heap.size w (w.alloc (.map #[] 0)) from ⟨by rw [← hb]; exact MapAt.new w, (Below.refl _ _).alloc (Nat.le_refl _) _⟩)
  clear hO hc
  go_enter Tryz.func40, Tryz.ntmps40
  go_wp2
  clear hmm
  go_loopw [9] (fun i wr => ∃ k : Nat, i = .int .i64 k ∧ k ≤ O.length ∧ MapAt encI wr b (netL (O.take k)) ∧ Below w.heap.size w wr) (fun i _ => O.length - (intOf i).toNat)
  case atStart => exact ⟨0, rfl, Nat.zero_le _, HS0.out⟩
  case round =>
    obtain ⟨k, rfl, hk, hmp, hbel⟩ := hrel
    clear HS0
    by_cases hlt : k < O.length
    · obtain ⟨g, o, hA, -, x0, x1, x2, x3, x4, x5, x6, x7, x8⟩ := row_lsa9b (HO.out.below hbel) k hlt
      have hkl : (k : Int) < (O.length : Int) := by omega
      have hmore := net_more hlt
      have hnew := net_new Hc.out hlt
      have HA := Lib.hid hA
      rw [hA]
      have Hlt := Lib.hid hlt
      generalize O[k] = x at *
      obtain ⟨⟨y1, y2, y3, y4, y5, y6, y7⟩, ka, kc, ls, ma, mc, ms⟩ := x
      simp only at x0 x1 x2 x3 x4 x5 x6 x7 x8 hmore hnew
      obtain ⟨nl, hnl⟩ : ∃ nl, ls.length = nl := ⟨_, rfl⟩
      obtain ⟨nm, hnm⟩ : ∃ nm, ms.length = nm := ⟨_, rfl⟩
      rw [hnl] at x7
      rw [hnm] at x8 hmore
      obtain ⟨w8, hw8⟩ : ∃ w8, wr.alloc (.cells #[.int .i64 y1, .int .i64 y2, .int .i64 y3, .int .i64 y4, .int .i64 y5, .int .i64 y6, .int .i64 y7, .slice ka nl kc, .slice ma nm mc] 41) = w8 := ⟨_, rfl⟩
      obtain ⟨g8, hg8⟩ : ∃ g8, wr.heap.size = g8 := ⟨_, rfl⟩
      have hk8 := Blk.new wr 41 #[.int .i64 y1, .int .i64 y2, .int .i64 y3, .int .i64 y4, .int .i64 y5, .int .i64 y6, .int .i64 y7, .slice ka nl kc, .slice ma nm mc]
      have hb8 := below_new wr (.cells #[.int .i64 y1, .int .i64 y2, .int .i64 y3, .int .i64 y4, .int .i64 y5, .int .i64 y6, .int .i64 y7, .slice ka nl kc, .slice ma nm mc] 41)
      rw [hw8, hg8] at hk8
      rw [hw8] at hb8
      have M8 := Lib.hid (hmp.below hb8 hmp.lt)
      have B8 := Lib.hid (below_trans hbel hbel.size hb8)
      obtain ⟨z0, z1, z2, z3, z4, z5, z6, z7, z8, zf⟩ := blk9 hk8
      clear hnl hnm hA hlt hk8 hb8 hk hmp hbel
      by_cases h2 : y2 = 2
      · subst h2
        rw [if_pos rfl] at hmore
        have Hmore := Lib.hid hmore
        have Hnew := Lib.hid (hnew rfl)
        clear hmore hnew
        go_wp2_with (at_mapUpdate; (refine wpList_update_st _ (by rfl) _ _ _ 108 (by rfl) 3 39 keyInt Tryz.underlying108 (by rfl) M8.out y3 (by rfl) (.slice ma nm mc) (by rfl) ?_); intro w9 hm9 hg9 hs9; rw [Hnew.out] at hm9; have M9 := Lib.hid hm9; have B9 := Lib.hid (show Below w.heap.size w w9 from B8.out.grown hg9 B8.out.size (fun m e => by injection e with e; rw [← e, Hb0.out]; exact Nat.le_refl _)); clear hm9 hg9 hs9)
        go_roundw
        case measure => have := Hlt.out; simp [intOf]; omega
        case rel => exact ⟨k + 1, by go_num, Hlt.out, by rw [Hmore.out]; exact M9.out, B9.out⟩
      · rw [if_neg h2, List.append_nil] at hmore
        have Hmore := Lib.hid hmore
        clear hmore hnew
        go_wp2
        go_roundw
        case measure => have := Hlt.out; simp [intOf]; omega
        case rel => exact ⟨k + 1, by go_num, Hlt.out, by rw [Hmore.out]; exact M8.out, B8.out⟩
    · have hke : k = O.length := by omega
      subst hke
      rw [List.take_length] at hmp
      have hkl : ¬ (O.length : Int) < (O.length : Int) := by omega
      have HM := Lib.hid hmp
      have HB := Lib.hid hbel
      clear hmp hbel
      go_wp2
      go_ret
      exact ⟨rfl, HM.out, by have := HB.out; rw [Hb0.out] at this; exact this⟩

end Go.Proofs.YtpfjgecdlilkcaaGreat
