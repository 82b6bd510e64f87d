/-
  Layer 13: what a database lacks of heads: the document's way.
-/
import Derived.Test.YtmjjmkdjjfmhhaaLkProg
import Derived.Test.YtmjjmkdjjfmhhaaRdBase
namespace Go.Proofs.Ytmjjmkdjjfmhhaa
open Go.RowKit Go.Sort

theorem getH_none13 {k : K3} : ∀ {M : List Hd}, getH k M = none ↔ ∀ x ∈ M, keyH x ≠ k
  | [] => by simp [getH]
  | y :: M => by
    unfold getH
    by_cases hy : keyH y = k
    · simp [hy]
    · rw [if_neg hy, getH_none13]
      simp [hy]
theorem step_keys {M : List Lsa} {O : List Hd} {h : Hd} (ho : (O.map keyH).Nodup) : ((lackStep M O h).map keyH).Nodup := by
  unfold lackStep
  split
  · exact ho
  · unfold putIt
    rcases placeH_get (k := keyH h) (L := O) with ⟨-, h2⟩ | ⟨j, hj, -, h2, h3, h4⟩
    · rw [h2]
      simp only
      rw [List.map_append, List.nodup_append]
      refine ⟨ho, by simp, fun a ha b hb e => ?_⟩
      simp only [List.map_cons, List.map_nil, List.mem_singleton] at hb
      obtain ⟨x, hx, rfl⟩ := List.mem_map.1 ha
      have := getH_none13.1 h2 x hx
      exact this (e.trans hb)
    · rw [h2]
      simp only
      split
      · rw [h4 h rfl, List.map_set, ← h3]
        rw [show (O.map keyH).set j (keyH O[j]) = O.map keyH by rw [← List.getElem_map keyH (h := by simpa using hj)]; exact List.set_getElem_self _]
        exact ho
      · exact ho
theorem lack_keys (M : List Lsa) (hs : List Hd) : ((lackAll M hs).map keyH).Nodup := by
  have : ∀ (hs out : List Hd), (out.map keyH).Nodup → ((hs.foldl (lackStep M) out).map keyH).Nodup := by
    intro hs
    induction hs with
    | nil => intro out h; exact h
    | cons a t ih => intro out h; exact ih _ (step_keys h)
  exact this hs [] (by simp)
theorem place_iff {k : K3} {L : List Hd} (hn : (L.map keyH).Nodup) (j : Nat) (hj : j < L.length) : ((j : Int) = placeH k L) ↔ keyH L[j] = k := by
  rcases placeH_get (k := k) (L := L) with ⟨h1, h2⟩ | ⟨i, hi, h1, h2, h3, -⟩
  · constructor
    · intro h; omega
    · intro h; exact absurd h (getH_none13.1 h2 _ (List.getElem_mem hj))
  · rw [h1]
    constructor
    · intro h
      have : j = i := by omega
      subst this
      exact h3
    · intro h
      have he : (L.map keyH)[j]'(by simpa using hj) = (L.map keyH)[i]'(by simpa using hi) := by simp [h, h3]
      have := (List.getElem_inj hn).1 he
      omega
theorem eqKey13 (a b c a' b' c' : Int) (w : World) : (Op.equalIn 10000 39 (.agg #[.int .i64 a, .int .i64 b, .int .i64 c]) (.agg #[.int .i64 a', .int .i64 b', .int .i64 c'])).run Try.prog w = .ok (decide ((⟨a, b, c⟩ : K3) = ⟨a', b', c'⟩)) w := by
  rw [eqKey]
  congr 1
  by_cases h1 : a = a' <;> by_cases h2 : b = b' <;> by_cases h3 : c = c' <;> simp [h1, h2, h3]
/-- what the inner loop has made of it so far -/
def InnR (P : Int) (O : List Hd) (h : Hd) (i : Nat) (d : Bool) (O' : List Hd) : Prop := (0 ≤ P ∧ P < i ∧ d = true ∧ O' = putIt O h) ∨ ((P < 0 ∨ (i : Int) ≤ P) ∧ d = false ∧ O' = O)
theorem put_keys {O : List Hd} {h : Hd} (hp : 0 ≤ placeH (keyH h) O) : (putIt O h).map keyH = O.map keyH := by
  unfold putIt
  rcases placeH_get (k := keyH h) (L := O) with ⟨h1, -⟩ | ⟨j, hj, -, h2, h3, h4⟩
  · omega
  · rw [h2]
    simp only
    split
    · rw [h4 h rfl, List.map_set, ← h3]
      rw [show (O.map keyH).set j (keyH O[j]) = O.map keyH by rw [← List.getElem_map keyH (h := by simpa using hj)]; exact List.set_getElem_self _]
    · rfl
theorem InnR.keys {O O' : List Hd} {h : Hd} {i : Nat} {d : Bool} (hr : InnR (placeH (keyH h) O) O h i d O') : O'.map keyH = O.map keyH := by
  rcases hr with ⟨h1, -, -, rfl⟩ | ⟨-, -, rfl⟩
  · exact put_keys h1
  · rfl
theorem InnR.len {O O' : List Hd} {h : Hd} {i : Nat} {d : Bool} (hr : InnR (placeH (keyH h) O) O h i d O') : O'.length = O.length := by
  have := congrArg List.length hr.keys
  simpa using this
set_option maxHeartbeats 8000000 in
set_option maxRecDepth 100000 in
theorem refLacks_any (q : Nat) (room : Int) (v0 : Value) (Lr : List Lsa) (A : Option Addr) (c : Nat) (hs : List Hd) (w : World) (B : Nat) (hdb : RdAt w q room v0 Lr) (hag : ages13 Lr) (hlr : Lr.length ≤ 2 ^ 20) (hR : RowsAt 7 Hd.cells w B A hs) (hB : B ≤ w.heap.size) (hm : hs.length ≤ 2 ^ 20) (hha : agesH hs) (nn : Nat) (hnn : nn = hs.length) :
    Calls Try.prog 45 #[.pointer (some ⟨q, 0, none⟩), .slice A nn c] w fun r w' => (∃ v, r = .returned v ∧ OwnR 23 7 Hd.cells w' w.heap.size v (lackAll Lr hs)) ∧ Below w.heap.size w w' := by
  subst hnn
  obtain ⟨Aq, cq, hvq⟩ := hdb.xs.own.shape
  subst hvq
  have HDb := Lib.hid hdb
  have HAg := Lib.hid hag
  have HR := Lib.hid hR
  have HHa := Lib.hid hha
  have hm' : (hs.length : Int) ≤ 9223372036854775807 := by omega
  clear hdb hag hR hha
  go_enter Try.func45, Try.ntmps45
  go_wp2
  go_loopw [5, 6] (fun v i wr => ∃ k : Nat, i = .int .i64 k ∧ k ≤ hs.length ∧ OwnR 23 7 Hd.cells wr w.heap.size v (lackAll Lr (hs.take k)) ∧ Below w.heap.size w wr) (fun _ i _ => hs.length - (intOf i).toNat)
  case atStart => exact ⟨0, rfl, Nat.zero_le _, OwnR.nil _ _, Below.refl _ _⟩
  case round =>
    obtain ⟨k, rfl, hk, hown, hbel⟩ := hrel
    obtain ⟨A7, c7, hv7⟩ := hown.shape
    subst hv7
    by_cases hlt : k < hs.length
    · obtain ⟨g, o, hA, -, x0, x1, x2, x3, x4, x5, x6⟩ := row_hd7 (HR.out.below (hbel.mono hB)) k hlt
      have hya := HHa.out hs[k] (List.getElem_mem hlt)
      have hkl : (k : Int) < (hs.length : Int) := by omega
      have hmore := lack_more Lr hlt
      have hta : agesH (hs.take k) := fun x hx => HHa.out x (List.mem_of_mem_take hx)
      have hoa := lack_ages (M := Lr) hta
      have hke := lack_keys Lr (hs.take k)
      have hol : (lackAll Lr (hs.take k)).length ≤ 2 ^ 20 := Nat.le_trans (lack_len hta) (by rw [List.length_take]; omega)
      have HA := Lib.hid hA
      rw [hA]
      have Hlt := Lib.hid hlt
      generalize hs[k] = x at *
      obtain ⟨y1, y2, y3, y4, y5, y6, y7⟩ := x
      simp only at x0 x1 x2 x3 x4 x5 x6 hya
      obtain ⟨O, hO⟩ : ∃ O, lackAll Lr (hs.take k) = O := ⟨_, rfl⟩
      rw [hO] at hown hmore hoa hol hke ⊢
      have Hmore := Lib.hid hmore
      have HOa := Lib.hid hoa
      have HOl := Lib.hid hol
      have HKe := Lib.hid hke
      have Hya := Lib.hid hya
      obtain ⟨w8, hw8⟩ : ∃ w8, wr.alloc (.cells #[.int .i64 y1, .int .i64 y2, .int .i64 y3, .int .i64 y4, .int .i64 y5, .int .i64 y6, .int .i64 y7] 23) = w8 := ⟨_, rfl⟩
      obtain ⟨g8, hg8⟩ : ∃ g8, wr.heap.size = g8 := ⟨_, rfl⟩
      have hk8 := Blk.new wr 23 #[.int .i64 y1, .int .i64 y2, .int .i64 y3, .int .i64 y4, .int .i64 y5, .int .i64 y6, .int .i64 y7]
      have hb8 := below_new wr (.cells #[.int .i64 y1, .int .i64 y2, .int .i64 y3, .int .i64 y4, .int .i64 y5, .int .i64 y6, .int .i64 y7] 23)
      rw [hw8, hg8] at hk8
      rw [hw8] at hb8
      have K8 := Lib.hid hk8
      have O8 := Lib.hid (hown.below hb8)
      have B8 := Lib.hid (below_trans hbel hbel.size hb8)
      have Hg8 := Lib.hid (show ∀ m, (Value.slice A7 O.length c7).ownBlock = some m → m ≠ g8 from fun m e => by have := (hown.block _ e).2; omega)
      obtain ⟨z0, z1, z2, z3, z4, z5, z6⟩ := blk7n hk8
      clear hk8 hb8 hbel hown hmore hoa hol hta hya hA hlt hO hk hke
      go_wp2_with fail
      with_reducible refine Calls.mono (key_any _ _ _ _ _ _ _ _) ?_
      rintro r w9 ⟨rfl, hb9⟩
      obtain ⟨z, hz⟩ : ∃ z, findX ⟨y2, y3, y4⟩ Lr = z := ⟨_, rfl⟩
      have B9 := Lib.hid (below_trans B8.out B8.out.size hb9)
      have K9 := Lib.hid (K8.out.below hb9 K8.out.lt)
      have O9 := Lib.hid (O8.out.below hb9)
      have HF := Lib.hid (rdFind q room _ Lr y2 y3 y4 w9 (HDb.out.keep B9.out) hlr hz)
      have Hz := Lib.hid hz
      clear hb9 hz z0 z1 z2 z3 z4 z5 z6
      go_wp2_with fail
      with_reducible refine Calls.mono HF.out ?_
      rintro r w10 ⟨rfl, hb10⟩
      have B10 := Lib.hid (below_trans B9.out B9.out.size hb10)
      have H10 := Lib.hid (K9.out.below hb10 K9.out.lt)
      have O10 := Lib.hid (O9.out.below hb10)
      clear hb10
      obtain ⟨z0, z1, z2, z3, z4, z5, z6⟩ := blk7n H10.out
      rcases findX_get (k := ⟨y2, y3, y4⟩) (L := Lr) with ⟨h1, h2, h3⟩ | ⟨j, hj, h1, h2, h3, -⟩
      · have hzn : decide (0 ≤ z) = false := decide_eq_false (by rw [← Hz.out]; omega)
        have HNo := Lib.hid (show ¬ hasIt Lr ⟨y1, y2, y3, y4, y5, y6, y7⟩ = true by unfold hasIt; rw [show getX (keyH ⟨y1, y2, y3, y4, y5, y6, y7⟩) Lr = none from h2]; simp)
        clear h1 h2 h3
        have z0 := cell_regrown z0
        have z1 := cell_regrown z1
        have z2 := cell_regrown z2
        have z3 := cell_regrown z3
        have z4 := cell_regrown z4
        have z5 := cell_regrown z5
        have z6 := cell_regrown z6
        go_wp2_with fail
        refine wp_below_tail 14 (by kernel_rfl) (by kernel_rfl) ?_
        simp only [List.take_succ_cons, List.take_zero, List.drop_succ_cons, List.drop_zero]
        repeat (go_big_quiet_step (fail))
        refine wpQuiet_nil ?_
        rintro WB ⟨⟨dq, osq⟩, hWB⟩
        have hbB := below_regrown w10 dq osq
        rw [← hWB] at hbB
        subst hWB
        generalize grow (redrawn w10 dq) osq = WB at *
        have HB := Lib.hid (H10.out.below hbB H10.out.lt)
        have OB := Lib.hid (O10.out.below hbB)
        have BB := Lib.hid (below_trans B10.out B10.out.size hbB)
        clear hbB z0 z1 z2 z3 z4 z5 z6
        have Hst := Lib.hid (show lackStep Lr O ⟨y1, y2, y3, y4, y5, y6, y7⟩ = putIt O ⟨y1, y2, y3, y4, y5, y6, y7⟩ by unfold lackStep; rw [if_neg HNo.out])
        obtain ⟨wo, hwo⟩ : ∃ wo : World, wo = WB := ⟨_, rfl⟩
        subst hwo
        have HOi := Lib.hid (show ∀ O' {i' : Nat} {D : Bool}, InnR (placeH (keyH ⟨y1, y2, y3, y4, y5, y6, y7⟩) O) O ⟨y1, y2, y3, y4, y5, y6, y7⟩ i' D O' → agesH O' from fun O' i' D hr => hr.elim (fun ⟨_, _, _, h⟩ => by rw [h, ← Hst.out]; exact step_ages HOa.out Hya.out) (fun ⟨_, _, h⟩ => by rw [h]; exact HOa.out))
        go_wp2
        go_loopw [9, 10] (fun d i wx => ∃ (i' : Nat) (D : Bool) (O' : List Hd), i = .int .i64 i' ∧ d = .bool D ∧ i' ≤ O.length ∧ InnR (placeH (keyH ⟨y1, y2, y3, y4, y5, y6, y7⟩) O) O ⟨y1, y2, y3, y4, y5, y6, y7⟩ i' D O' ∧ OwnR 23 7 Hd.cells wx w.heap.size (.slice A7 O.length c7) O' ∧ Blk wx g8 23 #[.int .i64 y1, .int .i64 y2, .int .i64 y3, .int .i64 y4, .int .i64 y5, .int .i64 y6, .int .i64 y7] ∧ Below w.heap.size w wx) (fun _ i _ => O.length - (intOf i).toNat)
        case atStart => exact ⟨0, false, O, rfl, rfl, Nat.zero_le _, .inr ⟨by omega, rfl, rfl⟩, OB.out, HB.out, BB.out⟩
        case round =>
          obtain ⟨i', D, O', rfl, rfl, hi', hinn, howni, hblki, hbeli⟩ := hrel
          have Hinn := Lib.hid hinn
          have Howni := Lib.hid howni
          have Hbli := Lib.hid hblki
          have Hbeli := Lib.hid hbeli
          have hol2 : (O.length : Int) ≤ 1048576 := by have := HOl.out; omega
          have hi9 : (i' : Int) ≤ (O.length : Int) := by omega
          by_cases hlti : i' < O.length
          · have hil : (i' : Int) < (O.length : Int) := by omega
            have hi2 : i' < O'.length := by rw [hinn.len]; exact hlti
            have hkk : keyH O'[i'] = keyH O[i'] := by have := congrArg (fun L => L[i']?) hinn.keys; simpa [hlti, hi2] using this
            have hpi := place_iff (k := keyH ⟨y1, y2, y3, y4, y5, y6, y7⟩) HKe.out i' hlti
            obtain ⟨g7, c9, hv9, e0, e1, e2, e3, e4, e5, e6⟩ := row_own7 howni i' hi2
            injection hv9 with hA9 hn9 hc9
            subst hA9 hc9
            have HPi := Lib.hid (show ((i' : Int) = placeH (keyH ⟨y1, y2, y3, y4, y5, y6, y7⟩) O) ↔ keyH O'[i'] = keyH ⟨y1, y2, y3, y4, y5, y6, y7⟩ by rw [hkk]; exact hpi)
            have hoi := HOi.out O' hinn O'[i'] (List.getElem_mem hi2)
            have Hi2 := Lib.hid hi2
            have Hlti := Lib.hid hlti
            obtain ⟨z0, z1, z2, z3, z4, z5, z6⟩ := blk7n hblki
            generalize hx : O'[i'] = x at *
            have Hx := Lib.hid hx
            obtain ⟨x1, x2, x3, x4, x5, x6, x7⟩ := x
            simp only at e0 e1 e2 e3 e4 e5 e6 hoi
            obtain ⟨E, hE⟩ : ∃ E, decide ((⟨x2, x3, x4⟩ : K3) = ⟨y2, y3, y4⟩) = E := ⟨_, rfl⟩
            have he := eqKey13 x2 x3 x4 y2 y3 y4
            rw [hE] at he
            have HE := Lib.hid hE
            have CK := Lib.hid (fun a b c d e f g dd os => Calls.regrown_of (w := wr) (d := dd) (os := os) (key_any a b c d e f g _))
            obtain ⟨m, hm2⟩ : ∃ m, newerI ⟨y1, y2, y3, y4, y5, y6, y7⟩ ⟨x1, x2, x3, x4, x5, x6, x7⟩ = m := ⟨_, rfl⟩
            have Hm2 := Lib.hid hm2
            clear hinn howni hblki hbeli hkk hpi hi2 hn9 hx hE hi' hlti hm2
            have z0 := cell_regrown z0
            have z1 := cell_regrown z1
            have z2 := cell_regrown z2
            have z3 := cell_regrown z3
            have z4 := cell_regrown z4
            have z5 := cell_regrown z5
            have z6 := cell_regrown z6
            have e0 := cell_regrown e0
            have e1 := cell_regrown e1
            have e2 := cell_regrown e2
            have e3 := cell_regrown e3
            have e4 := cell_regrown e4
            have e5 := cell_regrown e5
            have e6 := cell_regrown e6
            go_wp2_with fail
            refine wp_below_tail 7 (by kernel_rfl) (by kernel_rfl) ?_
            simp only [List.take_succ_cons, List.take_zero, List.drop_succ_cons, List.drop_zero]
            repeat (go_big_quiet_step (exact CK.out _ _ _ _ _ _ _ _ _))
            refine wpQuiet_nil ?_
            rintro w15 ⟨⟨dq2, osq2⟩, rfl⟩
            have f0 := e0 dq2 osq2
            have f1 := e1 dq2 osq2
            have f2 := e2 dq2 osq2
            have f3 := e3 dq2 osq2
            have f4 := e4 dq2 osq2
            have f5 := e5 dq2 osq2
            have f6 := e6 dq2 osq2
            have s0 := z0 dq2 osq2
            have s1 := z1 dq2 osq2
            have s2 := z2 dq2 osq2
            have s3 := z3 dq2 osq2
            have s4 := z4 dq2 osq2
            have s5 := z5 dq2 osq2
            have s6 := z6 dq2 osq2
            have hb15 := below_regrown wr dq2 osq2
            generalize grow (redrawn wr dq2) osq2 = w15 at *
            have O15 := Lib.hid (Howni.out.below hb15)
            have K15 := Lib.hid (Hbli.out.below hb15 Hbli.out.lt)
            have B15 := Lib.hid (below_trans Hbeli.out Hbeli.out.size hb15)
            clear hb15 z0 z1 z2 z3 z4 z5 z6 e0 e1 e2 e3 e4 e5 e6 CK
            cases E with
            | false =>
              have hne : (i' : Int) ≠ placeH (keyH ⟨y1, y2, y3, y4, y5, y6, y7⟩) O := fun e => of_decide_eq_false HE.out (HPi.out.1 e)
              go_wp2
              go_roundw
              case measure => have := Hlti.out; simp only [intOf]; omega
              case rel =>
                refine ⟨i' + 1, D, O', by go_num, rfl, Hlti.out, ?_, O15.out, K15.out, B15.out⟩
                rcases Hinn.out with ⟨h1, h2, h3, h4⟩ | ⟨h1, h2, h3⟩
                · exact .inl ⟨h1, by omega, h3, h4⟩
                · exact .inr ⟨by omega, h2, h3⟩
            | true =>
              have hie : (i' : Int) = placeH (keyH ⟨y1, y2, y3, y4, y5, y6, y7⟩) O := HPi.out.2 (of_decide_eq_true HE.out)
              have hOO : D = false ∧ O' = O := by
                rcases Hinn.out with ⟨h1, h2, h3, h4⟩ | ⟨h1, h2, h3⟩
                · omega
                · exact ⟨h2, h3⟩
              obtain ⟨rfl, rfl⟩ := hOO
              have hput : putIt O' ⟨y1, y2, y3, y4, y5, y6, y7⟩ = if 0 < m then O'.set i' ⟨y1, y2, y3, y4, y5, y6, y7⟩ else O' := by
                unfold putIt
                rcases placeH_get (k := keyH ⟨y1, y2, y3, y4, y5, y6, y7⟩) (L := O') with ⟨h1, -⟩ | ⟨j, hj, h1, h2, h3, h4⟩
                · omega
                · have : j = i' := by omega
                  subst this
                  rw [h2]
                  simp only
                  have e : newerI ⟨y1, y2, y3, y4, y5, y6, y7⟩ O'[j] = m := (congrArg (newerI ⟨y1, y2, y3, y4, y5, y6, y7⟩) Hx.out).trans Hm2.out
                  rw [h4 ⟨y1, y2, y3, y4, y5, y6, y7⟩ rfl]
                  exact congrArg (fun z => if 0 < z then O'.set j ⟨y1, y2, y3, y4, y5, y6, y7⟩ else O') e
              have HP := Lib.hid hput
              have HIe := Lib.hid hie
              have CN := Lib.hid (fun dd os => Calls.regrown_of (w := w15) (d := dd) (os := os) (refNewer_any y1 y2 y3 y4 y5 y6 y7 x1 x2 x3 x4 x5 x6 x7 _ Hya.out.1 Hya.out.2 hoi.1 hoi.2 Hm2.out))
              clear hput hie
              go_upto_region 14 with fail
              have f0 := cell_regrown f0
              have f1 := cell_regrown f1
              have f2 := cell_regrown f2
              have f3 := cell_regrown f3
              have f4 := cell_regrown f4
              have f5 := cell_regrown f5
              have f6 := cell_regrown f6
              have s0 := cell_regrown s0
              have s1 := cell_regrown s1
              have s2 := cell_regrown s2
              have s3 := cell_regrown s3
              have s4 := cell_regrown s4
              have s5 := cell_regrown s5
              have s6 := cell_regrown s6
              refine wp_below_tail 6 (by kernel_rfl) (by kernel_rfl) ?_
              simp only [List.take_succ_cons, List.take_zero, List.drop_succ_cons, List.drop_zero]
              repeat (go_big_quiet_step (exact CN.out _ _))
              refine wpQuiet_nil ?_
              rintro w16 ⟨⟨dq3, osq3⟩, rfl⟩
              have p0 := f0 dq3 osq3
              have p1 := f1 dq3 osq3
              have p2 := f2 dq3 osq3
              have p3 := f3 dq3 osq3
              have p4 := f4 dq3 osq3
              have p5 := f5 dq3 osq3
              have p6 := f6 dq3 osq3
              have t0 := s0 dq3 osq3
              have t1 := s1 dq3 osq3
              have t2 := s2 dq3 osq3
              have t3 := s3 dq3 osq3
              have t4 := s4 dq3 osq3
              have t5 := s5 dq3 osq3
              have t6 := s6 dq3 osq3
              have hb16 := below_regrown w15 dq3 osq3
              generalize grow (redrawn w15 dq3) osq3 = w16 at *
              have O16 := Lib.hid (O15.out.below hb16)
              have K16 := Lib.hid (K15.out.below hb16 K15.out.lt)
              have B16 := Lib.hid (below_trans B15.out B15.out.size hb16)
              clear hb16 f0 s0 f1 s1 f2 s2 f3 s3 f4 s4 f5 s5 f6 s6 CN
              by_cases hm1 : 0 < m
              · rw [if_pos hm1] at HP
                have hm1' : m > 0 := hm1
                have hfz := fun i => OwnH13.frozen O16.out i
                go_wp2
                go_roundw
                case measure => have := Hlti.out; simp only [intOf]; omega
                case rel => exact ⟨i' + 1, true, O'.set i' ⟨y1, y2, y3, y4, y5, y6, y7⟩, by go_num, rfl, Hlti.out, .inl ⟨by have := HIe.out; omega, by have := HIe.out; omega, rfl, HP.out.symm⟩, OwnH13.set7 O16.out rfl i' Hi2.out ⟨y1, y2, y3, y4, y5, y6, y7⟩, K16.out.grown (grown7 _ _ _ _ _ _ _ _ _ _) (fun e => Hg8.out g7 rfl (by injection e with e; exact e.symm)), below_set7k B16.out (by have := (O16.out.block g7 rfl).1; omega) _ _ _ _ _ _ _ _⟩
              · rw [if_neg hm1] at HP
                have hm1' : ¬ m > 0 := hm1
                go_wp2
                go_roundw
                case measure => have := Hlti.out; simp only [intOf]; omega
                case rel => exact ⟨i' + 1, true, O', by go_num, rfl, Hlti.out, .inl ⟨by have := HIe.out; omega, by have := HIe.out; omega, rfl, HP.out.symm⟩, O16.out, K16.out, B16.out⟩
          · have hie : i' = O.length := by omega
            subst hie
            have hnl : ¬ (O.length : Int) < (O.length : Int) := by omega
            have hge := placeH_ge (keyH ⟨y1, y2, y3, y4, y5, y6, y7⟩) O
            obtain ⟨z0, z1, z2, z3, z4, z5, z6⟩ := blk7n hblki
            clear hlti hi' hblki hbeli
            rcases hinn with ⟨-, -, rfl, rfl⟩ | ⟨hp, rfl, rfl⟩
            · clear howni hge
              go_wp2
              go_roundw
              case measure => have := Hlt.out; simp only [intOf]; omega
              case rel => exact ⟨k + 1, by go_num, Hlt.out, by rw [Hmore.out, Hst.out, show O.length = (putIt O ⟨y1, y2, y3, y4, y5, y6, y7⟩).length from Hinn.out.len.symm]; simpa [Hinn.out.len] using Howni.out, Hbeli.out⟩
            · have HP := Lib.hid (show putIt O' ⟨y1, y2, y3, y4, y5, y6, y7⟩ = O' ++ [⟨y1, y2, y3, y4, y5, y6, y7⟩] by
                unfold putIt
                rcases placeH_get (k := keyH ⟨y1, y2, y3, y4, y5, y6, y7⟩) (L := O') with ⟨-, h2⟩ | ⟨j, hj, h1, -⟩
                · rw [h2]
                · omega)
              clear hge hp howni
              go_wp2_with (at_builtin; (refine app_row Hd.cells (fun _ => rfl) (by decide) (bytes := 56) (by decide) infoHd13 rfl Try.underlying37 onesHd13 (by rfl) _ _ (by rfl) w.heap.size _ O' (by rfl) (Howni.out.alloc _) wr.heap.size ⟨y1, y2, y3, y4, y5, y6, y7⟩ (by rfl) (Blk.new _ _ _) (by have := HOl.out; omega) (by have := Hbeli.out.size; simp; omega) ?_); intro v14 w14 hown14 hg14 hor14; have O14 := Lib.hid hown14; have B14 := Lib.hid (show Below w.heap.size w w14 from (Hbeli.out.alloc Hbeli.out.size _).grown hg14 (by have := Hbeli.out.size; simp; omega) (fun m e => (Howni.out.block _ e).1)); clear hown14 hg14 hor14)
              go_roundw
              case measure => have := Hlt.out; simp only [intOf]; omega
              case rel => exact ⟨k + 1, by go_num, Hlt.out, by rw [Hmore.out, Hst.out, HP.out]; exact O14.out, B14.out⟩
      · have hzj : z = (j : Int) := by rw [← Hz.out]; exact h1
        subst hzj
        have hzp : decide (0 ≤ (j : Int)) = true := decide_eq_true (by omega)
        have hjl : (j : Int) < (Lr.length : Int) := by omega
        have hD10 := HDb.out.keep B10.out
        obtain ⟨gq, c9, hvq, e0, e1, e2, e3, e4, e5, e6, e7, e8⟩ := row_at hD10.xs.own j hj
        injection hvq with hAq hnq hcq
        subst hAq hcq
        obtain ⟨m, hm2⟩ : ∃ m, newerI ⟨y1, y2, y3, y4, y5, y6, y7⟩ Lr[j].head = m := ⟨_, rfl⟩
        have hhas : hasIt Lr ⟨y1, y2, y3, y4, y5, y6, y7⟩ = decide (m ≤ 0) := by
          unfold hasIt
          rw [show getX (keyH ⟨y1, y2, y3, y4, y5, y6, y7⟩) Lr = some Lr[j] from h2]
          simp only
          rw [hm2]
        have hua := HAg.out Lr[j] (List.getElem_mem hj)
        have Hhas := Lib.hid hhas
        clear hhas h2 h3
        generalize Lr[j] = y at *
        obtain ⟨⟨u1, u2, u3, u4, u5, u6, u7⟩, xa, xc, xs, va, vc, vs⟩ := y
        simp only at e0 e1 e2 e3 e4 e5 e6 e7 e8 hm2 hua
        have CN := Lib.hid (fun dd os => Calls.regrown_of (w := w10) (d := dd) (os := os) (refNewer_any y1 y2 y3 y4 y5 y6 y7 u1 u2 u3 u4 u5 u6 u7 _ Hya.out.1 Hya.out.2 hua.1 hua.2 hm2))
        obtain ⟨c0, c1⟩ := hD10.cell
        clear hD10 h1 hj hnq e7 e8 hm2 hua c1
        have c0 := cell_regrown c0
        have e0 := cell_regrown e0
        have e1 := cell_regrown e1
        have e2 := cell_regrown e2
        have e3 := cell_regrown e3
        have e4 := cell_regrown e4
        have e5 := cell_regrown e5
        have e6 := cell_regrown e6
        have z0 := cell_regrown z0
        have z1 := cell_regrown z1
        have z2 := cell_regrown z2
        have z3 := cell_regrown z3
        have z4 := cell_regrown z4
        have z5 := cell_regrown z5
        have z6 := cell_regrown z6
        go_wp2_with fail
        refine wp_below_tail 14 (by kernel_rfl) (by kernel_rfl) ?_
        simp only [List.take_succ_cons, List.take_zero, List.drop_succ_cons, List.drop_zero]
        repeat (go_big_quiet_step (exact CN.out _ _))
        refine wpQuiet_nil ?_
        rintro WB ⟨⟨dq, osq⟩, hWB⟩
        have hbB := below_regrown w10 dq osq
        rw [← hWB] at hbB
        subst hWB
        generalize grow (redrawn w10 dq) osq = WB at *
        have HB := Lib.hid (H10.out.below hbB H10.out.lt)
        have OB := Lib.hid (O10.out.below hbB)
        have BB := Lib.hid (below_trans B10.out B10.out.size hbB)
        clear hbB z0 z1 z2 z3 z4 z5 z6 c0 e0 e1 e2 e3 e4 e5 e6 CN
        by_cases hm0 : m ≤ 0
        · have HP := Lib.hid (show lackStep Lr O ⟨y1, y2, y3, y4, y5, y6, y7⟩ = O by unfold lackStep; rw [if_pos (by rw [Hhas.out]; exact decide_eq_true hm0)])
          go_wp2
          go_roundw
          case measure => have := Hlt.out; simp only [intOf]; omega
          case rel => exact ⟨k + 1, by go_num, Hlt.out, by rw [Hmore.out, HP.out]; exact OB.out, BB.out⟩
        · have HNo := Lib.hid (show ¬ hasIt Lr ⟨y1, y2, y3, y4, y5, y6, y7⟩ = true by rw [Hhas.out]; simpa using hm0)
          have Hst := Lib.hid (show lackStep Lr O ⟨y1, y2, y3, y4, y5, y6, y7⟩ = putIt O ⟨y1, y2, y3, y4, y5, y6, y7⟩ by unfold lackStep; rw [if_neg HNo.out])
          obtain ⟨wo, hwo⟩ : ∃ wo : World, wo = WB := ⟨_, rfl⟩
          subst hwo
          have HOi := Lib.hid (show ∀ O' {i' : Nat} {D : Bool}, InnR (placeH (keyH ⟨y1, y2, y3, y4, y5, y6, y7⟩) O) O ⟨y1, y2, y3, y4, y5, y6, y7⟩ i' D O' → agesH O' from fun O' i' D hr => hr.elim (fun ⟨_, _, _, h⟩ => by rw [h, ← Hst.out]; exact step_ages HOa.out Hya.out) (fun ⟨_, _, h⟩ => by rw [h]; exact HOa.out))
          go_wp2
          go_loopw [9, 10] (fun d i wx => ∃ (i' : Nat) (D : Bool) (O' : List Hd), i = .int .i64 i' ∧ d = .bool D ∧ i' ≤ O.length ∧ InnR (placeH (keyH ⟨y1, y2, y3, y4, y5, y6, y7⟩) O) O ⟨y1, y2, y3, y4, y5, y6, y7⟩ i' D O' ∧ OwnR 23 7 Hd.cells wx w.heap.size (.slice A7 O.length c7) O' ∧ Blk wx g8 23 #[.int .i64 y1, .int .i64 y2, .int .i64 y3, .int .i64 y4, .int .i64 y5, .int .i64 y6, .int .i64 y7] ∧ Below w.heap.size w wx) (fun _ i _ => O.length - (intOf i).toNat)
          case atStart => exact ⟨0, false, O, rfl, rfl, Nat.zero_le _, .inr ⟨by omega, rfl, rfl⟩, OB.out, HB.out, BB.out⟩
          case round =>
            obtain ⟨i', D, O', rfl, rfl, hi', hinn, howni, hblki, hbeli⟩ := hrel
            have Hinn := Lib.hid hinn
            have Howni := Lib.hid howni
            have Hbli := Lib.hid hblki
            have Hbeli := Lib.hid hbeli
            have hol2 : (O.length : Int) ≤ 1048576 := by have := HOl.out; omega
            have hi9 : (i' : Int) ≤ (O.length : Int) := by omega
            by_cases hlti : i' < O.length
            · have hil : (i' : Int) < (O.length : Int) := by omega
              have hi2 : i' < O'.length := by rw [hinn.len]; exact hlti
              have hkk : keyH O'[i'] = keyH O[i'] := by have := congrArg (fun L => L[i']?) hinn.keys; simpa [hlti, hi2] using this
              have hpi := place_iff (k := keyH ⟨y1, y2, y3, y4, y5, y6, y7⟩) HKe.out i' hlti
              obtain ⟨g7, c9, hv9, e0, e1, e2, e3, e4, e5, e6⟩ := row_own7 howni i' hi2
              injection hv9 with hA9 hn9 hc9
              subst hA9 hc9
              have HPi := Lib.hid (show ((i' : Int) = placeH (keyH ⟨y1, y2, y3, y4, y5, y6, y7⟩) O) ↔ keyH O'[i'] = keyH ⟨y1, y2, y3, y4, y5, y6, y7⟩ by rw [hkk]; exact hpi)
              have hoi := HOi.out O' hinn O'[i'] (List.getElem_mem hi2)
              have Hi2 := Lib.hid hi2
              have Hlti := Lib.hid hlti
              obtain ⟨z0, z1, z2, z3, z4, z5, z6⟩ := blk7n hblki
              generalize hx : O'[i'] = x at *
              have Hx := Lib.hid hx
              obtain ⟨x1, x2, x3, x4, x5, x6, x7⟩ := x
              simp only at e0 e1 e2 e3 e4 e5 e6 hoi
              obtain ⟨E, hE⟩ : ∃ E, decide ((⟨x2, x3, x4⟩ : K3) = ⟨y2, y3, y4⟩) = E := ⟨_, rfl⟩
              have he := eqKey13 x2 x3 x4 y2 y3 y4
              rw [hE] at he
              have HE := Lib.hid hE
              have CK := Lib.hid (fun a b c d e f g dd os => Calls.regrown_of (w := wr) (d := dd) (os := os) (key_any a b c d e f g _))
              obtain ⟨m, hm2⟩ : ∃ m, newerI ⟨y1, y2, y3, y4, y5, y6, y7⟩ ⟨x1, x2, x3, x4, x5, x6, x7⟩ = m := ⟨_, rfl⟩
              have Hm2 := Lib.hid hm2
              clear hinn howni hblki hbeli hkk hpi hi2 hn9 hx hE hi' hlti hm2
              have z0 := cell_regrown z0
              have z1 := cell_regrown z1
              have z2 := cell_regrown z2
              have z3 := cell_regrown z3
              have z4 := cell_regrown z4
              have z5 := cell_regrown z5
              have z6 := cell_regrown z6
              have e0 := cell_regrown e0
              have e1 := cell_regrown e1
              have e2 := cell_regrown e2
              have e3 := cell_regrown e3
              have e4 := cell_regrown e4
              have e5 := cell_regrown e5
              have e6 := cell_regrown e6
              go_wp2_with fail
              refine wp_below_tail 7 (by kernel_rfl) (by kernel_rfl) ?_
              simp only [List.take_succ_cons, List.take_zero, List.drop_succ_cons, List.drop_zero]
              repeat (go_big_quiet_step (exact CK.out _ _ _ _ _ _ _ _ _))
              refine wpQuiet_nil ?_
              rintro w15 ⟨⟨dq2, osq2⟩, rfl⟩
              have f0 := e0 dq2 osq2
              have f1 := e1 dq2 osq2
              have f2 := e2 dq2 osq2
              have f3 := e3 dq2 osq2
              have f4 := e4 dq2 osq2
              have f5 := e5 dq2 osq2
              have f6 := e6 dq2 osq2
              have s0 := z0 dq2 osq2
              have s1 := z1 dq2 osq2
              have s2 := z2 dq2 osq2
              have s3 := z3 dq2 osq2
              have s4 := z4 dq2 osq2
              have s5 := z5 dq2 osq2
              have s6 := z6 dq2 osq2
              have hb15 := below_regrown wr dq2 osq2
              generalize grow (redrawn wr dq2) osq2 = w15 at *
              have O15 := Lib.hid (Howni.out.below hb15)
              have K15 := Lib.hid (Hbli.out.below hb15 Hbli.out.lt)
              have B15 := Lib.hid (below_trans Hbeli.out Hbeli.out.size hb15)
              clear hb15 z0 z1 z2 z3 z4 z5 z6 e0 e1 e2 e3 e4 e5 e6 CK
              cases E with
              | false =>
                have hne : (i' : Int) ≠ placeH (keyH ⟨y1, y2, y3, y4, y5, y6, y7⟩) O := fun e => of_decide_eq_false HE.out (HPi.out.1 e)
                go_wp2
                go_roundw
                case measure => have := Hlti.out; simp only [intOf]; omega
                case rel =>
                  refine ⟨i' + 1, D, O', by go_num, rfl, Hlti.out, ?_, O15.out, K15.out, B15.out⟩
                  rcases Hinn.out with ⟨h1, h2, h3, h4⟩ | ⟨h1, h2, h3⟩
                  · exact .inl ⟨h1, by omega, h3, h4⟩
                  · exact .inr ⟨by omega, h2, h3⟩
              | true =>
                have hie : (i' : Int) = placeH (keyH ⟨y1, y2, y3, y4, y5, y6, y7⟩) O := HPi.out.2 (of_decide_eq_true HE.out)
                have hOO : D = false ∧ O' = O := by
                  rcases Hinn.out with ⟨h1, h2, h3, h4⟩ | ⟨h1, h2, h3⟩
                  · omega
                  · exact ⟨h2, h3⟩
                obtain ⟨rfl, rfl⟩ := hOO
                have hput : putIt O' ⟨y1, y2, y3, y4, y5, y6, y7⟩ = if 0 < m then O'.set i' ⟨y1, y2, y3, y4, y5, y6, y7⟩ else O' := by
                  unfold putIt
                  rcases placeH_get (k := keyH ⟨y1, y2, y3, y4, y5, y6, y7⟩) (L := O') with ⟨h1, -⟩ | ⟨j, hj, h1, h2, h3, h4⟩
                  · omega
                  · have : j = i' := by omega
                    subst this
                    rw [h2]
                    simp only
                    have e : newerI ⟨y1, y2, y3, y4, y5, y6, y7⟩ O'[j] = m := (congrArg (newerI ⟨y1, y2, y3, y4, y5, y6, y7⟩) Hx.out).trans Hm2.out
                    rw [h4 ⟨y1, y2, y3, y4, y5, y6, y7⟩ rfl]
                    exact congrArg (fun z => if 0 < z then O'.set j ⟨y1, y2, y3, y4, y5, y6, y7⟩ else O') e
                have HP := Lib.hid hput
                have HIe := Lib.hid hie
                have CN := Lib.hid (fun dd os => Calls.regrown_of (w := w15) (d := dd) (os := os) (refNewer_any y1 y2 y3 y4 y5 y6 y7 x1 x2 x3 x4 x5 x6 x7 _ Hya.out.1 Hya.out.2 hoi.1 hoi.2 Hm2.out))
                clear hput hie
                go_upto_region 14 with fail
                have f0 := cell_regrown f0
                have f1 := cell_regrown f1
                have f2 := cell_regrown f2
                have f3 := cell_regrown f3
                have f4 := cell_regrown f4
                have f5 := cell_regrown f5
                have f6 := cell_regrown f6
                have s0 := cell_regrown s0
                have s1 := cell_regrown s1
                have s2 := cell_regrown s2
                have s3 := cell_regrown s3
                have s4 := cell_regrown s4
                have s5 := cell_regrown s5
                have s6 := cell_regrown s6
                refine wp_below_tail 6 (by kernel_rfl) (by kernel_rfl) ?_
                simp only [List.take_succ_cons, List.take_zero, List.drop_succ_cons, List.drop_zero]
                repeat (go_big_quiet_step (exact CN.out _ _))
                refine wpQuiet_nil ?_
                rintro w16 ⟨⟨dq3, osq3⟩, rfl⟩
                have p0 := f0 dq3 osq3
                have p1 := f1 dq3 osq3
                have p2 := f2 dq3 osq3
                have p3 := f3 dq3 osq3
                have p4 := f4 dq3 osq3
                have p5 := f5 dq3 osq3
                have p6 := f6 dq3 osq3
                have t0 := s0 dq3 osq3
                have t1 := s1 dq3 osq3
                have t2 := s2 dq3 osq3
                have t3 := s3 dq3 osq3
                have t4 := s4 dq3 osq3
                have t5 := s5 dq3 osq3
                have t6 := s6 dq3 osq3
                have hb16 := below_regrown w15 dq3 osq3
                generalize grow (redrawn w15 dq3) osq3 = w16 at *
                have O16 := Lib.hid (O15.out.below hb16)
                have K16 := Lib.hid (K15.out.below hb16 K15.out.lt)
                have B16 := Lib.hid (below_trans B15.out B15.out.size hb16)
                clear hb16 f0 s0 f1 s1 f2 s2 f3 s3 f4 s4 f5 s5 f6 s6 CN
                by_cases hm1 : 0 < m
                · rw [if_pos hm1] at HP
                  have hm1' : m > 0 := hm1
                  have hfz := fun i => OwnH13.frozen O16.out i
                  go_wp2
                  go_roundw
                  case measure => have := Hlti.out; simp only [intOf]; omega
                  case rel => exact ⟨i' + 1, true, O'.set i' ⟨y1, y2, y3, y4, y5, y6, y7⟩, by go_num, rfl, Hlti.out, .inl ⟨by have := HIe.out; omega, by have := HIe.out; omega, rfl, HP.out.symm⟩, OwnH13.set7 O16.out rfl i' Hi2.out ⟨y1, y2, y3, y4, y5, y6, y7⟩, K16.out.grown (grown7 _ _ _ _ _ _ _ _ _ _) (fun e => Hg8.out g7 rfl (by injection e with e; exact e.symm)), below_set7k B16.out (by have := (O16.out.block g7 rfl).1; omega) _ _ _ _ _ _ _ _⟩
                · rw [if_neg hm1] at HP
                  have hm1' : ¬ m > 0 := hm1
                  go_wp2
                  go_roundw
                  case measure => have := Hlti.out; simp only [intOf]; omega
                  case rel => exact ⟨i' + 1, true, O', by go_num, rfl, Hlti.out, .inl ⟨by have := HIe.out; omega, by have := HIe.out; omega, rfl, HP.out.symm⟩, O16.out, K16.out, B16.out⟩
            · have hie : i' = O.length := by omega
              subst hie
              have hnl : ¬ (O.length : Int) < (O.length : Int) := by omega
              have hge := placeH_ge (keyH ⟨y1, y2, y3, y4, y5, y6, y7⟩) O
              obtain ⟨z0, z1, z2, z3, z4, z5, z6⟩ := blk7n hblki
              clear hlti hi' hblki hbeli
              rcases hinn with ⟨-, -, rfl, rfl⟩ | ⟨hp, rfl, rfl⟩
              · clear howni hge
                go_wp2
                go_roundw
                case measure => have := Hlt.out; simp only [intOf]; omega
                case rel => exact ⟨k + 1, by go_num, Hlt.out, by rw [Hmore.out, Hst.out, show O.length = (putIt O ⟨y1, y2, y3, y4, y5, y6, y7⟩).length from Hinn.out.len.symm]; simpa [Hinn.out.len] using Howni.out, Hbeli.out⟩
              · have HP := Lib.hid (show putIt O' ⟨y1, y2, y3, y4, y5, y6, y7⟩ = O' ++ [⟨y1, y2, y3, y4, y5, y6, y7⟩] by
                  unfold putIt
                  rcases placeH_get (k := keyH ⟨y1, y2, y3, y4, y5, y6, y7⟩) (L := O') with ⟨-, h2⟩ | ⟨j, hj, h1, -⟩
                  · rw [h2]
                  · omega)
                clear hge hp howni
                go_wp2_with (at_builtin; (refine app_row Hd.cells (fun _ => rfl) (by decide) (bytes := 56) (by decide) infoHd13 rfl Try.underlying37 onesHd13 (by rfl) _ _ (by rfl) w.heap.size _ O' (by rfl) (Howni.out.alloc _) wr.heap.size ⟨y1, y2, y3, y4, y5, y6, y7⟩ (by rfl) (Blk.new _ _ _) (by have := HOl.out; omega) (by have := Hbeli.out.size; simp; omega) ?_); intro v14 w14 hown14 hg14 hor14; have O14 := Lib.hid hown14; have B14 := Lib.hid (show Below w.heap.size w w14 from (Hbeli.out.alloc Hbeli.out.size _).grown hg14 (by have := Hbeli.out.size; simp; omega) (fun m e => (Howni.out.block _ e).1)); clear hown14 hg14 hor14)
                go_roundw
                case measure => have := Hlt.out; simp only [intOf]; omega
                case rel => exact ⟨k + 1, by go_num, Hlt.out, by rw [Hmore.out, Hst.out, HP.out]; exact O14.out, B14.out⟩
    · have hke : k = hs.length := by omega
      subst hke
      have hkl : ¬ (hs.length : Int) < (hs.length : Int) := by omega
      rw [List.take_length] at hown ⊢
      have O5 := Lib.hid hown
      have B5 := Lib.hid hbel
      clear hown hbel hlt
      go_wp2
      go_ret
      exact ⟨⟨_, rfl, O5.out⟩, B5.out⟩

end Go.Proofs.Ytmjjmkdjjfmhhaa

/-
  Layer 13: lists of heads that are alike; whether ages may be.
-/
namespace Go.Proofs.Ytmjjmkdjjfmhhaa
open Go.RowKit Go.Sort

set_option maxHeartbeats 2000000 in
set_option maxRecDepth 100000 in
theorem Same13s (A A' : Option Addr) (c c' : Nat) (l : List Hd) (w : World) (B B' : Nat) (h : RowsAt 7 Hd.cells w B A l) (h' : RowsAt 7 Hd.cells w B' A' l) (hB : B ≤ w.heap.size) (hB' : B' ≤ w.heap.size) (hlen : l.length ≤ 2 ^ 20) (n n' : Nat) (hn : n = l.length) (hn' : n' = l.length) :
    Calls Try.prog 44 #[.slice A n c, .slice A' n' c'] w fun r w' => r = .returned (.bool true) ∧ Below w.heap.size w w' := by
  subst hn hn'
  have H := Lib.hid (h.more hB)
  have H' := Lib.hid (h'.more hB')
  clear h h' hB hB'
  go_enter Try.func44, Try.ntmps44
  go_wp2
  go_loopw [5] (fun i wr => ∃ k : Nat, i = .int .i64 k ∧ k ≤ l.length ∧ Below w.heap.size w wr) (fun i _ => l.length - (intOf i).toNat)
  case atStart => exact ⟨0, rfl, Nat.zero_le _, Below.refl _ _⟩
  case round =>
    obtain ⟨k, rfl, hk, hb⟩ := hrel
    have Hb := Lib.hid hb
    by_cases hlt : k < l.length
    · obtain ⟨g, o, rfl, -, z0, z1, z2, z3, z4, z5, z6⟩ := row_hd7 (H.out.below hb) k hlt
      obtain ⟨g', o', rfl, -, y0, y1, y2, y3, y4, y5, y6⟩ := row_hd7 (H'.out.below hb) k hlt
      have hkl : (k : Int) < (l.length : Int) := by omega
      clear hb
      generalize l[k] = x at *
      obtain ⟨x1, x2, x3, x4, x5, x6, x7⟩ := x
      simp only at z0 z1 z2 z3 z4 z5 z6 y0 y1 y2 y3 y4 y5 y6
      go_wp2
      go_quiet (fail)
      go_wp2
      go_roundw
      case measure => simp [intOf]; omega
      case rel => exact ⟨k + 1, by go_num, hlt, below_drewN Hb.out _⟩
    · have hkk : k = l.length := by omega
      subst hkk
      clear hb
      go_wp2
      go_ret
      exact ⟨rfl, Hb.out⟩

def ageB13 (h : Hd) : Bool := decide (0 ≤ h.age) && decide (h.age ≤ 60)
def may13B (l : List Hd) : Bool := l.all ageB13 && decide (l.length ≤ 100)
theorem may13B_ages {l : List Hd} (h : may13B l = true) : agesH l ∧ l.length ≤ 100 := by
  unfold may13B at h
  simp only [Bool.and_eq_true, List.all_eq_true, decide_eq_true_eq] at h
  refine ⟨fun x hx => ?_, h.2⟩
  have := h.1 x hx
  unfold ageB13 at this
  simp only [Bool.and_eq_true, decide_eq_true_eq] at this
  exact ⟨this.1, this.2⟩
theorem age13_cases (a : Int) : (decide (a < 0) = true ∧ (decide (0 ≤ a) && decide (a ≤ 60)) = false) ∨ (decide (a < 0) = false ∧ decide (60 < a) = true ∧ (decide (0 ≤ a) && decide (a ≤ 60)) = false) ∨ (decide (a < 0) = false ∧ decide (60 < a) = false ∧ (decide (0 ≤ a) && decide (a ≤ 60)) = true) := by
  by_cases h : a < 0
  · left; refine ⟨by simp [h], ?_⟩; simp; omega
  · right
    by_cases h2 : 60 < a
    · left; refine ⟨by simp; omega, by simp [h2], ?_⟩; simp; omega
    · right; refine ⟨by simp; omega, by simp; omega, ?_⟩; simp; omega
set_option maxHeartbeats 2000000 in
set_option maxRecDepth 100000 in
theorem may13 (A : Option Addr) (c : Nat) (l : List Hd) (w : World) (B : Nat) (h : RowsAt 7 Hd.cells w B A l) (hB : B ≤ w.heap.size) (hm : l.length ≤ maxLen) {t : Bool} (ht : may13B l = t) (n : Nat) (hn : n = l.length) :
    Calls Try.prog 42 #[.slice A n c] w fun r w' => r = .returned (.bool t) ∧ Below w.heap.size w w' := by
  subst hn
  unfold maxLen at hm
  have H := Lib.hid (h.more hB)
  have Ht := Lib.hid ht
  clear h hB ht
  go_enter Try.func42, Try.ntmps42
  go_wp2
  go_loopw [7] (fun i wr => ∃ k : Nat, i = .int .i64 k ∧ k ≤ l.length ∧ (l.take k).all ageB13 = true ∧ Below w.heap.size w wr) (fun i _ => l.length - (intOf i).toNat)
  case atStart => exact ⟨0, rfl, Nat.zero_le _, by simp, Below.refl _ _⟩
  case round =>
    obtain ⟨k, rfl, hk, hall, hb⟩ := hrel
    have Hb := Lib.hid hb
    by_cases hlt : k < l.length
    · obtain ⟨g, o, rfl, -, z0, z1, z2, z3, z4, z5, z6⟩ := row_hd7 (H.out.below hb) k hlt
      have hkl : (k : Int) < (l.length : Int) := by omega
      have hno : ageB13 l[k] = false → may13B l = false := fun h => by
        unfold may13B
        have : l.all ageB13 = false := by
          rw [List.all_eq_false]
          exact ⟨l[k], List.getElem_mem hlt, by simp [h]⟩
        rw [this]; rfl
      have hyes : ageB13 l[k] = true → (l.take (k + 1)).all ageB13 = true := fun h => by
        rw [List.take_succ_eq_append_getElem hlt, List.all_append, hall]
        simp [h]
      have Hno := Lib.hid hno
      have Hyes := Lib.hid hyes
      clear hb hno hyes hall
      generalize l[k] = x at *
      obtain ⟨x1, x2, x3, x4, x5, x6, x7⟩ := x
      simp only at z0 z1 z2 z3 z4 z5 z6
      rcases age13_cases x1 with ⟨t1, e⟩ | ⟨t1, t2, e⟩ | ⟨t1, t2, e⟩
      · have ht2 : t = false := by rw [← Ht.out]; exact Hno.out e
        subst ht2
        clear e
        go_wp2
        go_ret
        exact ⟨rfl, Hb.out.alloc Hb.out.size _⟩
      · have ht2 : t = false := by rw [← Ht.out]; exact Hno.out e
        subst ht2
        clear e
        go_wp2
        go_ret
        exact ⟨rfl, Hb.out.alloc Hb.out.size _⟩
      · have Hy := Lib.hid (Hyes.out e)
        clear e
        go_wp2
        go_roundw
        case measure => simp [intOf]; omega
        case rel => exact ⟨k + 1, by go_num, hlt, Hy.out, Hb.out.alloc Hb.out.size _⟩
    · have hkk : k = l.length := by omega
      subst hkk
      rw [List.take_length] at hall
      have ht2 : decide ((l.length : Int) ≤ 100) = t := by
        rw [← Ht.out]
        unfold may13B
        rw [hall, Bool.true_and]
        simp only [decide_eq_decide]
        omega
      clear hb hall
      go_wp2
      go_ret
      exact ⟨rfl, Hb.out⟩

end Go.Proofs.Ytmjjmkdjjfmhhaa
