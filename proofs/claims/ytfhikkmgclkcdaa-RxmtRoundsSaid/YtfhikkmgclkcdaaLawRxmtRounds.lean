/-
  The law RxmtRounds: its walk.
-/
import Derived.Test.YtfhikkmgclkcdaaRxRoundsP
namespace Go.Proofs.Ytfhikkmgclkcdaa
open Go.RowKit

set_option maxHeartbeats 4000000 in
set_option maxRecDepth 100000 in
theorem rxmtRounds_any (lan id : Int) (A : Option Addr) (cap : Nat) (ks : List K3) (w : World) (hks : RowsAt 3 K3.cells w w.heap.size A ks) (hm : ks.length ≤ maxLen) :
    Calls Try.prog 10 #[.int .i64 lan, .int .i64 id, .slice A ks.length cap] w fun r w' => r = .returned (.bool true) ∧ Below w.heap.size w w' := by
  unfold maxLen at hm
  have Hks := Lib.hid hks
  clear hks
  by_cases h60 : ks.length ≤ 60
  · have hR0len := addAll_len [] lan id ks
    have hall0 := addAll_all lan id ks [] (by simp)
    have hL0 := listK_all_len hall0
    have hne : ks ≠ [] → 1 ≤ (listK (addAll [] lan id ks) lan id).length := by
      intro h
      obtain ⟨x, hx⟩ := List.exists_mem_of_ne_nil ks h
      have : x ∈ listK (addAll [] lan id ks) lan id := mem_listK.2 (mem_addAll.2 (.inr ⟨x, hx, rfl⟩))
      exact List.length_pos_of_mem this
    simp only [List.length_nil, Nat.zero_add] at hR0len
    rw [← hL0] at hR0len
    generalize hRR : addAll [] lan id ks = R0 at *
    have HRR := Lib.hid hRR
    have HL0 := Lib.hid hL0
    have Hall0 := Lib.hid hall0
    clear hRR hL0 hall0
    generalize hLL : listK R0 lan id = L at *
    have HLL := Lib.hid hLL
    clear hLL
    have h60b : decide ((60 : Int) < (ks.length : Int)) = false := by simp; omega
    go_enter Try.func10, Try.ntmps10
    go_wp2_with fail
    with_reducible refine Calls.mono (wakes16 _) ?_
    rintro r w1 ⟨rfl, hb1⟩
    have Hb1 := Lib.hid hb1
    clear hb1
    go_wp2_with fail
    with_reducible refine Calls.mono (New16 w1) ?_
    rintro r w2 ⟨rfl, hR2, hb2⟩
    obtain ⟨p, hp⟩ : ∃ p, w1.heap.size + 1 = p := ⟨_, rfl⟩
    rw [hp] at hR2 ⊢
    obtain ⟨b, hb⟩ : ∃ b, w1.heap.size = b := ⟨_, rfl⟩
    rw [hb] at hR2
    have hbw : w.heap.size ≤ b := by rw [← hb]; exact Hb1.out.size
    have HR2 := Lib.hid hR2
    have Hb2 := Lib.hid (Hb1.out.trans (hb2.mono Hb1.out.size))
    have HPut := Lib.hid (Put_of sortsK p b [] lan id A cap ks w2 hR2 w.heap.size (rows_grown (Hks.out.below Hb2.out) Hb2.out.size (fun g o _ hg => by omega)) (by simp; omega) ks.length rfl)
    rw [HRR.out, HLL.out] at HPut
    clear hR2 hb2 hp hb
    go_wp2_with fail
    with_reducible refine Calls.mono HPut.out ?_
    rintro r w3 ⟨rfl, hR3, hg3⟩
    have HR3 := Lib.hid hR3
    have Hb3 := Lib.hid (Hb2.out.grown hg3 Hb2.out.size (fun k hk => by injection hk with hk; omega))
    clear hR3 hg3
    have hways : (decide (0 < ks.length) = false ∧ decide (ks.length < L.length) = false ∧ True) ∨ (decide (0 < ks.length) = true ∧ decide (ks.length < L.length) = false ∧ 1 ≤ L.length) := by
      by_cases h : ks = []
      · left; refine ⟨by simp [h], by simp; omega, trivial⟩
      · right
        have h1 := hne h
        have h2 : 0 < ks.length := List.length_pos_iff.2 h
        refine ⟨by simp; omega, by simp; omega, h1⟩
    clear hne
    have hinit := listK_nodup HR3.out.nodup lan id
    rw [HLL.out] at hinit
    have Hnd := Lib.hid hinit
    clear hinit
    rcases hways with ⟨t1, t2, -⟩ | ⟨t1, t2, t3⟩
    all_goals
      go_wp2
      go_loopw [9] (fun kv wr => ∃ (k : Nat) (R : List E5), kv = .int .i64 k ∧ k ≤ L.length + 2 ∧ RxAt wr p b R ∧ listK R lan id = L.drop k ∧ (∀ e ∈ R, e.lan = lan ∧ e.id = id) ∧ Below w.heap.size w wr) (fun kv _ => L.length + 3 - (intOf kv).toNat)
      case atStart => exact ⟨0, R0, rfl, by omega, HR3.out, HLL.out, Hall0.out, Hb3.out⟩
      case round =>
        obtain ⟨k, R, rfl, hk, hrx, hlist, hall, hbel⟩ := hrel
        have hRlen : R.length ≤ 2 ^ 20 := by
          rw [← listK_all_len hall, hlist, List.length_drop]; omega
        have HNext := Lib.hid (Next_any p b R lan id wr hrx hRlen)
        have HLen := Lib.hid (Len_of sortsK p b R lan id wr hrx hRlen)
        rw [hlist] at HNext HLen
        have Hrx := Lib.hid hrx
        have Hlist := Lib.hid hlist
        have Hall := Lib.hid hall
        have Hbel := Lib.hid hbel
        clear hrx hlist hall hbel hRlen
        by_cases hlt : k < L.length
        · obtain ⟨M, hM⟩ : ∃ M, (L.drop k).take 3 = M := ⟨_, rfl⟩
          have hMl : M.length = min 3 (L.length - k) := by rw [← hM]; simp
          have HM := Lib.hid hM
          rw [hM] at HNext
          clear hM
          have hmin : min (3 : Int) ((L.length : Int) - (k : Int)) = (M.length : Int) := by omega
          have hM1 : 1 ≤ M.length := by omega
          have hM3 : M.length ≤ 3 := by omega
          have hMk : k + M.length ≤ L.length := by omega
          have Hstep := Lib.hid (show k + M.length = k + 3 ∨ k + M.length = L.length by omega)
          clear hMl
          obtain ⟨wo, rfl⟩ : ∃ wo : World, wo = wr := ⟨_, rfl⟩
          go_wp2_with fail
          with_reducible refine Calls.mono HNext.out ?_
          rintro r w5 ⟨v, rfl, hown, hb5⟩
          have hbo : b < wo.heap.size := Hrx.out.map.lt
          have Hrx5 := Lib.hid (Hrx.out.keep hb5)
          have Hb5 := Lib.hid (Hbel.out.trans (hb5.mono Hbel.out.size))
          rcases hown.shape2 with ⟨-, hn⟩ | ⟨g, c, rfl, hc⟩
          · exact absurd hM1 (by rw [hn]; simp)
          · have hgb : b < g := by have := (hown.block g rfl).1; omega
            have Hrow := Lib.hid (OwnR.rows (C := 3) (cells := K3.cells) (fun _ => rfl) hown).2
            clear hown hb5
            go_wp2
            go_loopw [55] (fun iv wq => ∃ (i : Nat) (R : List E5), iv = .int .i64 i ∧ i ≤ M.length ∧ RxAt wq p b R ∧ listK R lan id = L.drop (k + i) ∧ (∀ e ∈ R, e.lan = lan ∧ e.id = id) ∧ RowsAt 3 K3.cells wq w5.heap.size (some ⟨g, 0, none⟩) M ∧ Below w.heap.size w wq ∧ w5.heap.size ≤ wq.heap.size) (fun iv _ => M.length - (intOf iv).toNat)
            case atStart => exact ⟨0, R, rfl, by omega, Hrx5.out, Hlist.out, Hall.out, Hrow.out, Hb5.out, Nat.le_refl _⟩
            case round =>
              obtain ⟨wq, rfl⟩ : ∃ wq : World, wq = wr := ⟨_, rfl⟩
              obtain ⟨i, R', rfl, hi, hrx', hl', hall', hrow, hbq, hsz⟩ := hrel
              by_cases hlt2 : i < M.length
              · have hdrop : L.drop (k + i) = M[i] :: L.drop (k + (i + 1)) := by
                  have h1 : k + i < L.length := by omega
                  rw [List.drop_eq_getElem_cons h1]
                  congr 1
                  have h2 : M[i]? = L[k + i]? := by rw [← HM.out, List.getElem?_take_of_lt (by omega), List.getElem?_drop]
                  rw [List.getElem?_eq_getElem hlt2, List.getElem?_eq_getElem h1] at h2
                  exact (Option.some.inj h2).symm
                rw [hdrop] at hl'
                obtain ⟨z0, z1, z2⟩ := row_k3_at hrow i hlt2
                simp only [Nat.zero_add] at z0 z1 z2
                have hil : (i : Int) < (M.length : Int) := by omega
                clear hdrop
                generalize M[i] = x at *
                obtain ⟨x1, x2, x3⟩ := x
                obtain ⟨s1, s2, s3, s4⟩ := ack_step hrx'.nodup hall' hl'
                have HAck := Lib.hid (Ack_any p b R' lan id x1 x2 x3 (wq.alloc (.cells #[.int .i64 x1, .int .i64 x2, .int .i64 x3] 61)) (hrx'.alloc _))
                rw [s2] at HAck
                have hblk := Blk.new wq 61 #[.int .i64 x1, .int .i64 x2, .int .i64 x3]
                have hbq' := hbq.alloc hbq.size (.cells #[.int .i64 x1, .int .i64 x2, .int .i64 x3] 61)
                have hrow' := hrow.below ((Below.refl wq.heap.size wq).alloc (Nat.le_refl _) (.cells #[.int .i64 x1, .int .i64 x2, .int .i64 x3] 61) |>.mono hsz)
                have Hblk := Lib.hid hblk
                have Hbq := Lib.hid hbq'
                have Hrow' := Lib.hid hrow'
                have Hs1 := Lib.hid s1
                have Hs3 := Lib.hid s3
                have Hs4 := Lib.hid s4
                have hbq0 : b < wq.heap.size := hrx'.map.lt
                have Hsz := Lib.hid hsz
                clear hrx' hl' hall' hrow hbq hsz hblk hbq' hrow' s1 s2 s3 s4
                go_wp2_with fail
                with_reducible refine Calls.mono HAck.out ?_
                rintro r w7 ⟨rfl, hR7, hg7⟩
                have hblk7 := Hblk.out.grown hg7 (fun e => by injection e with e; omega)
                obtain ⟨y0, y1, y2⟩ : _ ∧ _ ∧ _ := ⟨hblk7.cell 0, hblk7.cell 1, hblk7.cell 2⟩
                simp only [List.getElem?_toArray, List.getElem?_cons_zero, List.getElem?_cons_succ] at y0 y1 y2
                have HHas := Lib.hid (Has_any p b _ x1 x2 x3 w7 hR7 Hs3.out)
                have HR7 := Lib.hid hR7
                have Hb7 := Lib.hid (Hbq.out.grown hg7 Hbq.out.size (fun k hk => by injection hk with hk; omega))
                have Hrow7 := Lib.hid (rows_grown Hrow'.out (by have := Hsz.out; simp; omega) (fun g' o' e _ => by injection e with e; injection e with e; omega) w7 hg7)
                have Hsz7 := Lib.hid (show w5.heap.size ≤ w7.heap.size by have := hg7.size; have := Hsz.out; simp at *; omega)
                clear hR7 hg7 hblk7
                go_wp2_with fail
                with_reducible refine Calls.mono HHas.out ?_
                rintro r w8 ⟨rfl, hb8⟩
                have HR8 := Lib.hid (HR7.out.keep hb8)
                have Hb8 := Lib.hid (Hb7.out.trans (hb8.mono Hb7.out.size))
                have Hrow8 := Lib.hid (Hrow7.out.below (hb8.mono Hsz7.out))
                have Hsz8 := Lib.hid (Nat.le_trans Hsz7.out hb8.size)
                clear hb8
                go_wp2
                go_roundw
                case measure => simp [intOf]; omega
                case rel => exact ⟨i + 1, _, by go_num, by omega, HR8.out, Hs1.out, Hs4.out, Hrow8.out, Hb8.out, Hsz8.out⟩
              · have hil : i = M.length := by omega
                subst hil
                have Hrx' := Lib.hid hrx'
                have hl3 : listK R' lan id = L.drop (k + 3) := by
                  rw [hl']
                  rcases Hstep.out with h | h
                  · rw [h]
                  · rw [h, List.drop_length, List.drop_eq_nil_of_le (by omega)]
                have Hl3 := Lib.hid hl3
                have Hall' := Lib.hid hall'
                have Hbq := Lib.hid hbq
                clear hrx' hl' hl3 hall' hrow hbq hsz
                go_wp2
                go_roundw
                case measure => simp [intOf]; omega
                case rel => exact ⟨k + 3, _, by go_num, by omega, Hrx'.out, Hl3.out, Hall'.out, Hbq.out⟩
        · have hnil : L.drop k = [] := List.drop_eq_nil_of_le (by omega)
          rw [hnil] at HNext HLen
          go_wp2_with fail
          with_reducible refine Calls.mono HLen.out ?_
          rintro r w5 ⟨rfl, hb5⟩
          have HN5 := Lib.hid (Next_any p b R lan id w5 (Hrx.out.keep hb5) (by
            rw [← listK_all_len Hall.out, Hlist.out, List.length_drop]; omega))
          rw [Hlist.out, hnil] at HN5
          have Hb5 := Lib.hid (Hbel.out.trans (hb5.mono Hbel.out.size))
          clear hb5 hnil
          go_wp2_with fail
          with_reducible refine Calls.mono HN5.out ?_
          rintro r w6 ⟨v, rfl, hown, hb6⟩
          have Hb6 := Lib.hid (Hb5.out.trans (hb6.mono Hb5.out.size))
          rcases hown.shape2 with ⟨rfl, -⟩ | ⟨g, c, rfl, hc⟩
          all_goals
            clear hown hb6
            go_wp2
            go_ret
            exact ⟨rfl, Hb6.out⟩
  · have h60' : 60 < ks.length := by omega
    go_enter Try.func10, Try.ntmps10
    go_wp2_with fail
    with_reducible refine Calls.mono (wakes16 _) ?_
    rintro r w1 ⟨rfl, hb1⟩
    go_wp2
    go_ret
    exact ⟨rfl, hb1⟩

end Go.Proofs.Ytfhikkmgclkcdaa
