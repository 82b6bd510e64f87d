/-
  Layer 16: the document's list of a neighbor.
-/
import Derived.Test.YtfhikkmgclkcdaaRfBub
namespace Go.Proofs.Ytfhikkmgclkcdaa
open Go.RowKit

theorem shape_snoc {w : World} {B : Nat} {v : Value} {S : List K3} {x : K3} (h : OwnR 61 3 K3.cells w B v (S ++ [x])) : ∃ g c, v = .slice (some ⟨g, 0, none⟩) (S.length + 1) c := by
  rcases h.shape2 with ⟨-, hn⟩ | ⟨g, c, e, -⟩
  · simp at hn
  · exact ⟨g, c, by simpa using e⟩
theorem listK_snoc (R : List E5) (e : E5) (lan id : Int) (h : hereB lan id e = true) : listK (R ++ [e]) lan id = sortK (keysOf R lan id ++ [e.k]) := by
  unfold listK; rw [keys_snoc, h]; simp
theorem listK_skip (R : List E5) (e : E5) (lan id : Int) (h : hereB lan id e = false) : listK (R ++ [e]) lan id = listK R lan id := by
  unfold listK; rw [keys_snoc, h]; simp

set_option maxHeartbeats 4000000 in
set_option maxRecDepth 100000 in
theorem refList_any (q : Nat) (v : Value) (R : List E5) (lan id : Int) (w : World) (hR : RfAt w q v R) (hlen : R.length ≤ 2 ^ 20) :
    Calls Try.prog 55 #[.pointer (some ⟨q, 0, none⟩), .int .i64 lan, .int .i64 id] w fun r w' => ∃ u, r = .returned u ∧ OwnK w' w.heap.size u (listK R lan id) ∧ Below w.heap.size w w' := by
  obtain ⟨A, cap, hv⟩ := hR.own.shape
  subst hv
  have HR := Lib.hid hR
  clear hR
  go_enter Try.func55, Try.ntmps55
  go_wp2
  go_loopw [7, 8] (fun u i wr => ∃ k : Nat, i = .int .i64 k ∧ k ≤ R.length ∧ OwnK wr w.heap.size u (listK (R.take k) lan id) ∧ Below w.heap.size w wr) (fun _ i _ => R.length - (intOf i).toNat)
  case atStart => exact ⟨0, rfl, Nat.zero_le _, by rw [show listK (R.take 0) lan id = [] from List.eq_nil_of_length_eq_zero (by have := listK_len (R.take 0) lan id; simpa using this)]; exact OwnR.nil _ _, Below.refl _ _⟩
  case round =>
    obtain ⟨k, rfl, hk, hown, hb⟩ := hrel
    have hRr := HR.out.keep hb
    have hc := hRr.cell
    have hSl := listK_len (R.take k) lan id
    rw [List.length_take] at hSl
    have hSl : (listK (R.take k) lan id).length ≤ k := by omega
    by_cases hlt : k < R.length
    · obtain ⟨g, c, hv, z0, z1, z2, z3, z4⟩ := hRr.row k hlt
      injection hv with hA hn hcap
      subst hA hcap
      have hkl : (k : Int) < (R.length : Int) := by omega
      have hsucc := List.take_succ_eq_append_getElem hlt
      have hskip := listK_skip (R.take k) R[k] lan id
      have hsnoc := listK_snoc (R.take k) R[k] lan id
      rw [← hsucc] at hskip hsnoc
      obtain ⟨A7, c7, hv7⟩ := hown.shape
      subst hv7
      have Hskip := Lib.hid hskip
      have Hsnoc := Lib.hid hsnoc
      have Hown := Lib.hid hown
      have Hb := Lib.hid hb
      clear hRr hown hb hskip hsnoc hsucc hn
      generalize R[k] = e at *
      obtain ⟨e1, e2, ⟨x1, x2, x3⟩⟩ := e
      simp only at z0 z1 z2 z3 z4
      rcases here_cases lan id ⟨e1, e2, ⟨x1, x2, x3⟩⟩ with ⟨t0, t1⟩ | ⟨t0, t1, t2⟩ | ⟨t0, t1, t2⟩
      · have Hs := Lib.hid (Hskip.out t0)
        have n1 : ¬e1 = lan := by simpa using t1
        clear t0 t1
        go_wp2
        go_roundw
        case measure => simp [intOf]; omega
        case rel => exact ⟨k + 1, by go_num, hlt, by rw [Hs.out]; exact Hown.out, Hb.out⟩
      · have Hs := Lib.hid (Hskip.out t0)
        have n1 : e1 = lan := by simpa using t1
        have n2 : ¬e2 = id := by simpa using t2
        subst n1
        clear t0 t1 t2
        go_wp2
        go_roundw
        case measure => simp [intOf]; omega
        case rel => exact ⟨k + 1, by go_num, hlt, by rw [Hs.out]; exact Hown.out, Hb.out⟩
      · have Hs := Lib.hid (Hsnoc.out t0)
        have n1 : e1 = lan := by simpa using t1
        have n2 : e2 = id := by simpa using t2
        subst n1 n2
        clear t0 t1 t2
        have hS : listK (R.take k) e1 e2 = sortK (keysOf (R.take k) e1 e2) := rfl
        obtain ⟨S, hSS⟩ : ∃ S, listK (R.take k) e1 e2 = S := ⟨_, rfl⟩
        rw [hSS] at hSl hS Hown
        have hSsort : S = sortK (keysOf (R.take k) e1 e2) := hS
        have hend : ∀ j, j ≤ S.length → (∀ y ∈ S.drop j, lessK ⟨x1, x2, x3⟩ y = true) → (∀ h : 0 < j, ∀ hl : j - 1 < S.length, lessK ⟨x1, x2, x3⟩ S[j - 1] = false) → bub S ⟨x1, x2, x3⟩ j = listK (R.take (k + 1)) e1 e2 := by
          intro j hj hgt hle
          rw [Hs.out]
          subst hSsort
          exact bub_end hj hgt (fun h => hle h (by omega))
        have Hend := Lib.hid hend
        rw [hSS]
        clear hS hSS hSsort hend
        go_wp2_with (at_builtin; (refine app_row (e := 61) K3.cells (fun _ => rfl) (by decide) (bytes := 24) (by decide) infoKey rfl Try.underlying81 onesK (by rfl) _ _ (by rfl) w.heap.size _ S (by rfl) (Hown.out.alloc _) wr.heap.size ⟨x1, x2, x3⟩ (by rfl) (Blk.new _ _ _) (by omega) (by have := Hb.out.size; simp; omega) ?_); intro v5 w5 hown5 hg5 hor5; obtain ⟨g5, c5, hv5⟩ := shape_snoc hown5; subst hv5; have Hown5 := Lib.hid hown5; have Hb5 := Lib.hid ((Hb.out.alloc Hb.out.size _).grown hg5 (by have := Hb.out.size; simp; omega) (fun j hj => (Hown.out.block j hj).1)); clear hown5 hg5 hor5)
        have hS60 : S.length ≤ 2 ^ 20 := by omega
        clear z0 z1 z2 z3 z4 hc
        go_wp2
        go_loopw [9] (fun kk wq => ∃ j : Nat, kk = .int .i64 j ∧ j ≤ S.length ∧ (∀ y ∈ S.drop j, lessK ⟨x1, x2, x3⟩ y = true) ∧ OwnK wq w.heap.size (.slice (some ⟨g5, 0, none⟩) (S.length + 1) c5) (bub S ⟨x1, x2, x3⟩ j) ∧ Below w.heap.size w wq) (fun i _ => (intOf i).toNat)
        case atStart => exact ⟨S.length, by go_num, Nat.le_refl _, by simp, by rw [bub_start]; exact Hown5.out, Hb5.out⟩
        case round =>
          obtain ⟨wq, rfl⟩ : ∃ wq : World, wq = wr := ⟨_, rfl⟩
          obtain ⟨j, rfl, hj, hgt, hown, hb⟩ := hrel
          have hbl := bub_len (S := S) (x := ⟨x1, x2, x3⟩) hj
          have Hown3 := Lib.hid hown
          have Hb3 := Lib.hid hb
          have Hgt := Lib.hid hgt
          clear hown hb hgt
          rcases Nat.eq_zero_or_pos j with hj0 | hj0
          · subst hj0
            have Hfin := Lib.hid (Hend.out 0 (Nat.zero_le _) Hgt.out (fun h => absurd h (by omega)))
            go_wp2
            go_quiet (fail)
            go_wp2
            go_roundw
            case measure => simp [intOf]; omega
            case rel => exact ⟨k + 1, by go_num, hlt, by rw [← Hfin.out]; exact Hown3.out.below (below_drewN (Below.refl _ _) _), below_drewN Hb3.out _⟩
          · have hj1 : j - 1 < S.length := by omega
            have hx := bub_at (x := ⟨x1, x2, x3⟩) hj (by rw [hbl]; omega)
            have hy := bub_pred (x := ⟨x1, x2, x3⟩) hj hj0 (by rw [hbl]; omega)
            have hstep := bub_step (x := ⟨x1, x2, x3⟩) hj hj0
            have hmore := drop_more hj hj0 Hgt.out
            have hstop := Hend.out j hj Hgt.out
            generalize hyy : S[j - 1] = y at *
            have Hx := Lib.hid hx
            have Hy := Lib.hid hy
            have Hstep := Lib.hid hstep
            have Hmore := Lib.hid hmore
            have Hstop := Lib.hid (fun h => hstop (fun _ hl => by rw [hyy]; exact h))
            have Hbl := Lib.hid hbl
            clear hx hy hyy hstep hmore hstop
            obtain ⟨y1, y2, y3⟩ := y
            obtain ⟨c0, c1, c2, -, -, -, hg3, hg4⟩ := OwnK.c3 Hown3.out j (by rw [Hbl.out]; omega) _ Hx.out
            obtain ⟨d0, d1, d2, -, -, -, -, -⟩ := OwnK.c3 Hown3.out (j - 1) (by rw [Hbl.out]; omega) _ Hy.out
            simp only at c0 c1 c2 d0 d1 d2
            have b0 : decide ((0 : Int) < (j : Int)) = true := by simpa using hj0
            have b1 : IntKind.i64.wrap ((j : Int) - 1) = (j : Int) - 1 := IntWalk.i64_in _ (by omega)
            have b2 : ((j : Int) - 1).toNat = j - 1 := by omega
            have b3 : (0 : Int) ≤ (j : Int) - 1 := by omega
            have b4 : (j : Int) - 1 < ((S.length : Int) + 1) := by omega
            have b6 : (1 : Int) ≤ (j : Int) := by omega
            have b5 : (j : Int) < ((S.length : Int) + 1) := by omega
            go_wp2
            refine wp_draw_tail 12 (by kernel_rfl) (by kernel_rfl) ?_
            intro w2 hw2 hcell hfr hz1 hz2
            simp only [List.take_succ_cons, List.take_zero, List.drop_succ_cons, List.drop_zero]
            repeat still_step
            refine wpStill_nil ?_
            have hb2 : Below w.heap.size w w2 := hw2 ▸ Hb3.out.drew
            have Hown4 : Hid (OwnK w2 w.heap.size (.slice (some ⟨g5, 0, none⟩) (S.length + 1) c5) (bub S ⟨x1, x2, x3⟩ j)) := Lib.hid (hw2 ▸ Hown3.out.below (Below.refl _ _).drew)
            clear hw2 c0 c1 c2 d0 d1 d2
            cases hbt : lessK ⟨x1, x2, x3⟩ ⟨y1, y2, y3⟩
            · have Hfin := Lib.hid (Hstop.out hbt)
              have Hbt := Lib.hid hbt
              clear hbt
              go_wp2_with (go_at_call 98; (with_reducible refine Calls.mono (Less07 _ _ _ _ _ _ _ Hbt.out) ?_); rintro e w3 ⟨rfl, hb3⟩; have Hown6 := Lib.hid (Hown4.out.below hb3); have Hb6 := Lib.hid (hb2.trans (hb3.mono hb2.size)); clear hb3)
              go_roundw
              case measure => simp [intOf]; omega
              case rel => exact ⟨k + 1, by go_num, hlt, by rw [← Hfin.out]; exact Hown6.out, Hb6.out⟩
            · have Hm := Lib.hid (Hmore.out hbt)
              have Hbt := Lib.hid hbt
              clear hbt
              go_wp2_with (go_at_call 98; (with_reducible refine Calls.mono (Less07 _ _ _ _ _ _ _ Hbt.out) ?_); rintro e w3 ⟨rfl, hb3⟩; have hown6 := Hown4.out.below hb3; obtain ⟨c0, c1, c2, f0, f1, f2, hg5, hg6⟩ := OwnK.c3 hown6 j (by rw [Hbl.out]; omega) _ Hx.out; obtain ⟨d0, d1, d2, e0, e1', e2', -, -⟩ := OwnK.c3 hown6 (j - 1) (by rw [Hbl.out]; omega) _ Hy.out; simp only at c0 c1 c2 d0 d1 d2; have Hown6 := Lib.hid hown6; have Hb6 := Lib.hid (hb2.trans (hb3.mono hb2.size)); clear hb3 hown6)
              go_roundw
              case measure => simp [intOf]; omega
              case rel =>
                have hgb : ∀ n, w.heap.size ≤ (⟨g5, n, none⟩ : Addr).block := fun n => hg6
                refine ⟨j - 1, by go_num, by omega, Hm.out, ?_, ?_⟩
                · rw [← Hstep.out]
                  exact ((OwnK.set3 (OwnK.set3 Hown6.out (OwnK.len Hown6.out) j (by rw [Hbl.out]; omega) ⟨y1, y2, y3⟩) (by rw [List.length_set]; exact OwnK.len Hown6.out) (j - 1) (by rw [List.length_set, Hbl.out]; omega) ⟨x1, x2, x3⟩)).alloc _
                · exact ((((((Hb6.out.setCell (hgb _) _).setCell (hgb _) _).setCell (hgb _) _).setCell (hgb _) _).setCell (hgb _) _).setCell (hgb _) _).alloc (by simp; exact Hb6.out.size) _
    · have hkk : k = R.length := by omega
      subst hkk
      rw [List.take_length] at hown
      obtain ⟨A7, c7, hv7⟩ := hown.shape
      subst hv7
      have Hown := Lib.hid hown
      have Hb := Lib.hid hb
      clear hRr hown hb
      go_wp2
      go_ret
      exact ⟨_, rfl, Hown.out, Hb.out⟩

end Go.Proofs.Ytfhikkmgclkcdaa
