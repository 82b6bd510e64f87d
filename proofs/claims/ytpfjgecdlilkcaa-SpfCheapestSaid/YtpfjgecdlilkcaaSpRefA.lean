/-
  Layer 21: the document's words of one vertex, one edge; where a vertex' row is.
-/
import Derived.Test.YtpfjgecdlilkcaaSpTree
import Derived.Test.YtpfjgecdlilkcaaCmpTail
import Derived.Test.YtpfjgecdlilkcaaRegionP
namespace Go.Proofs.Ytpfjgecdlilkcaa
open Go.RowKit

/-- a row of costs -/
def rcells (p : RowV) : List Value := [.int .i64 p.1.kind, .int .i64 p.1.id, .int .i64 p.2.c, .int .i64 p.2.h]
theorem onesRw (x : RowV) : ∀ u ∈ rcells x, u.oneCell' = true := by
  intro u hu
  simp [rcells] at hu
  rcases hu with rfl | rfl | rfl | rfl <;> rfl
theorem infoRw : (Try.prog.info? 120).map (fun i => (i.zero, i.size, i.bytes)) = some (some (.agg #[.int .i64 0, .int .i64 0, .int .i64 0, .int .i64 0]), 4, 32) := by kernel_rfl
theorem row_rw {w : World} {B : Nat} {A : Option Addr} {l : List RowV} (h : RowsAt 4 rcells w B A l) (k : Nat) (hk : k < l.length) :
    ∃ b o, A = some ⟨b, o, none⟩ ∧ b < B ∧ w.cell? ⟨b, o + k * 4, none⟩ = some (.int .i64 l[k].1.kind) ∧ w.cell? ⟨b, o + k * 4 + 1, none⟩ = some (.int .i64 l[k].1.id) ∧ w.cell? ⟨b, o + k * 4 + 2, none⟩ = some (.int .i64 l[k].2.c) ∧ w.cell? ⟨b, o + k * 4 + 3, none⟩ = some (.int .i64 l[k].2.h) := by
  obtain ⟨b, o, e, hb, hc⟩ := h (by omega)
  exact ⟨b, o, e, hb, by simpa using hc k hk 0 _ (by omega) rfl, hc k hk 1 _ (by omega) rfl, hc k hk 2 _ (by omega) rfl, hc k hk 3 _ (by omega) rfl⟩
set_option maxHeartbeats 2000000 in
set_option maxRecDepth 100000 in
theorem refMay_any (k i : Int) (w : World) {t : Bool} (ht : mayV ⟨k, i⟩ = t) : Calls Try.prog 57 #[.agg #[.int .i64 k, .int .i64 i]] w fun r w' => r = .returned (.bool t) ∧ Below w.heap.size w w' := by
  subst ht
  have Hb := Lib.hid ((Below.refl w.heap.size w).alloc (Nat.le_refl _) (.cells #[.int .i64 k, .int .i64 i] 40))
  have hk := Blk.new w 40 #[.int .i64 k, .int .i64 i]
  obtain ⟨w0, hW0⟩ : ∃ w0, w.alloc (.cells #[.int .i64 k, .int .i64 i] 40) = w0 := ⟨_, rfl⟩
  rw [hW0] at hk Hb
  obtain ⟨a0, a1, -, -⟩ := hk.cells2
  clear hk
  by_cases h1 : k = 1
  · subst h1
    by_cases h2 : 1 ≤ i
    · by_cases h3 : i ≤ 15
      · have Hr := Lib.hid (show mayV ⟨1, i⟩ = true by simp [mayV, h2, h3])
        go_enter Try.func57, Try.ntmps57
        go_wp2
        go_ret
        exact ⟨by rw [Hr.out]; rfl, Hb.out⟩
      · have Hr := Lib.hid (show mayV ⟨1, i⟩ = false by simp [mayV, h3])
        go_enter Try.func57, Try.ntmps57
        go_wp2
        go_ret
        exact ⟨by rw [Hr.out]; rfl, Hb.out⟩
    · have Hr := Lib.hid (show mayV ⟨1, i⟩ = false by simp [mayV, h2])
      go_enter Try.func57, Try.ntmps57
      go_wp2
      go_ret
      exact ⟨by rw [Hr.out]; rfl, Hb.out⟩
  · by_cases h2 : k = 2
    · subst h2
      by_cases h3 : 0 ≤ i
      · by_cases h4 : i ≤ 63
        · have Hr := Lib.hid (show mayV ⟨2, i⟩ = true by simp [mayV, h3, h4])
          go_enter Try.func57, Try.ntmps57
          go_wp2
          go_ret
          exact ⟨by rw [Hr.out]; rfl, Hb.out⟩
        · have Hr := Lib.hid (show mayV ⟨2, i⟩ = false by simp [mayV, h4])
          go_enter Try.func57, Try.ntmps57
          go_wp2
          go_ret
          exact ⟨by rw [Hr.out]; rfl, Hb.out⟩
      · have Hr := Lib.hid (show mayV ⟨2, i⟩ = false by simp [mayV, h3])
        go_enter Try.func57, Try.ntmps57
        go_wp2
        go_ret
        exact ⟨by rw [Hr.out]; rfl, Hb.out⟩
    · have Hr := Lib.hid (show mayV ⟨k, i⟩ = false by simp [mayV, h1, h2])
      go_enter Try.func57, Try.ntmps57
      go_wp2
      go_ret
      exact ⟨by rw [Hr.out]; rfl, Hb.out⟩
set_option maxHeartbeats 4000000 in
set_option maxRecDepth 100000 in
theorem refCnt_any (e1 e2 e3 e4 e5 : Int) (w : World) {t : Bool} (ht : cntE ⟨e1, e2, e3, e4, e5⟩ = t) : Calls Try.prog 31 #[.agg #[.int .i64 e1, .int .i64 e2, .int .i64 e3, .int .i64 e4, .int .i64 e5]] w fun r w' => r = .returned (.bool t) ∧ Below w.heap.size w w' := by
  subst ht
  have Hb := Lib.hid ((Below.refl w.heap.size w).alloc (Nat.le_refl _) (.cells #[.int .i64 e1, .int .i64 e2, .int .i64 e3, .int .i64 e4, .int .i64 e5] 42))
  have hk := Blk.new w 42 #[.int .i64 e1, .int .i64 e2, .int .i64 e3, .int .i64 e4, .int .i64 e5]
  obtain ⟨w0, hW0⟩ : ∃ w0, w.alloc (.cells #[.int .i64 e1, .int .i64 e2, .int .i64 e3, .int .i64 e4, .int .i64 e5] 42) = w0 := ⟨_, rfl⟩
  rw [hW0] at hk Hb
  have HK := Lib.hid hk
  obtain ⟨a0, a1, a2, a3, a4, -⟩ := hk.cells5
  clear hk
  obtain ⟨m1, hm1⟩ : ∃ m, mayV ⟨e1, e2⟩ = m := ⟨_, rfl⟩
  obtain ⟨m2, hm2⟩ : ∃ m, mayV ⟨e3, e4⟩ = m := ⟨_, rfl⟩
  have HM1 := Lib.hid (fun W => refMay_any e1 e2 W hm1)
  have HM2 := Lib.hid (fun W => refMay_any e3 e4 W hm2)
  have Hc := Lib.hid (show cntE ⟨e1, e2, e3, e4, e5⟩ = (m1 && m2 && ((decide (e1 = 1) && decide (e3 = 2) && decide (1 ≤ e5 ∧ e5 ≤ 100)) || (decide (e1 = 2) && decide (e3 = 1) && decide (e5 = 0)))) by rw [← hm1, ← hm2]; rfl)
  clear hm1 hm2
  go_enter Try.func31, Try.ntmps31
  go_wp2_with fail
  with_reducible refine Calls.mono (HM1.out _) ?_
  rintro r w1 ⟨rfl, hb1⟩
  have HB1 := Lib.hid (below_trans Hb.out Hb.out.size hb1)
  have HK1 := Lib.hid (HK.out.below hb1 HK.out.lt)
  clear a0 a1 a2 a3 a4 hb1
  obtain ⟨a0, a1, a2, a3, a4, -⟩ := HK1.out.cells5
  cases m1 with
  | false =>
    go_wp2
    go_ret
    exact ⟨by rw [Hc.out]; rfl, HB1.out⟩
  | true =>
    go_wp2_with fail
    with_reducible refine Calls.mono (HM2.out _) ?_
    rintro r w2 ⟨rfl, hb2⟩
    have HB2 := Lib.hid (below_trans HB1.out HB1.out.size hb2)
    have HK2 := Lib.hid (HK1.out.below hb2 HK1.out.lt)
    clear a0 a1 a2 a3 a4 hb2
    obtain ⟨a0, a1, a2, a3, a4, -⟩ := HK2.out.cells5
    cases m2 with
    | false =>
      go_wp2
      go_ret
      exact ⟨by rw [Hc.out]; rfl, HB2.out⟩
    | true =>
      by_cases h1 : e1 = 1
      · subst h1
        by_cases h2 : e3 = 2
        · subst h2
          by_cases h3 : 1 ≤ e5
          · by_cases h4 : e5 ≤ 100
            · have Hr := Lib.hid (Hc.out.trans (c := true) (by simp [h3, h4]))
              go_wp2
              go_ret
              exact ⟨by rw [Hr.out]; rfl, HB2.out⟩
            · have Hr := Lib.hid (Hc.out.trans (c := false) (by simp [h4]))
              have hd4 : decide (e5 ≤ 100) = false := by simp [h4]
              go_wp2
              go_ret
              exact ⟨by rw [Hr.out]; rfl, HB2.out⟩
          · have Hr := Lib.hid (Hc.out.trans (c := false) (by simp [h3]))
            go_wp2
            go_ret
            exact ⟨by rw [Hr.out]; rfl, HB2.out⟩
        · have Hr := Lib.hid (Hc.out.trans (c := false) (by simp [h2]))
          go_wp2
          go_ret
          exact ⟨by rw [Hr.out]; rfl, HB2.out⟩
      · by_cases h2 : e1 = 2
        · subst h2
          by_cases h3 : e3 = 1
          · subst h3
            by_cases h4 : e5 = 0
            · subst h4
              have Hr := Lib.hid (Hc.out.trans (c := true) (by simp))
              go_wp2
              go_ret
              exact ⟨by rw [Hr.out]; rfl, HB2.out⟩
            · have Hr := Lib.hid (Hc.out.trans (c := false) (by simp [h4]))
              have hd4 : (e5 == 0) = false := by simp [h4]
              go_wp2
              go_ret
              exact ⟨by rw [Hr.out]; rfl, HB2.out⟩
          · have Hr := Lib.hid (Hc.out.trans (c := false) (by simp [h3]))
            go_wp2
            go_ret
            exact ⟨by rw [Hr.out]; rfl, HB2.out⟩
        · have Hr := Lib.hid (Hc.out.trans (c := false) (by simp [h1, h2]))
          go_wp2
          go_ret
          exact ⟨by rw [Hr.out]; rfl, HB2.out⟩
/-- where a vertex' row is; -1: there is none -/
def fixV (L : List RowV) (v : Vx) : Int := if ixV v L < L.length then (ixV v L : Int) else -1
theorem ix_take {L : List RowV} {v : Vx} {k : Nat} (hk : k ≤ L.length) (h : ∀ p ∈ L.take k, p.1 ≠ v) : k ≤ ixV v L := by
  unfold ixV
  rcases Nat.lt_or_ge (L.findIdx fun p => decide (p.1 = v)) k with hlt | hge
  · exfalso
    have h1 : L.findIdx (fun p => decide (p.1 = v)) < L.length := by omega
    have h2 := List.findIdx_getElem (p := fun p : RowV => decide (p.1 = v)) (xs := L) (w := h1)
    rw [decide_eq_true_eq] at h2
    refine h _ ?_ h2
    rw [List.mem_take_iff_getElem]
    exact ⟨_, by omega, rfl⟩
  · exact hge
theorem ix_at {L : List RowV} {v : Vx} {k : Nat} (hk : k < L.length) (h : ∀ p ∈ L.take k, p.1 ≠ v) (he : L[k].1 = v) : fixV L v = k := by
  have h1 := ix_take (by omega) h
  have h2 : ixV v L = k := by
    unfold ixV at h1 ⊢
    rcases Nat.lt_or_ge k (L.findIdx fun p => decide (p.1 = v)) with hlt | hge
    · have := List.not_of_lt_findIdx hlt
      simp [he] at this
    · omega
  unfold fixV
  rw [h2, if_pos hk]
theorem ix_not {L : List RowV} {v : Vx} (h : ∀ p ∈ L, p.1 ≠ v) : fixV L v = -1 := by
  have h1 := ix_take (Nat.le_refl _) (by rw [List.take_length]; exact h)
  unfold fixV
  rw [if_neg (by omega)]
theorem notin_more {L : List RowV} {v : Vx} {k : Nat} (hk : k < L.length) (h : ∀ p ∈ L.take k, p.1 ≠ v) (he : L[k].1 ≠ v) : ∀ p ∈ L.take (k + 1), p.1 ≠ v := by
  intro p hp
  rw [List.take_succ_eq_append_getElem hk, List.mem_append, List.mem_singleton] at hp
  rcases hp with hp | rfl
  · exact h p hp
  · exact he
set_option maxHeartbeats 2000000 in
set_option maxRecDepth 100000 in
theorem refFind_any (A : Option Addr) (c : Nat) (L : List RowV) (k1 k2 : Int) (w : World) (hL : RowsAt 4 rcells w w.heap.size A L) (hlen : L.length ≤ 2 ^ 20) (n : Nat) (hn : n = L.length) {z : Int} (hz : fixV L ⟨k1, k2⟩ = z) :
    Calls Try.prog 59 #[.slice A n c, .agg #[.int .i64 k1, .int .i64 k2]] w fun r w' => r = .returned (.int .i64 z) ∧ Below w.heap.size w w' := by
  subst hn
  have HL := Lib.hid (hL.below ((Below.refl w.heap.size w).alloc (Nat.le_refl _) (.cells #[.int .i64 k1, .int .i64 k2] 40)))
  have Hk := Lib.hid (Blk.new w 40 #[.int .i64 k1, .int .i64 k2])
  have Hb0 := Lib.hid ((Below.refl w.heap.size w).alloc (Nat.le_refl _) (.cells #[.int .i64 k1, .int .i64 k2] 40))
  have Hz := Lib.hid hz
  have hk0 := Hk.out.lt
  clear hL hz
  obtain ⟨w0, hW0⟩ : ∃ w0, w.alloc (.cells #[.int .i64 k1, .int .i64 k2] 40) = w0 := ⟨_, rfl⟩
  rw [hW0] at HL Hk Hb0 hk0
  go_enter Try.func59, Try.ntmps59
  go_wp2
  go_loopw [5] (fun i wr => ∃ k : Nat, i = .int .i64 k ∧ k ≤ L.length ∧ (∀ p ∈ L.take k, p.1 ≠ ⟨k1, k2⟩) ∧ Below w0.heap.size w0 wr) (fun i _ => L.length - (intOf i).toNat)
  case atStart => exact ⟨0, rfl, Nat.zero_le _, by simp, Below.refl _ _⟩
  case round =>
    obtain ⟨k, rfl, hk, h0, hb⟩ := hrel
    have hLr := (HL.out.more Hb0.out.size).below hb
    have hkr := Hk.out.below hb hk0
    obtain ⟨y0, y1, -, -⟩ := hkr.cells2
    have H0 := Lib.hid h0
    have Hb := Lib.hid hb
    by_cases hlt : k < L.length
    · obtain ⟨g, o, rfl, -, z0, z1, z2, z3⟩ := row_rw hLr k hlt
      have hkl : (k : Int) < (L.length : Int) := by omega
      have Hat := Lib.hid (fun he => ix_at hlt h0 (v := ⟨k1, k2⟩) he)
      have Hmore := Lib.hid (fun he => notin_more hlt h0 (v := ⟨k1, k2⟩) he)
      clear hLr hkr h0 hb
      generalize L[k] = e at *
      obtain ⟨⟨e1, e2⟩, ⟨e3, e4⟩⟩ := e
      simp only at z0 z1 z2 z3
      have heq := fun w => eqVxN e1 e2 k1 k2 w
      by_cases he : (⟨e1, e2⟩ : Vx) = ⟨k1, k2⟩
      · have Hz2 := Lib.hid ((Hz.out.symm.trans (Hat.out he)))
        rw [decide_eq_true he] at heq
        clear he
        go_wp2
        go_quiet (fail)
        go_wp2
        go_ret
        exact ⟨by rw [Hz2.out]; rfl, below_drewN (Hb0.out.trans (Hb.out.mono Hb0.out.size)) _⟩
      · have Hmore2 := Lib.hid (Hmore.out he)
        rw [decide_eq_false he] at heq
        clear he
        go_wp2
        go_quiet (fail)
        go_wp2
        go_roundw
        case measure => simp [intOf]; omega
        case rel => exact ⟨k + 1, by go_num, hlt, Hmore2.out, below_drewN Hb.out _⟩
    · have hkk : k = L.length := by omega
      subst hkk
      have Hz2 := Lib.hid (Hz.out.symm.trans (ix_not (by rw [List.take_length] at h0; exact h0)))
      clear hLr hkr h0 hb
      go_wp2
      go_ret
      exact ⟨by rw [Hz2.out]; rfl, Hb0.out.trans (Hb.out.mono Hb0.out.size)⟩

end Go.Proofs.Ytpfjgecdlilkcaa
