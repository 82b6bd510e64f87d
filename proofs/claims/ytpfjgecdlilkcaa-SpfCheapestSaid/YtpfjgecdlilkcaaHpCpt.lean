/-
  slices.Compact at hops: each once, of those that stand side by side.
-/
import Derived.Test.YtpfjgecdlilkcaaHpCat
import Derived.Test.YtpfjgecdlilkcaaGrown
namespace Go.Proofs.Ytpfjgecdlilkcaa
open Go.RowKit

theorem zeroHp (w : World) : (zeroValue 68).run Try.prog w = .ok (.agg #[.int .i64 0, .int .i64 0]) w := by kernel_rfl
theorem row_hp {w : World} {B : Nat} {A : Option Addr} {l : List Hp} (h : RowsH w B A l) (k : Nat) (hk : k < l.length) :
    ∃ b o, A = some ⟨b, o, none⟩ ∧ b < B ∧ w.cell? ⟨b, o + k * 2, none⟩ = some (.int .i64 l[k].lan) ∧ w.cell? ⟨b, o + k * 2 + 1, none⟩ = some (.int .i64 l[k].id) := by
  obtain ⟨b, o, e, hb, hc⟩ := h (by omega)
  exact ⟨b, o, e, hb, by simpa using hc k hk 0 _ (by omega) rfl, hc k hk 1 _ (by omega) rfl⟩
theorem set_flatH (l : List Hp) (k : Nat) (c : Hp) (hk : k < l.length) :
    (l.set k c).flatMap Hp.cells = ((l.flatMap Hp.cells).set (k * 2) (.int .i64 c.lan)).set (k * 2 + 1) (.int .i64 c.id) := by
  induction l generalizing k with
  | nil => simp at hk
  | cons d l ih =>
    cases k with
    | zero => simp [Hp.cells]
    | succ k =>
      have h := ih k (by simpa using hk)
      simp only [List.set_cons_succ, List.flatMap_cons, h]
      have h4 : (Hp.cells d).length = 2 := rfl
      rw [List.set_append_right _ _ (by omega), List.set_append_right _ _ (by omega)]
      simp only [h4, show (k + 1) * 2 - 2 = k * 2 by omega, show (k + 1) * 2 + 1 - 2 = k * 2 + 1 by omega]
section
variable {w : World} {B g cap n : Nat} {l : List Hp}
theorem OwnH.set2 (h : OwnH w B (.slice (some ⟨g, 0, none⟩) n cap) l) (hn : n = l.length) (k : Nat) (hk : k < l.length) (c : Hp) :
    OwnH ((w.setCell ⟨g, k * 2, none⟩ (.int .i64 c.lan)).setCell ⟨g, k * 2 + 1, none⟩ (.int .i64 c.id)) B (.slice (some ⟨g, 0, none⟩) n cap) (l.set k c) ∧ w.grownBy ((w.setCell ⟨g, k * 2, none⟩ (.int .i64 c.lan)).setCell ⟨g, k * 2 + 1, none⟩ (.int .i64 c.id)) (some g) := by
  subst hn
  have h1 := World.ownsRow.stored h (k * 2) (.int .i64 c.lan)
  have h2 := World.ownsRow.stored h1.1 (k * 2 + 1) (.int .i64 c.id)
  refine ⟨?_, grown_trans h1.2 h2.2⟩
  unfold OwnH OwnR
  rw [set_flatH l k c hk, List.length_set]
  exact h2.1
end
theorem neqHpN (a b a' b' : Int) (w : World) : (binOp .neq 68 (.agg #[.int .i64 a, .int .i64 b]) (.agg #[.int .i64 a', .int .i64 b'])).run Try.prog w = .ok (.bool (!decide ((⟨a, b⟩ : Hp) = ⟨a', b'⟩))) w := by
  have h := eqHpN a b a' b' w
  simp only [binOp]
  simp [Op.equal, Op.maxDepth, h]
/-- what lies in the row while it is gone over: the first k, and from the place of reading on, what was there -/
structure CptAt (w wr : World) (B g n c : Nat) (L : List Hp) (q k : Nat) : Prop where
  own : ∃ M, M.length = n ∧ OwnH wr B (.slice (some ⟨g, 0, none⟩) n c) M ∧ M.take k = cptN L q ∧ ∀ i, q ≤ i + 1 → M[i]? = L[i]?
  len : k = (cptN L q).length
  lt : k + 1 ≤ q
  bel : w.grownBy wr (some g)
theorem grown_below2 {w wr W : World} {row : Option Nat} (h : w.grownBy wr row) (hb : Below wr.heap.size wr W) : w.grownBy W row := grown_below h hb
theorem cpt_keep {w wr : World} {B g n c k p m i : Nat} {L : List Hp} {a b : Hp} (h : CptAt w wr B g n c L (k + p) m) (hl : ∃ (h1 : k + i + 1 < L.length) (h2 : k + i < L.length), L[k + i + 1]'h1 = a ∧ L[k + i]'h2 = b) (he : a = b) (hi : p = i + 1) (q : Nat) : CptAt w (wr.drewN q) B g n c L (k + (p + 1)) m := by
  subst hi
  obtain ⟨h1, h2, h3, h4⟩ := hl
  have hc : cptN L (k + (i + 1 + 1)) = cptN L (k + (i + 1)) := cptN_same (n := k + i) h1 (by rw [h3, h4, he])
  obtain ⟨M, g1, g2, g3, g4⟩ := h.own
  refine ⟨⟨M, g1, g2.below (below_drewN (Below.refl _ _) q), by rw [hc]; exact g3, fun j hj => g4 j (by omega)⟩, by rw [hc]; exact h.len, by have := h.lt; omega, ?_⟩
  exact ⟨h.bel.os, h.bel.tape, h.bel.output, h.bel.size, h.bel.block⟩
theorem cpt_put {w wr : World} {B g n c k p m i : Nat} {L : List Hp} {a b : Hp} (h : CptAt w wr B g n c L (k + p) m) (hl : ∃ (h1 : k + i + 1 < L.length) (h2 : k + i < L.length), L[k + i + 1]'h1 = a ∧ L[k + i]'h2 = b) (he : a ≠ b) (hi : p = i + 1) (q : Nat) (hn : n = L.length) : CptAt w (((wr.drewN q).setCell ⟨g, m * 2, none⟩ (.int .i64 a.lan)).setCell ⟨g, m * 2 + 1, none⟩ (.int .i64 a.id)) B g n c L (k + (p + 1)) (m + 1) := by
  subst hi
  obtain ⟨h1, h2, h3, h4⟩ := hl
  have hc : cptN L (k + (i + 1 + 1)) = cptN L (k + (i + 1)) ++ [a] := by
    have := cptN_new (n := k + i) h1 (by rw [h3, h4]; exact he)
    rw [h3] at this
    exact this
  obtain ⟨M, g1, g2, g3, g4⟩ := h.own
  have hm : m < M.length := by have := h.lt; omega
  have g5 := OwnH.set2 (g2.below (below_drewN (Below.refl _ _) q)) g1.symm m hm a
  have hlt := h.lt
  refine ⟨⟨M.set m a, by rw [List.length_set]; exact g1, g5.1, ?_, fun j hj => ?_⟩, by rw [hc, List.length_append, ← h.len]; rfl, by omega, ?_⟩
  · rw [hc, ← g3, List.take_succ_eq_append_getElem (by rw [List.length_set]; exact hm), List.getElem_set_self, List.take_set_of_le (Nat.le_refl _)]
  · rw [List.getElem?_set_ne (by omega)]
    exact g4 j (by omega)
  · refine grown_trans (c := wr.drewN q) ⟨h.bel.os, h.bel.tape, h.bel.output, h.bel.size, h.bel.block⟩ g5.2
set_option maxHeartbeats 8000000 in
set_option maxRecDepth 100000 in
theorem compactHp (A : Option Addr) (c n : Nat) (L : List Hp) (w : World) (B : Nat) (h : OwnH w B (.slice A n c) L) (hn : n = L.length) (hl : L.length ≤ 2 ^ 20) :
    Calls Try.prog 99 #[.slice A n c] w fun r w' => ∃ v, r = .returned v ∧ OwnH w' B v (cptL L) ∧ w.grownBy w' (Value.slice A n c).ownBlock ∧ (v.ownBlock = (Value.slice A n c).ownBlock) := by
  have hni : (n : Int) ≤ 1048576 := by omega
  have hnp : 0 ≤ (n : Int) := by omega
  by_cases h2 : n < 2
  · have hc : cptL L = L := by
      unfold cptL
      rw [cptN_take _ (Nat.le_refl _) (fun i hi _ => by omega), List.take_length]
    have Hc := Lib.hid hc
    have H := Lib.hid h
    have h2i : (n : Int) < 2 := by omega
    clear h hc
    go_enter Try.func99, Try.ntmps99
    go_wp2
    go_ret
    exact ⟨_, rfl, by rw [Hc.out]; exact H.out, ⟨rfl, rfl, rfl, Nat.le_refl _, fun _ _ _ => rfl⟩, rfl⟩
  · have h2i : ¬ (n : Int) < 2 := by omega
    obtain ⟨g, rfl⟩ : ∃ g, A = some ⟨g, 0, none⟩ := by
      rcases h.2 with ⟨hv, h0⟩ | ⟨g, cap', cur, hv, -⟩
      · omega
      · injection hv with hA
        exact ⟨g, hA⟩
    have hnc : n ≤ c := by
      rcases h.2 with ⟨hv, h0⟩ | ⟨g', cap', cur, hv, -, -, hnc, -⟩
      · cases hv
      · injection hv with e1 e2 e3
        omega
    have hcm : c ≤ maxLen := by
      rcases h.2 with ⟨hv, h0⟩ | ⟨g', cap', cur, hv, -, -, -, hcm, -⟩
      · cases hv
      · injection hv with e1 e2 e3
        omega
    have hci : (c : Int) ≤ 9223372036854775807 := by unfold maxLen at hcm; omega
    have hnci : (n : Int) ≤ (c : Int) := by omega
    have H := Lib.hid h
    have Hn := Lib.hid hn
    have H2 := Lib.hid h2
    clear h hn hl hcm h2
    go_enter Try.func99, Try.ntmps99
    go_wp2
    go_loopw [3] (fun i wr => ∃ (k q : Nat), i = .int .i64 k ∧ 1 ≤ k ∧ k ≤ n ∧ (∀ i (h1 : i + 1 < k) (h2 : i + 1 < L.length), L[i + 1]'h2 ≠ L[i]'(by omega)) ∧ wr = w.drewN q) (fun i _ => n - (intOf i).toNat)
    case atStart => exact ⟨1, 0, rfl, Nat.le_refl _, by have := H2.out; omega, fun i h1 _ => by omega, rfl⟩
    case round =>
      obtain ⟨k, q, rfl, hk1, hk, hd, rfl⟩ := hrel
      have hk1i : 1 ≤ (k : Int) := by omega
      by_cases hlt : k < n
      · have hki : (k : Int) < (n : Int) := by omega
        obtain ⟨j, hj⟩ : ∃ j, k = j + 1 := ⟨k - 1, by omega⟩
        have hkL : k < L.length := by have := Hn.out; omega
        have hown := H.out
        obtain ⟨g1, o1, e1, -, x0, x1⟩ := row_hp (OwnR.rows (C := 2) (cells := Hp.cells) (fun _ => rfl) hown).2 k hkL
        obtain ⟨g2, o2, e2, -, y0, y1⟩ := row_hp (OwnR.rows (C := 2) (cells := Hp.cells) (fun _ => rfl) hown).2 j (by omega)
        injection e1 with e1
        injection e1 with e1 e1'
        injection e2 with e2
        injection e2 with e2 e2'
        subst e1 e1' e2 e2'
        simp only [Nat.zero_add] at x0 x1 y0 y1
        obtain ⟨a, ha⟩ : ∃ a, L[k]'hkL = a := ⟨_, rfl⟩
        obtain ⟨b, hb⟩ : ∃ b, L[j]'(by omega) = b := ⟨_, rfl⟩
        rw [ha] at x0 x1
        rw [hb] at y0 y1
        have Hd := Lib.hid hd
        have Hj1 := Lib.hid (show ∃ (h1 : k < L.length) (h2 : j < L.length), L[k]'h1 = a ∧ L[j]'h2 = b from ⟨hkL, by omega, ha, hb⟩)
        have hkj : (k : Int) - 1 = (j : Int) := by omega
        have hji : (j : Int) < (n : Int) := by omega
        have Hj := Lib.hid hj
        have Hlt := Lib.hid hlt
        clear hown hd ha hb hkL hj hlt
        obtain ⟨a1, a2⟩ := a
        obtain ⟨b1, b2⟩ := b
        simp only at x0 x1 y0 y1
        have heq := fun w => eqHpN a1 a2 b1 b2 w
        by_cases he : (⟨a1, a2⟩ : Hp) = ⟨b1, b2⟩
        · rw [decide_eq_true he] at heq
          have He := Lib.hid he
          clear he
          have hst : ∀ W, Below w.heap.size w W → CptAt w W B g n c L (k + 1) k := by
            intro W hW
            obtain ⟨g1, g2, g3, g4⟩ := Hj1.out
            have hk := Hj.out
            subst hk
            have hcp : cptN L (j + 1 + 1) = L.take (j + 1) := by
              rw [cptN_same g1 (by rw [g3, g4]; exact He.out)]
              exact cptN_take _ (by omega) (fun i h1 h2 => Hd.out i h1 (by omega))
            refine ⟨⟨L, Hn.out.symm, H.out.below hW, hcp.symm, fun _ _ => rfl⟩, ?_, Nat.le_refl _, grown_below (World.grownBy.refl w (some g)) hW⟩
            rw [hcp, List.length_take]
            omega
          have Hst := Lib.hid hst
          have hnk : (n : Int) - (k : Int) = ((n - k : Nat) : Int) := by have := Hlt.out; omega
          clear hst
          go_wp2
          go_quiet (fail)
          go_wp2
          go_loopw [3, 5] (fun s i wr => ∃ (p m : Nat), i = .int .i64 p ∧ s = .int .i64 m ∧ 1 ≤ p ∧ p ≤ n - k ∧ CptAt w wr B g n c L (k + p) m) (fun _ i _ => (n - k) - (intOf i).toNat)
          case atStart => exact ⟨1, k, rfl, rfl, Nat.le_refl _, by have := Hlt.out; omega, Hst.out _ (below_drewN (Below.refl _ _) _)⟩
          case round =>
            obtain ⟨p, m, rfl, rfl, hp1, hp, hst⟩ := hrel
            clear x0 x1 y0 y1 heq Hst
            obtain ⟨M, hM, hown, hMt, hMs⟩ := hst.own
            have Hst := Lib.hid hst
            have Hown := Lib.hid hown
            have HM := Lib.hid hM
            have HMt := Lib.hid hMt
            have HMs := Lib.hid hMs
            have Hp1 := Lib.hid hp1
            have hpi1 : 1 ≤ (p : Int) := by omega
            by_cases hpl : p < n - k
            · have hpi : (p : Int) < ((n - k : Nat) : Int) := by omega
              have hpn : p ≤ 1048576 := by omega
              obtain ⟨i, hi⟩ : ∃ i, p = i + 1 := ⟨p - 1, by omega⟩
              have hpi2 : (p : Int) - 1 = (i : Int) := by omega
              have hii : (i : Int) < ((n - k : Nat) : Int) := by omega
              have h1 : k + p < M.length := by omega
              have h2 : k + i < M.length := by omega
              obtain ⟨g1, o1, e1, -, x0, x1⟩ := row_hp (OwnR.rows (C := 2) (cells := Hp.cells) (fun _ => rfl) hown).2 (k + p) h1
              obtain ⟨g2, o2, e2, -, y0, y1⟩ := row_hp (OwnR.rows (C := 2) (cells := Hp.cells) (fun _ => rfl) hown).2 (k + i) h2
              injection e1 with e1
              injection e1 with e1 e1'
              injection e2 with e2
              injection e2 with e2 e2'
              subst e1 e1' e2 e2'
              simp only [Nat.zero_add, Nat.add_mul] at x0 x1 y0 y1
              obtain ⟨a, ha⟩ : ∃ a, M[k + p]'h1 = a := ⟨_, rfl⟩
              obtain ⟨b, hb⟩ : ∃ b, M[k + i]'h2 = b := ⟨_, rfl⟩
              rw [ha] at x0 x1
              rw [hb] at y0 y1
              have hLa : ∃ (h1 : k + i + 1 < L.length) (h2 : k + i < L.length), L[k + i + 1]'h1 = a ∧ L[k + i]'h2 = b := by
                have g1 := hMs (k + p) (by omega)
                have g2 := hMs (k + i) (by omega)
                rw [List.getElem?_eq_getElem h1, ha] at g1
                rw [List.getElem?_eq_getElem h2, hb] at g2
                obtain ⟨q1, q2⟩ := List.getElem?_eq_some_iff.1 g1.symm
                obtain ⟨q3, q4⟩ := List.getElem?_eq_some_iff.1 g2.symm
                subst hi
                exact ⟨q1, q3, q2, q4⟩
              have HLa := Lib.hid hLa
              have Hi := Lib.hid hi
              have Hpl := Lib.hid hpl
              have hmk : (m : Int) < (n : Int) := by have := hst.lt; have := Hn.out; omega
              have hmn : m < M.length := by have := hst.lt; omega
              obtain ⟨g3, o3, e3, -, v0, v1⟩ := row_hp (OwnR.rows (C := 2) (cells := Hp.cells) (fun _ => rfl) hown).2 m hmn
              injection e3 with e3
              injection e3 with e3 e3'
              subst e3 e3'
              simp only [Nat.zero_add] at v0 v1
              obtain ⟨v, hv⟩ : ∃ v, M[m]'hmn = v := ⟨_, rfl⟩
              rw [hv] at v0 v1
              clear hv
              have f0 := OwnR.froz hown (m * 2)
              have f1 := OwnR.froz hown (m * 2 + 1)
              have Hmn := Lib.hid hmn
              clear hst hown hM hMt hMs hi hpl h1 h2 ha hb hLa hp1 hp hmn
              obtain ⟨a1, a2⟩ := a
              obtain ⟨b1, b2⟩ := b
              simp only at x0 x1 y0 y1
              have hne := fun w => neqHpN a1 a2 b1 b2 w
              by_cases he : (⟨a1, a2⟩ : Hp) = ⟨b1, b2⟩
              · rw [decide_eq_true he] at hne
                have He2 := Lib.hid he
                clear he
                clear v0 v1 f0 f1
                go_wp2
                go_quiet (fail)
                go_wp2
                go_roundw
                case measure => have := Hpl.out; simp [intOf]; omega
                case rel => exact ⟨p + 1, m, by go_num, rfl, by omega, Hpl.out, cpt_keep Hst.out HLa.out He2.out Hi.out _⟩
              · rw [decide_eq_false he] at hne
                have He2 := Lib.hid he
                clear he
                go_wp2
                go_quiet (fail)
                go_wp2
                go_roundw
                case measure => have := Hpl.out; simp [intOf]; omega
                case rel => exact ⟨p + 1, m + 1, by go_num, by go_num, by omega, Hpl.out, cpt_put Hst.out HLa.out He2.out Hi.out _ Hn.out⟩
            · have hpe : k + p = L.length := by have := Hn.out; have := Hlt.out; omega
              have hcm : M.take m = cptL L := by rw [hMt, hpe]; rfl
              have hlm : m = (cptL L).length := by rw [hst.len, hpe]; rfl
              have hmn : m < n := by have := hst.lt; have := Hn.out; omega
              have Hcm := Lib.hid hcm
              have Hbel := Lib.hid hst.bel
              have hmi : (m : Int) < (n : Int) := by omega
              have hmi2 : (m : Int) ≤ (c : Int) := by omega
              have hple : ¬ (p : Int) < ((n - k : Nat) : Int) := by omega
              have Hmn := Lib.hid hmn
              have hnm : (n : Int) - (m : Int) = ((n - m : Nat) : Int) := by omega
              clear hst hown hM hMt hMs hpl hp1 hp hcm hmn hpe hlm
              go_wp2_with ((refine wpList_clear_row (e := 68) (C := 2) (cells := Hp.cells) (fun _ => rfl) Try.underlying57 zeroHp rfl (by intro u hu; simp [Value.cells] at hu; subst hu; rfl) (by rfl) _ (by rfl) Hown.out HM.out.symm m (Nat.le_of_lt Hmn.out) (n - m) (c - m) (m * 2) rfl (by have := Hmn.out; omega) (by rfl) ?_); intro w5 hown5 hg5; have HO5 := Lib.hid hown5; have HG5 := Lib.hid hg5; clear hown5 hg5)
              go_ret
              exact ⟨_, rfl, by have h := HO5.out; rw [Hcm.out] at h; exact h, grown_trans Hbel.out HG5.out, rfl⟩
        · rw [decide_eq_false he] at heq
          have He := Lib.hid he
          clear he
          go_wp2
          go_quiet (fail)
          go_wp2
          go_roundw
          case measure => have := Hlt.out; simp [intOf]; omega
          case rel =>
            refine ⟨k + 1, _, by go_num, by omega, Hlt.out, fun i h1 h2 => ?_, rfl⟩
            by_cases hij : i = j
            · subst hij
              have hk := Hj.out
              subst hk
              obtain ⟨g1, g2, g3, g4⟩ := Hj1.out
              rw [g3, g4]
              exact He.out
            · exact Hd.out i (by omega) h2
      · have hkn : k = n := by omega
        subst hkn
        have hkk : ¬ (k : Int) < (k : Int) := by omega
        have hc : cptL L = L := by
          unfold cptL
          rw [cptN_take _ (Nat.le_refl _) (fun i hi h => hd i (by rw [Hn.out]; exact hi) (by omega)), List.take_length]
        have Hc := Lib.hid hc
        clear hd hc
        go_wp2
        go_ret
        exact ⟨_, rfl, by rw [Hc.out]; exact H.out.below (below_drewN (Below.refl _ _) q), ⟨rfl, rfl, rfl, Nat.le_refl _, fun _ _ _ => rfl⟩, rfl⟩

end Go.Proofs.Ytpfjgecdlilkcaa
