/-
  Layer 16: the document's lists: whether a key is on one; which key is less; keys alike; the first three.
-/
import Derived.Test.YtfhikkmgclkcdaaRfBase
namespace Go.Proofs.Ytfhikkmgclkcdaa
open Go.RowKit

theorem eqKeyR (a b c a' b' c' : Int) (w : World) : (Op.equalIn 10000 61 (.agg #[.int .i64 a, .int .i64 b, .int .i64 c]) (.agg #[.int .i64 a', .int .i64 b', .int .i64 c'])).run Try.prog w = .ok (decide ((⟨a, b, c⟩ : K3) = ⟨a', b', c'⟩)) w := eqK3 ⟨a, b, c⟩ ⟨a', b', c'⟩ w

set_option maxHeartbeats 2000000 in
set_option maxRecDepth 100000 in
theorem refHas_any (q : Nat) (v : Value) (R : List E5) (k1 k2 k3 : Int) (w : World) (hR : RfAt w q v R) (hlen : R.length ≤ 2 ^ 20) {z : Bool} (hz : hasB16 R ⟨k1, k2, k3⟩ = z) :
    Calls Try.prog 59 #[.pointer (some ⟨q, 0, none⟩), .agg #[.int .i64 k1, .int .i64 k2, .int .i64 k3]] w fun r w' => r = .returned (.bool z) ∧ Below w.heap.size w w' := by
  obtain ⟨A, cap, hv⟩ := hR.own.shape
  subst hv
  have hR1 := hR.alloc (.cells #[.int .i64 k1, .int .i64 k2, .int .i64 k3] 61)
  have HR1 := Lib.hid hR1
  have Hk := Lib.hid (Blk.new w 61 #[.int .i64 k1, .int .i64 k2, .int .i64 k3])
  have Hb0 := Lib.hid ((Below.refl w.heap.size w).alloc (Nat.le_refl _) (.cells #[.int .i64 k1, .int .i64 k2, .int .i64 k3] 61))
  have Hz := Lib.hid hz
  have hk0 := Hk.out.lt
  clear hR hR1 hz
  obtain ⟨w0, hW0⟩ : ∃ w0, w.alloc (.cells #[.int .i64 k1, .int .i64 k2, .int .i64 k3] 61) = w0 := ⟨_, rfl⟩
  rw [hW0] at HR1 Hk Hb0 hk0
  go_enter Try.func59, Try.ntmps59
  go_wp2
  go_loopw [5] (fun i wr => ∃ k : Nat, i = .int .i64 k ∧ k ≤ R.length ∧ (R.take k).any (dropB ⟨k1, k2, k3⟩) = false ∧ Below w0.heap.size w0 wr) (fun i _ => R.length - (intOf i).toNat)
  case atStart => exact ⟨0, rfl, Nat.zero_le _, by simp, Below.refl _ _⟩
  case round =>
    obtain ⟨k, rfl, hk, h0, hb⟩ := hrel
    have hRr := HR1.out.keep hb
    have hkr := Hk.out.below hb hk0
    have hc := hRr.cell
    obtain ⟨y0, y1, y2⟩ : _ ∧ _ ∧ _ := ⟨hkr.cell 0, hkr.cell 1, hkr.cell 2⟩
    simp only [List.getElem?_toArray, List.getElem?_cons_zero, List.getElem?_cons_succ] at y0 y1 y2
    have H0 := Lib.hid h0
    have Hb := Lib.hid hb
    by_cases hlt : k < R.length
    · obtain ⟨g, c, hv, z0, z1, z2, z3, z4⟩ := hRr.row k hlt
      injection hv with hA hn hcap
      subst hA hcap
      have hkl : (k : Int) < (R.length : Int) := by omega
      have hat : dropB ⟨k1, k2, k3⟩ R[k] = true → hasB16 R ⟨k1, k2, k3⟩ = true := fun h => List.any_eq_true.2 ⟨R[k], List.getElem_mem hlt, h⟩
      have hmore : dropB ⟨k1, k2, k3⟩ R[k] = false → (R.take (k + 1)).any (dropB ⟨k1, k2, k3⟩) = false := fun h => by
        rw [List.take_succ_eq_append_getElem hlt, List.any_append, h0]; simp [h]
      have Hmore := Lib.hid hmore
      have Hat := Lib.hid hat
      clear hRr hkr h0 hb hmore hat hn
      generalize R[k] = e at *
      obtain ⟨e1, e2, ⟨e3, e4, e5⟩⟩ := e
      simp only at z0 z1 z2 z3 z4
      have heq := fun w => eqKeyR e3 e4 e5 k1 k2 k3 w
      by_cases he : (⟨e3, e4, e5⟩ : K3) = ⟨k1, k2, k3⟩
      · have hz2 : z = true := by rw [← Hz.out]; exact Hat.out (by simp [dropB, he])
        subst hz2
        rw [decide_eq_true he] at heq
        clear he
        go_wp2
        go_quiet (fail)
        go_wp2
        go_ret
        exact ⟨rfl, below_drewN (Hb0.out.trans (Hb.out.mono Hb0.out.size)) _⟩
      · have Hmore2 := Lib.hid (Hmore.out (by simpa [dropB] using he))
        rw [decide_eq_false he] at heq
        clear he
        go_wp2
        go_quiet (fail)
        go_wp2
        go_roundw
        case measure => simp [intOf]; omega
        case rel => exact ⟨k + 1, by go_num, hlt, Hmore2.out, below_drewN Hb.out _⟩
    · have hkk : k = R.length := by omega
      subst hkk
      have hz2 : z = false := by rw [← Hz.out, ← H0.out, List.take_length]; rfl
      subst hz2
      clear hRr hkr h0 hb
      go_wp2
      go_ret
      exact ⟨rfl, Hb0.out.trans (Hb.out.mono Hb0.out.size)⟩

theorem less_cases (a1 a2 a3 b1 b2 b3 : Int) : (¬a1 = b1 ∧ less3 a1 a2 a3 b1 b2 b3 = decide (a1 < b1)) ∨ (a1 = b1 ∧ ¬a2 = b2 ∧ less3 a1 a2 a3 b1 b2 b3 = decide (a2 < b2)) ∨ (a1 = b1 ∧ a2 = b2 ∧ less3 a1 a2 a3 b1 b2 b3 = decide (a3 < b3)) := by
  unfold less3
  by_cases h1 : a1 = b1
  · by_cases h2 : a2 = b2
    · right; right; simp [h1, h2]
    · right; left; simp [h1, h2]
  · left; simp [h1]
set_option maxHeartbeats 1000000 in
theorem Less07 (a1 a2 a3 b1 b2 b3 : Int) (w : World) {z : Bool} (hz : lessK ⟨a1, a2, a3⟩ ⟨b1, b2, b3⟩ = z) :
    Calls Try.prog 98 #[.agg #[.int .i64 a1, .int .i64 a2, .int .i64 a3], .agg #[.int .i64 b1, .int .i64 b2, .int .i64 b3]] w fun r w' => r = .returned (.bool z) ∧ Below w.heap.size w w' := by
  have Hb := Lib.hid (fun o q => ((Below.refl w.heap.size w).alloc (Nat.le_refl _) o).alloc (by simp) q)
  have hz : less3 a1 a2 a3 b1 b2 b3 = z := hz
  rcases less_cases a1 a2 a3 b1 b2 b3 with ⟨h, e⟩ | ⟨rfl, h, e⟩ | ⟨rfl, rfl, e⟩
  all_goals
    rw [e] at hz
    subst hz
    clear e
    go_enter Try.func98, Try.ntmps98
    go_wp2
    go_ret
    exact ⟨rfl, Hb.out _ _⟩

set_option maxHeartbeats 2000000 in
set_option maxRecDepth 100000 in
theorem Keys_same (A A' : Option Addr) (c c' : Nat) (l : List K3) (w : World) (B B' : Nat) (h : RowsAt 3 K3.cells w B A l) (h' : RowsAt 3 K3.cells w B' A' l) (hB : B ≤ w.heap.size) (hB' : B' ≤ w.heap.size) (hlen : l.length ≤ 2 ^ 20) (n n' : Nat) (hn : n = l.length) (hn' : n' = l.length) :
    Calls Try.prog 56 #[.slice A n c, .slice A' n' c'] w fun r w' => r = .returned (.bool true) ∧ Below w.heap.size w w' := by
  subst hn hn'
  have H := Lib.hid (h.more hB)
  have H' := Lib.hid (h'.more hB')
  clear h h' hB hB'
  go_enter Try.func56, Try.ntmps56
  go_wp2
  go_loopw [5] (fun i wr => ∃ k : Nat, i = .int .i64 k ∧ k ≤ l.length ∧ Below w.heap.size w wr) (fun i _ => l.length - (intOf i).toNat)
  case atStart => exact ⟨0, rfl, Nat.zero_le _, Below.refl _ _⟩
  case round =>
    obtain ⟨k, rfl, hk, hb⟩ := hrel
    have Hb := Lib.hid hb
    by_cases hlt : k < l.length
    · obtain ⟨g, o, rfl, z0, z1, z2⟩ := row_k3 (H.out.below hb) k hlt
      obtain ⟨g', o', rfl, y0, y1, y2⟩ := row_k3 (H'.out.below hb) k hlt
      have hkl : (k : Int) < (l.length : Int) := by omega
      clear hb
      generalize l[k] = x at *
      obtain ⟨x1, x2, x3⟩ := x
      simp only at z0 z1 z2 y0 y1 y2
      go_wp2
      go_quiet (fail)
      go_wp2
      go_roundw
      case measure => simp [intOf]; omega
      case rel => exact ⟨k + 1, by go_num, hlt, below_drewN Hb.out _⟩
    · have hkk : k = l.length := by omega
      subst hkk
      clear hb
      go_wp2
      go_ret
      exact ⟨rfl, Hb.out⟩

set_option maxHeartbeats 2000000 in
set_option maxRecDepth 100000 in
theorem First_any (A : Option Addr) (c : Nat) (l : List K3) (w : World) (B : Nat) (h : RowsAt 3 K3.cells w B A l) (hB : B ≤ w.heap.size) (hlen : l.length ≤ 2 ^ 20) (n : Nat) (hn : n = l.length) :
    Calls Try.prog 57 #[.slice A n c] w fun r w' => ∃ v, r = .returned v ∧ OwnR 61 3 K3.cells w' w.heap.size v (l.take 3) ∧ Below w.heap.size w w' := by
  subst hn
  have H := Lib.hid (h.more hB)
  clear h hB
  go_enter Try.func57, Try.ntmps57
  go_wp2
  go_loopw [3, 4] (fun v i wr => ∃ k : Nat, i = .int .i64 k ∧ k ≤ l.length ∧ k ≤ 3 ∧ OwnR 61 3 K3.cells wr w.heap.size v (l.take k) ∧ Below w.heap.size w wr) (fun _ i _ => l.length - (intOf i).toNat)
  case atStart => exact ⟨0, rfl, Nat.zero_le _, Nat.zero_le _, OwnR.nil _ _, Below.refl _ _⟩
  case round =>
    obtain ⟨k, rfl, hk, hk3, hown, hb⟩ := hrel
    obtain ⟨M, hM⟩ : ∃ M, l.take k = M := ⟨_, rfl⟩
    rw [hM] at hown
    have hMl : M.length ≤ 3 := by rw [← hM, List.length_take]; omega
    have HM := Lib.hid hM
    clear hM
    obtain ⟨A3, c3, hv3⟩ := hown.shape
    subst hv3
    have Hown := Lib.hid hown
    have Hb := Lib.hid hb
    by_cases hlt : k < l.length
    · by_cases h3 : k < 3
      · obtain ⟨g, o, rfl, z0, z1, z2⟩ := row_k3 (H.out.below hb) k hlt
        have hkl : (k : Int) < (l.length : Int) := by omega
        have Hs := Lib.hid (List.take_succ_eq_append_getElem hlt)
        clear hb hown
        generalize l[k] = x at *
        obtain ⟨x1, x2, x3⟩ := x
        simp only at z0 z1 z2
        go_wp2_with (at_builtin; (refine app_row (e := 61) K3.cells (fun _ => rfl) (by decide) (bytes := 24) (by decide) infoKey rfl Try.underlying81 onesK (by rfl) _ _ (by rfl) w.heap.size _ M (by rfl) (Hown.out.alloc _) wr.heap.size ⟨x1, x2, x3⟩ (by rfl) (Blk.new _ _ _) (by simp; omega) (by have := Hb.out.size; simp; omega) ?_); intro v5 w5 hown5 hg5 hor5; have Hown5 := Lib.hid hown5; have Hb5 := Lib.hid ((Hb.out.alloc Hb.out.size _).grown hg5 (by have := Hb.out.size; simp; omega) (fun j hj => (Hown.out.block j hj).1)); clear hown5 hg5 hor5)
        go_roundw
        case measure => simp [intOf]; omega
        case rel => exact ⟨k + 1, by go_num, hlt, by omega, by rw [Hs.out, HM.out]; exact Hown5.out, Hb5.out⟩
      · have hk3' : k = 3 := by omega
        subst hk3'
        clear hb hown
        go_wp2
        go_ret
        exact ⟨_, rfl, by rw [HM.out]; exact Hown.out, Hb.out⟩
    · have hkk : k = l.length := by omega
      subst hkk
      have Ht := Lib.hid (show l.take 3 = l.take l.length by rw [List.take_length, List.take_of_length_le hk3])
      clear hb hown
      go_wp2
      go_ret
      exact ⟨_, rfl, by rw [Ht.out, HM.out]; exact Hown.out, Hb.out⟩

end Go.Proofs.Ytfhikkmgclkcdaa
