/-
  Layer 16: the document's lists, in memory; whether a row is there, and where.
-/
import Derived.Test.YtfhikkmgclkcdaaRxOthP
namespace Go.Proofs.Ytfhikkmgclkcdaa
open Go.RowKit

theorem eqRow_n (n : Nat) (x y a b c x' y' a' b' c' : Int) (w : World) : (Op.equalIn (n + 1 + 1 + 1) 168 (.agg #[.int .i64 x, .int .i64 y, .int .i64 a, .int .i64 b, .int .i64 c]) (.agg #[.int .i64 x', .int .i64 y', .int .i64 a', .int .i64 b', .int .i64 c'])).run Try.prog w =
    .ok (x == x' && y == y' && (a == a' && b == b' && c == c')) w := by
  have hS : Try.prog.underlying 168 = some (.struct (Try.prog.fieldsOf 168)) := by kernel_rfl
  have hp : Try.prog.stoodInHeld 168 = false := by kernel_rfl
  have hk := fun w => eqK3_n n a b c a' b' c' w
  rw [run_equalIn_struct w (n + 1 + 1) 168 _ _ hS hp]
  simp only [Program.fieldsOf, Try.underlying168]
  go_simp
  by_cases h1 : x = x' <;> by_cases h2 : y = y' <;> by_cases h3 : a = a' <;> by_cases h4 : b = b' <;> by_cases h5 : c = c' <;> simp [h1, h2, h3, h4, h5]
theorem eqRow (x y a b c x' y' a' b' c' : Int) (w : World) : (Op.equalIn 10000 168 (.agg #[.int .i64 x, .int .i64 y, .int .i64 a, .int .i64 b, .int .i64 c]) (.agg #[.int .i64 x', .int .i64 y', .int .i64 a', .int .i64 b', .int .i64 c'])).run Try.prog w =
    .ok (decide ((⟨x, y, ⟨a, b, c⟩⟩ : E5) = ⟨x', y', ⟨a', b', c'⟩⟩)) w := by
  refine (eqRow_n 9997 x y a b c x' y' a' b' c' w).trans ?_
  by_cases h0 : x = x' <;> by_cases h4 : y = y' <;> by_cases h1 : a = a' <;> by_cases h2 : b = b' <;> by_cases h3 : c = c' <;> simp [h0, h4, h1, h2, h3]

/-- rows in memory: the pointer's block, the slice, the rows -/
structure RfAt (w : World) (q : Nat) (v : Value) (R : List E5) : Prop where
  ptr : Blk w q 99 #[v]
  own : OwnR 168 5 E5.cells w (q + 1) v R
section
variable {w w' : World} {q : Nat} {v : Value} {R : List E5}
theorem RfAt.keep (h : RfAt w q v R) (hb : Below w.heap.size w w') : RfAt w' q v R := ⟨h.ptr.below hb h.ptr.lt, h.own.below hb⟩
theorem RfAt.drewN (h : RfAt w q v R) (n : Nat) : RfAt (w.drewN n) q v R := h.keep (below_drewN (Below.refl _ _) n)
theorem RfAt.alloc (h : RfAt w q v R) (o : Obj) : RfAt (w.alloc o) q v R := h.keep ((Below.refl _ _).alloc (Nat.le_refl _) o)
theorem RfAt.cell (h : RfAt w q v R) : w.cell? ⟨q, 0, none⟩ = some v := h.ptr.cell 0
theorem RfAt.row (h : RfAt w q v R) (k : Nat) (hk : k < R.length) : ∃ g c, v = .slice (some ⟨g, 0, none⟩) R.length c ∧ w.cell? ⟨g, k * 5, none⟩ = some (.int .i64 R[k].lan) ∧ w.cell? ⟨g, k * 5 + 1, none⟩ = some (.int .i64 R[k].id) ∧
    w.cell? ⟨g, k * 5 + 2, none⟩ = some (.int .i64 R[k].k.kind) ∧ w.cell? ⟨g, k * 5 + 3, none⟩ = some (.int .i64 R[k].k.id) ∧ w.cell? ⟨g, k * 5 + 4, none⟩ = some (.int .i64 R[k].k.adv) := by
  rcases h.own.shape2 with ⟨-, hn⟩ | ⟨g, c, rfl, hc⟩
  · subst hn; simp at hk
  · obtain ⟨b, o, e, _, hcell⟩ := (OwnR.rows (C := 5) (cells := E5.cells) (fun _ => rfl) h.own).2 (by omega)
    injection e with e
    injection e with e1 e2
    subst e1 e2
    refine ⟨g, c, rfl, ?_, ?_, ?_, ?_, ?_⟩
    · simpa using hcell k hk 0 _ (by omega) rfl
    · simpa using hcell k hk 1 _ (by omega) rfl
    · simpa using hcell k hk 2 _ (by omega) rfl
    · simpa using hcell k hk 3 _ (by omega) rfl
    · simpa using hcell k hk 4 _ (by omega) rfl
end
/-- a row's place, or -1 -/
def idxI (R : List E5) (e : E5) : Int := if e ∈ R then (R.idxOf e : Int) else -1
theorem idx_at {R : List E5} {e : E5} {k : Nat} (hk : k < R.length) (he : R[k] = e) (h0 : ∀ j, (hj : j < k) → (hl : j < R.length) → R[j] ≠ e) : idxI R e = k := by
  have hm : e ∈ R := by rw [← he]; exact List.getElem_mem hk
  unfold idxI
  rw [if_pos hm]
  have h1 : R.idxOf e < R.length := List.idxOf_lt_length_of_mem hm
  have h2 : R[R.idxOf e] = e := List.getElem_idxOf h1
  have h3 : R.idxOf e ≤ k := by
    rcases Nat.lt_or_ge k (R.idxOf e) with h | h
    · exact absurd he (by
        have := List.not_of_lt_findIdx (p := fun x => x == e) (xs := R) (i := k) h
        simpa using this)
    · exact h
  have h4 : ¬ R.idxOf e < k := fun h => h0 _ h h1 h2
  omega
theorem idx_none {R : List E5} {e : E5} (h0 : ∀ j, (hj : j < R.length) → R[j] ≠ e) : idxI R e = -1 := by
  unfold idxI
  rw [if_neg]
  intro hm
  obtain ⟨j, hj, he⟩ := List.getElem_of_mem hm
  exact h0 j hj he
theorem idx_on (R : List E5) (e : E5) : decide (0 ≤ idxI R e) = onB16 R e ∧ decide (idxI R e < 0) = !onB16 R e := by
  unfold idxI onB16
  by_cases h : e ∈ R <;> simp [h]
theorem idx_ne {R : List E5} {e : E5} (hn : R.Nodup) {k : Nat} (hk : k < R.length) : ((k : Int) = idxI R e) ↔ R[k] = e := by
  constructor
  · intro h
    unfold idxI at h
    split at h
    · rename_i hm
      have h1 : R.idxOf e < R.length := List.idxOf_lt_length_of_mem hm
      have h2 : R[R.idxOf e] = e := List.getElem_idxOf h1
      have : k = R.idxOf e := by omega
      subst this
      exact h2
    · omega
  · intro h
    refine (idx_at hk h fun j hj hl he => ?_).symm
    exact List.pairwise_iff_getElem.1 hn j k hl hk hj (he.trans h.symm)

set_option maxHeartbeats 2000000 in
set_option maxRecDepth 100000 in
theorem refFind_any (q : Nat) (v : Value) (R : List E5) (lan id k1 k2 k3 : Int) (w : World) (hR : RfAt w q v R) (hlen : R.length ≤ 2 ^ 20) {z : Int} (hz : idxI R ⟨lan, id, ⟨k1, k2, k3⟩⟩ = z) :
    Calls Try.prog 58 #[.pointer (some ⟨q, 0, none⟩), .int .i64 lan, .int .i64 id, .agg #[.int .i64 k1, .int .i64 k2, .int .i64 k3]] w fun r w' => r = .returned (.int .i64 z) ∧ Below w.heap.size w w' := by
  obtain ⟨A, cap, hv⟩ := hR.own.shape
  subst hv
  have hR1 := hR.alloc (.cells #[.int .i64 k1, .int .i64 k2, .int .i64 k3] 61)
  have HR1 := Lib.hid hR1
  have Hk := Lib.hid (Blk.new w 61 #[.int .i64 k1, .int .i64 k2, .int .i64 k3])
  have Hb0 := Lib.hid ((Below.refl w.heap.size w).alloc (Nat.le_refl _) (.cells #[.int .i64 k1, .int .i64 k2, .int .i64 k3] 61))
  have Hz := Lib.hid hz
  have hk0 := Hk.out.lt
  clear hR hR1 hz
  obtain ⟨w0, hW0⟩ : ∃ w0, w.alloc (.cells #[.int .i64 k1, .int .i64 k2, .int .i64 k3] 61) = w0 := ⟨_, rfl⟩
  rw [hW0] at HR1 Hk Hb0 hk0
  go_enter Try.func58, Try.ntmps58
  go_wp2
  go_loopw [9] (fun i wr => ∃ k : Nat, i = .int .i64 k ∧ k ≤ R.length ∧ (∀ j, (hj : j < k) → (hl : j < R.length) → R[j] ≠ ⟨lan, id, ⟨k1, k2, k3⟩⟩) ∧ Below w0.heap.size w0 wr) (fun i _ => R.length - (intOf i).toNat)
  case atStart => exact ⟨0, rfl, Nat.zero_le _, fun j hj => absurd hj (by omega), Below.refl _ _⟩
  case round =>
    obtain ⟨k, rfl, hk, h0, hb⟩ := hrel
    have hRr := HR1.out.keep hb
    have hkr := Hk.out.below hb hk0
    have hc := hRr.cell
    obtain ⟨y0, y1, y2⟩ : _ ∧ _ ∧ _ := ⟨hkr.cell 0, hkr.cell 1, hkr.cell 2⟩
    simp only [List.getElem?_toArray, List.getElem?_cons_zero, List.getElem?_cons_succ] at y0 y1 y2
    have H0 := Lib.hid h0
    have Hb := Lib.hid hb
    by_cases hlt : k < R.length
    · obtain ⟨g, c, hv, z0, z1, z2, z3, z4⟩ := hRr.row k hlt
      injection hv with hA hn hcap
      subst hA hcap
      have hkl : (k : Int) < (R.length : Int) := by omega
      have hat := fun he => idx_at hlt he h0
      have hmore : R[k] ≠ ⟨lan, id, ⟨k1, k2, k3⟩⟩ → ∀ j, (hj : j < k + 1) → (hl : j < R.length) → R[j] ≠ ⟨lan, id, ⟨k1, k2, k3⟩⟩ := by
        intro hne j hj hl
        by_cases hjk : j = k
        · subst hjk; exact hne
        · exact h0 j (by omega) hl
      have Hmore := Lib.hid hmore
      have Hat := Lib.hid hat
      clear hRr hkr h0 hb hmore hat hn
      generalize R[k] = e at *
      obtain ⟨e1, e2, ⟨e3, e4, e5⟩⟩ := e
      simp only at z0 z1 z2 z3 z4
      have heq := fun w => eqRow e1 e2 e3 e4 e5 lan id k1 k2 k3 w
      by_cases he : (⟨e1, e2, ⟨e3, e4, e5⟩⟩ : E5) = ⟨lan, id, ⟨k1, k2, k3⟩⟩
      · have hz2 : z = k := by rw [← Hz.out]; exact Hat.out he
        subst hz2
        rw [decide_eq_true he] at heq
        clear he
        go_wp2
        go_quiet (fail)
        go_wp2
        go_ret
        exact ⟨rfl, below_drewN (Hb0.out.trans (Hb.out.mono Hb0.out.size)) _⟩
      · rw [decide_eq_false he] at heq
        have Hmore2 := Lib.hid (Hmore.out he)
        clear he
        go_wp2
        go_quiet (fail)
        go_wp2
        go_roundw
        case measure => simp [intOf]; omega
        case rel => exact ⟨k + 1, by go_num, hlt, Hmore2.out, below_drewN Hb.out _⟩
    · have hkk : k = R.length := by omega
      subst hkk
      have hz2 : z = -1 := by rw [← Hz.out]; exact idx_none fun j hj => H0.out j hj hj
      subst hz2
      clear hRr hkr h0 hb
      go_wp2
      go_ret
      exact ⟨rfl, Hb0.out.trans (Hb.out.mono Hb0.out.size)⟩

end Go.Proofs.Ytfhikkmgclkcdaa
