/-
  Layer 15: the document's list of what is wanted, in memory; a key's place.
-/
import Derived.Test.YtannngcdphafdaaWaAsk
import Derived.Test.YtannngcdphafdaaKy07
namespace Go.Proofs.Ytannngcdphafdaa
open Go.RowKit Go.Sort

theorem eqKeyD (a b c a' b' c' : Int) (w : World) : (Op.equalIn 10000 63 (.agg #[.int .i64 a, .int .i64 b, .int .i64 c]) (.agg #[.int .i64 a', .int .i64 b', .int .i64 c'])).run Try.prog w = .ok (decide ((⟨a, b, c⟩ : K3) = ⟨a', b', c'⟩)) w := by
  rw [eqKey]
  congr 1
  by_cases h1 : a = a' <;> by_cases h2 : b = b' <;> by_cases h3 : c = c' <;> simp [h1, h2, h3]
/-- heads in memory: the pointer's block, the slice, the rows -/
structure RwAt (w : World) (q : Nat) (v : Value) (L : List Hd) : Prop where
  ptr : Blk w q 78 #[v]
  own : OwnH w (q + 1) v L
section
variable {w w' : World} {q : Nat} {v : Value} {L : List Hd}
theorem RwAt.keep (h : RwAt w q v L) (hb : Below w.heap.size w w') : RwAt w' q v L := ⟨h.ptr.below hb h.ptr.lt, h.own.below hb⟩
theorem RwAt.alloc (h : RwAt w q v L) (o : Obj) : RwAt (w.alloc o) q v L := h.keep ((Below.refl _ _).alloc (Nat.le_refl _) o)
theorem RwAt.cell (h : RwAt w q v L) : w.cell? ⟨q, 0, none⟩ = some v := h.ptr.cell 0
theorem RwAt.row (h : RwAt w q v L) (k : Nat) (hk : k < L.length) : ∃ g c, v = .slice (some ⟨g, 0, none⟩) L.length c ∧ w.cell? ⟨g, k * 7, none⟩ = some (.int .i64 L[k].age) ∧ w.cell? ⟨g, k * 7 + 1, none⟩ = some (.int .i64 L[k].kind) ∧
    w.cell? ⟨g, k * 7 + 2, none⟩ = some (.int .i64 L[k].id) ∧ w.cell? ⟨g, k * 7 + 3, none⟩ = some (.int .i64 L[k].adv) ∧ w.cell? ⟨g, k * 7 + 4, none⟩ = some (.int .i64 L[k].seq) ∧ w.cell? ⟨g, k * 7 + 5, none⟩ = some (.int .i64 L[k].sum) ∧ w.cell? ⟨g, k * 7 + 6, none⟩ = some (.int .i64 L[k].long) := by
  rcases h.own.shape2 with ⟨-, hn⟩ | ⟨g, c, rfl, hc⟩
  · subst hn; simp at hk
  · obtain ⟨b, o, e, -, z⟩ := row_hd (OwnR.rows (C := 7) (cells := Hd.cells) (fun _ => rfl) h.own).2 k hk
    injection e with e
    injection e with e1 e2
    subst e1 e2
    refine ⟨g, c, rfl, ?_⟩
    simpa only [Nat.zero_add] using z
end
/-- a key's place, or -1 -/
def findI (k : K3) : List Hd → Int
  | [] => -1
  | x :: L => if keyH x = k then 0 else if findI k L < 0 then -1 else findI k L + 1
theorem findI_ge (k : K3) : ∀ L : List Hd, -1 ≤ findI k L ∧ findI k L < L.length
  | [] => ⟨by simp [findI], by simp [findI]⟩
  | x :: L => by
    have := findI_ge k L
    unfold findI
    simp only [List.length_cons]
    split
    · omega
    · split <;> omega
theorem findI_at {k : K3} : ∀ {L : List Hd} {j : Nat} (hj : j < L.length), keyH L[j] = k → (∀ i, (hi : i < j) → (hl : i < L.length) → keyH L[i] ≠ k) → findI k L = j
  | x :: L, 0, _, he, _ => by simp at he; simp [findI, he]
  | x :: L, j + 1, hj, he, h0 => by
    have h1 := h0 0 (by omega) (by simp)
    simp only [List.getElem_cons_zero] at h1
    have h2 := findI_at (L := L) (j := j) (by simpa using hj) (by simpa using he) (fun i hi hl => by
      have := h0 (i + 1) (by omega) (by simp; omega)
      simpa using this)
    unfold findI
    rw [if_neg h1, if_neg (by omega), h2]
    omega
theorem findI_none {k : K3} : ∀ {L : List Hd}, (∀ i, (hi : i < L.length) → keyH L[i] ≠ k) → findI k L = -1
  | [], _ => rfl
  | x :: L, h0 => by
    have h1 := h0 0 (by simp)
    simp only [List.getElem_cons_zero] at h1
    have h2 := findI_none (L := L) (fun i hi => by
      have := h0 (i + 1) (by simp; omega)
      simpa using this)
    unfold findI
    rw [if_neg h1, if_pos (by omega)]
theorem findI_get {k : K3} : ∀ {L : List Hd}, (findI k L < 0 ∧ getH k L = none) ∨ (∃ (j : Nat) (hj : j < L.length), findI k L = j ∧ getH k L = some L[j] ∧ keyH L[j] = k ∧ ∀ h, keyH h = k → setH h L = L.set j h)
  | [] => .inl ⟨by simp [findI], rfl⟩
  | x :: L => by
    by_cases hx : keyH x = k
    · right
      refine ⟨0, by simp, ?_, ?_, hx, fun h hh => ?_⟩
      · simp [findI, hx]
      · simp [getH, hx]
      · simp [setH, hx, hh]
    · rcases findI_get (k := k) (L := L) with ⟨h1, h2⟩ | ⟨j, hj, h1, h2, h3, h4⟩
      · left
        refine ⟨?_, ?_⟩
        · unfold findI; rw [if_neg hx, if_pos h1]; omega
        · simp [getH, hx, h2]
      · right
        refine ⟨j + 1, by simp; omega, ?_, ?_, by simpa using h3, fun h hh => ?_⟩
        · unfold findI; rw [if_neg hx, if_neg (by omega), h1]; omega
        · simp [getH, hx, h2]
        · have hne : keyH x ≠ keyH h := by rw [hh]; exact hx
          simp [setH, hne, h4 h hh]

set_option maxHeartbeats 4000000 in
set_option maxRecDepth 100000 in
theorem rwFind (q : Nat) (v : Value) (L : List Hd) (k1 k2 k3 : Int) (w : World) (hR : RwAt w q v L) (hlen : L.length ≤ 2 ^ 20) {z : Int} (hz : findI ⟨k1, k2, k3⟩ L = z) :
    Calls Try.prog 50 #[.pointer (some ⟨q, 0, none⟩), .agg #[.int .i64 k1, .int .i64 k2, .int .i64 k3]] w fun r w' => r = .returned (.int .i64 z) ∧ Below w.heap.size w w' := by
  obtain ⟨A, cap, hv⟩ := hR.own.shape
  subst hv
  obtain ⟨w0, hW0⟩ : ∃ w0, w.alloc (.cells #[.int .i64 k1, .int .i64 k2, .int .i64 k3] 63) = w0 := ⟨_, rfl⟩
  have hR1 := hR.alloc (.cells #[.int .i64 k1, .int .i64 k2, .int .i64 k3] 63)
  have hk0 := Blk.new w 63 #[.int .i64 k1, .int .i64 k2, .int .i64 k3]
  have hb0 := (Below.refl w.heap.size w).alloc (Nat.le_refl _) (.cells #[.int .i64 k1, .int .i64 k2, .int .i64 k3] 63)
  rw [hW0] at hR1 hk0 hb0
  have HR1 := Lib.hid hR1
  have Hk := Lib.hid hk0
  have Hb0 := Lib.hid hb0
  have Hz := Lib.hid hz
  clear hR hR1 hz hk0 hb0
  have CK := Lib.hid (fun w0 a b c d e f g dd os => Calls.regrown_of (w := w0) (d := dd) (os := os) (key_any a b c d e f g _))
  go_enter Try.func50, Try.ntmps50
  go_wp2
  go_loopw [5] (fun i wr => ∃ k : Nat, i = .int .i64 k ∧ k ≤ L.length ∧ (∀ j, (hj : j < k) → (hl : j < L.length) → keyH L[j] ≠ ⟨k1, k2, k3⟩) ∧ Below w0.heap.size w0 wr) (fun i _ => L.length - (intOf i).toNat)
  case atStart => exact ⟨0, rfl, Nat.zero_le _, fun j hj => absurd hj (by omega), Below.refl _ _⟩
  case round =>
    obtain ⟨k, rfl, hk, h0, hb⟩ := hrel
    have hRr := HR1.out.keep hb
    have hkr := Hk.out.below hb Hk.out.lt
    have hc := hRr.cell
    have H0 := Lib.hid h0
    have Hb := Lib.hid hb
    by_cases hlt : k < L.length
    · obtain ⟨g, c, hv, z0, z1, z2, z3, z4, z5, z6⟩ := hRr.row k hlt
      injection hv with hA hn hcap
      subst hA hcap
      have hkl : (k : Int) < (L.length : Int) := by omega
      have hat := fun he => findI_at hlt he h0
      have hmore : keyH L[k] ≠ ⟨k1, k2, k3⟩ → ∀ j, (hj : j < k + 1) → (hl : j < L.length) → keyH L[j] ≠ ⟨k1, k2, k3⟩ := by
        intro hne j hj hl
        by_cases hjk : j = k
        · subst hjk; exact hne
        · exact h0 j (by omega) hl
      have Hmore := Lib.hid hmore
      have Hat := Lib.hid hat
      have hcr := cell_regrown hc
      obtain ⟨y0, y1, y2⟩ : _ ∧ _ ∧ _ := ⟨cell_regrown (hkr.cell 0), cell_regrown (hkr.cell 1), cell_regrown (hkr.cell 2)⟩
      have z0 := cell_regrown z0
      have z1 := cell_regrown z1
      have z2 := cell_regrown z2
      have z3 := cell_regrown z3
      have z4 := cell_regrown z4
      have z5 := cell_regrown z5
      have z6 := cell_regrown z6
      clear hRr hkr h0 hb hmore hat hn
      generalize L[k] = e at *
      obtain ⟨e1, e2, e3, e4, e5, e6, e7⟩ := e
      simp only at z0 z1 z2 z3 z4 z5 z6
      have heq := fun w => eqKeyD e2 e3 e4 k1 k2 k3 w
      obtain ⟨t, ht⟩ : ∃ t, decide ((⟨e2, e3, e4⟩ : K3) = ⟨k1, k2, k3⟩) = t := ⟨_, rfl⟩
      rw [ht] at heq
      have Ht := Lib.hid ht
      clear ht
      go_wp2_with fail
      refine wp_below_tail 9 (by kernel_rfl) (by kernel_rfl) ?_
      simp only [List.take_succ_cons, List.take_zero, List.drop_succ_cons, List.drop_zero]
      repeat (go_big_quiet_step (exact CK.out _ _ _ _ _ _ _ _ _ _))
      refine wpQuiet_nil ?_
      rintro w3 ⟨⟨dq, osq⟩, rfl⟩
      have hb3 := below_regrown wr dq osq
      have Hb3 := Lib.hid (Hb.out.trans (hb3.mono Hb.out.size))
      clear hb3
      generalize grow (redrawn wr dq) osq = w3 at *
      cases t
      · have Hm2 := Lib.hid (Hmore.out (by have := Ht.out; simpa [keyH] using this))
        go_wp2
        go_roundw
        case measure => simp [intOf]; omega
        case rel => exact ⟨k + 1, by go_num, hlt, Hm2.out, Hb3.out⟩
      · have hz2 : z = k := by rw [← Hz.out]; exact Hat.out (by have := Ht.out; simpa [keyH] using this)
        subst hz2
        go_wp2
        go_ret
        exact ⟨rfl, Hb0.out.trans (Hb3.out.mono Hb0.out.size)⟩
    · have hkk : k = L.length := by omega
      subst hkk
      have hz2 : z = -1 := by rw [← Hz.out]; exact findI_none fun j hj => H0.out j hj hj
      subst hz2
      clear hRr hkr h0 hb
      go_wp2
      go_ret
      exact ⟨rfl, Hb0.out.trans (Hb.out.mono Hb0.out.size)⟩

end Go.Proofs.Ytannngcdphafdaa
