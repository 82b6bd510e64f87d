/-
  Layer 20: alike edges, and leaves; the edges from a vertex.
-/
import Derived.Test.YtpfjgecdlilkcaaGrEdges
import Derived.Test.YtpfjgecdlilkcaaGrLeaves
namespace Go.Proofs.Ytpfjgecdlilkcaa
open Go.RowKit Go.Sort

set_option maxHeartbeats 2000000 in
set_option maxRecDepth 100000 in
theorem Same20s (A A' : Option Addr) (c c' : Nat) (l : List Ed) (w : World) (B B' : Nat) (h : RowsAt 5 Ed.cells w B A l) (h' : RowsAt 5 Ed.cells w B' A' l) (hB : B ≤ w.heap.size) (hB' : B' ≤ w.heap.size) (hlen : l.length ≤ 2 ^ 20) (n n' : Nat) (hn : n = l.length) (hn' : n' = l.length) :
    Calls Try.prog 18 #[.slice A n c, .slice A' n' c'] w fun r w' => r = .returned (.bool true) ∧ Below w.heap.size w w' := by
  subst hn hn'
  have H := Lib.hid (h.more hB)
  have H' := Lib.hid (h'.more hB')
  clear h h' hB hB'
  go_enter Try.func18, Try.ntmps18
  go_wp2
  go_loopw [5] (fun i wr => ∃ k : Nat, i = .int .i64 k ∧ k ≤ l.length ∧ Below w.heap.size w wr) (fun i _ => l.length - (intOf i).toNat)
  case atStart => exact ⟨0, rfl, Nat.zero_le _, Below.refl _ _⟩
  case round =>
    obtain ⟨k, rfl, hk, hb⟩ := hrel
    have Hb := Lib.hid hb
    by_cases hlt : k < l.length
    · obtain ⟨g, o, rfl, -, z0, z1, z2, z3, z4⟩ := row_ed (H.out.below hb) k hlt
      obtain ⟨g', o', rfl, -, y0, y1, y2, y3, y4⟩ := row_ed (H'.out.below hb) k hlt
      have hkl : (k : Int) < (l.length : Int) := by omega
      clear hb
      have he := eqE_same l[k]
      generalize l[k] = x at *
      obtain ⟨x1, x2, x3, x4, x5⟩ := x
      simp only at z0 z1 z2 z3 z4 y0 y1 y2 y3 y4 he
      go_wp2
      go_quiet (fail)
      go_wp2
      go_roundw
      case measure => simp [intOf]; omega
      case rel => exact ⟨k + 1, by go_num, hlt, below_drewN Hb.out _⟩
    · have hkk : k = l.length := by omega
      subst hkk
      clear hb
      go_wp2
      go_ret
      exact ⟨rfl, Hb.out⟩
set_option maxHeartbeats 2000000 in
set_option maxRecDepth 100000 in
theorem SameF20s (A A' : Option Addr) (c c' : Nat) (l : List Lf) (w : World) (B B' : Nat) (h : RowsAt 3 Lf.cells w B A l) (h' : RowsAt 3 Lf.cells w B' A' l) (hB : B ≤ w.heap.size) (hB' : B' ≤ w.heap.size) (hlen : l.length ≤ 2 ^ 20) (n n' : Nat) (hn : n = l.length) (hn' : n' = l.length) :
    Calls Try.prog 23 #[.slice A n c, .slice A' n' c'] w fun r w' => r = .returned (.bool true) ∧ Below w.heap.size w w' := by
  subst hn hn'
  have H := Lib.hid (h.more hB)
  have H' := Lib.hid (h'.more hB')
  clear h h' hB hB'
  go_enter Try.func23, Try.ntmps23
  go_wp2
  go_loopw [5] (fun i wr => ∃ k : Nat, i = .int .i64 k ∧ k ≤ l.length ∧ Below w.heap.size w wr) (fun i _ => l.length - (intOf i).toNat)
  case atStart => exact ⟨0, rfl, Nat.zero_le _, Below.refl _ _⟩
  case round =>
    obtain ⟨k, rfl, hk, hb⟩ := hrel
    have Hb := Lib.hid hb
    by_cases hlt : k < l.length
    · obtain ⟨g, o, rfl, -, z0, z1, z2⟩ := row_lf (H.out.below hb) k hlt
      obtain ⟨g', o', rfl, -, y0, y1, y2⟩ := row_lf (H'.out.below hb) k hlt
      have hkl : (k : Int) < (l.length : Int) := by omega
      clear hb
      generalize l[k] = x at *
      obtain ⟨x1, x2, x3⟩ := x
      simp only at z0 z1 z2 y0 y1 y2
      go_wp2
      go_quiet (fail)
      go_wp2
      go_roundw
      case measure => simp [intOf]; omega
      case rel => exact ⟨k + 1, by go_num, hlt, below_drewN Hb.out _⟩
    · have hkk : k = l.length := by omega
      subst hkk
      clear hb
      go_wp2
      go_ret
      exact ⟨rfl, Hb.out⟩

/-- the edges from a vertex -/
def outB (a b : Int) (e : Ed) : Bool := decide (e.fk = a) && decide (e.fi = b)
def outL (a b : Int) (l : List Ed) : List Ed := l.filter (outB a b)
theorem out_more (a b : Int) {l : List Ed} {k : Nat} (hk : k < l.length) : outL a b (l.take (k + 1)) = outL a b (l.take k) ++ if outB a b l[k] = true then [l[k]] else [] := by
  unfold outL
  rw [List.take_succ_eq_append_getElem hk, List.filter_append]
  congr 1
  by_cases h : outB a b l[k] = true <;> simp [h]
theorem out_len (a b : Int) (l : List Ed) : (outL a b l).length ≤ l.length := List.length_filter_le _ _
theorem eqV20 (a b a' b' : Int) (w : World) : (Op.equalIn 10000 40 (.agg #[.int .i64 a, .int .i64 b]) (.agg #[.int .i64 a', .int .i64 b'])).run Try.prog w = .ok (decide (a = a') && decide (b = b')) w := by
  refine (eqV2_n 9998 a b a' b' w).trans ?_
  by_cases h1 : a = a' <;> by_cases h2 : b = b' <;> simp [h1, h2]
set_option maxHeartbeats 4000000 in
set_option maxRecDepth 100000 in
theorem Out_any (a b : Int) (A : Option Addr) (cap : Nat) (l : List Ed) (w : World) (B : Nat) (h : RowsAt 5 Ed.cells w B A l) (hB : B ≤ w.heap.size) (hm : l.length ≤ 2 ^ 16) (nn : Nat) (hnn : nn = l.length) :
    Calls Try.prog 21 #[.agg #[.int .i64 a, .int .i64 b], .slice A nn cap] w fun r w' => (∃ v, r = .returned v ∧ OwnR 42 5 Ed.cells w' w.heap.size v (outL a b l)) ∧ Below w.heap.size w w' := by
  subst hnn
  have H := Lib.hid (h.more hB)
  have hm' : (l.length : Int) ≤ 65536 := by omega
  obtain ⟨w0, hw0⟩ : ∃ w0, w.alloc (.cells #[.int .i64 a, .int .i64 b] 40) = w0 := ⟨_, rfl⟩
  obtain ⟨g0, hg0⟩ : ∃ g0, w.heap.size = g0 := ⟨_, rfl⟩
  have hk0 := Blk.new w 40 #[.int .i64 a, .int .i64 b]
  have hb0 := below_new w (.cells #[.int .i64 a, .int .i64 b] 40)
  rw [hw0, hg0] at hk0
  rw [hw0] at hb0
  have K0 := Lib.hid hk0
  have B0 := Lib.hid hb0
  have Hg0 := Lib.hid hg0
  clear h hB hk0 hb0
  go_enter Try.func21, Try.ntmps21
  go_wp2
  go_loopw [5, 10] (fun v i wr => ∃ k : Nat, i = .int .i64 k ∧ k ≤ l.length ∧ OwnR 42 5 Ed.cells wr (g0 + 1) v (outL a b (l.take k)) ∧ Blk wr g0 40 #[.int .i64 a, .int .i64 b] ∧ Below w.heap.size w wr) (fun _ i _ => l.length - (intOf i).toNat)
  case atStart => exact ⟨0, rfl, Nat.zero_le _, OwnR.nil _ _, K0.out, B0.out⟩
  case round =>
    obtain ⟨k, rfl, hk, hown, hkv, hb⟩ := hrel
    obtain ⟨A7, c7, hv7⟩ := hown.shape
    subst hv7
    clear K0 B0
    have hol := out_len a b (l.take k)
    have hol2 : (outL a b (l.take k)).length ≤ 65536 := by rw [List.length_take] at hol; omega
    obtain ⟨P, hP⟩ : ∃ P, outL a b (l.take k) = P := ⟨_, rfl⟩
    rw [hP] at hown hol2 ⊢
    have HPl := Lib.hid hol2
    by_cases hlt : k < l.length
    · obtain ⟨g, o, hA, -, x0, x1, x2, x3, x4⟩ := row_ed (H.out.below hb) k hlt
      have hkl : (k : Int) < (l.length : Int) := by omega
      have hmore := out_more a b hlt
      rw [hP] at hmore
      have HA := Lib.hid hA
      rw [hA]
      have Hlt := Lib.hid hlt
      generalize l[k] = x at *
      obtain ⟨e1, e2, e3, e4, e5⟩ := x
      simp only at x0 x1 x2 x3 x4
      obtain ⟨t, ht⟩ : ∃ t, outB a b ⟨e1, e2, e3, e4, e5⟩ = t := ⟨_, rfl⟩
      have he := eqV20 e1 e2 a b
      rw [show (decide (e1 = a) && decide (e2 = b)) = t from ht] at he
      rw [ht] at hmore
      have Hmore := Lib.hid hmore
      obtain ⟨w8, hw8⟩ : ∃ w8, wr.alloc (.cells #[.int .i64 e1, .int .i64 e2, .int .i64 e3, .int .i64 e4, .int .i64 e5] 42) = w8 := ⟨_, rfl⟩
      obtain ⟨g8, hg8⟩ : ∃ g8, wr.heap.size = g8 := ⟨_, rfl⟩
      have hk8 := Blk.new wr 42 #[.int .i64 e1, .int .i64 e2, .int .i64 e3, .int .i64 e4, .int .i64 e5]
      have hb8 := below_new wr (.cells #[.int .i64 e1, .int .i64 e2, .int .i64 e3, .int .i64 e4, .int .i64 e5] 42)
      rw [hw8, hg8] at hk8
      rw [hw8] at hb8
      have O8 := Lib.hid (hown.below hb8)
      have K8 := Lib.hid (hkv.below hb8 hkv.lt)
      have B8 := Lib.hid (below_trans hb hb.size hb8)
      have Hs8 := Lib.hid (show g0 + 1 ≤ w8.heap.size from Nat.le_trans hkv.lt hb8.size)
      obtain ⟨p0, p1⟩ : _ ∧ _ := ⟨K8.out.cell 0, K8.out.cell 1⟩
      simp only [List.getElem?_toArray, List.getElem?_cons_zero, List.getElem?_cons_succ] at p0 p1
      obtain ⟨z0, z1, z2, z3, z4⟩ : _ ∧ _ ∧ _ ∧ _ ∧ _ := ⟨hk8.cell 0, hk8.cell 1, hk8.cell 2, hk8.cell 3, hk8.cell 4⟩
      simp only [List.getElem?_toArray, List.getElem?_cons_zero, List.getElem?_cons_succ] at z0 z1 z2 z3 z4
      clear hA hlt hmore ht hk8 hb8 hown hkv hb hP hol hol2 hk
      cases t with
      | false =>
        have hm2 := Hmore.out
        rw [if_neg (by decide), List.append_nil] at hm2
        have Hm2 := Lib.hid hm2
        clear hm2
        go_wp2
        go_roundw
        case measure => have := Hlt.out; simp [intOf]; omega
        case rel => exact ⟨k + 1, by go_num, Hlt.out, by rw [Hm2.out]; exact O8.out, K8.out, B8.out⟩
      | true =>
        have hm2 := Hmore.out
        rw [if_pos rfl] at hm2
        have Hm2 := Lib.hid hm2
        clear hm2
        go_wp2_with (at_builtin; (refine app_row (e := 42) Ed.cells (fun _ => rfl) (by decide) (bytes := 40) (by decide) infoE rfl Try.underlying32 onesE (by rfl) _ _ (by rfl) (g0 + 1) _ P (by rfl) (O8.out.alloc _) w8.heap.size ⟨e1, e2, e3, e4, e5⟩ (by rfl) (Blk.new _ _ _) (by have := HPl.out; omega) (by have := Hs8.out; simp; omega) ?_); intro v6 w6 hown6 hg6 hor6; have HO6 := Lib.hid hown6; have HK6 := Lib.hid ((K8.out.alloc _).grown hg6 (fun e => by have := (O8.out.block _ e.symm).1; omega)); have HB6 := Lib.hid (show Below w.heap.size w w6 from (B8.out.alloc B8.out.size _).grown hg6 (by have := B8.out.size; simp; omega) (fun m e => by have := (O8.out.block m e).1; have := Hg0.out; omega)); clear hown6 hg6 hor6)
        go_roundw
        case measure => have := Hlt.out; simp [intOf]; omega
        case rel => exact ⟨k + 1, by go_num, Hlt.out, by rw [Hm2.out]; exact HO6.out, HK6.out, HB6.out⟩
    · have hke : k = l.length := by omega
      subst hke
      rw [List.take_length] at hP
      have hkl : ¬ (l.length : Int) < (l.length : Int) := by omega
      have HP := Lib.hid hP
      have HO := Lib.hid hown
      have HB := Lib.hid hb
      clear hown hkv hb hP hol hol2 hlt hk
      go_wp2
      go_ret
      exact ⟨⟨_, rfl, by rw [HP.out]; exact HO.out.lower (by have := Hg0.out; omega)⟩, by have h := HB.out; rw [Hg0.out] at h; exact h⟩

end Go.Proofs.Ytpfjgecdlilkcaa
