/-
  Layer 15: heads are added to what is wanted.
-/
import Derived.Test.YtmjjmkdjjfmhhaaWaMem
import Derived.Test.YtmjjmkdjjfmhhaaFlKeys
import Derived.Test.YtmjjmkdjjfmhhaaCmpTail
namespace Go.Proofs.Ytmjjmkdjjfmhhaa
open Go.RowKit

theorem below_two {w w2 : World} {o : Obj} (hb : Below (w.alloc o).heap.size (w.alloc o) w2) (o' : Obj) : Below w.heap.size w (w2.alloc o') := by
  have h1 : Below w.heap.size w w2 := ((Below.refl w.heap.size w).alloc (Nat.le_refl _) o).trans (hb.mono (by simp))
  exact h1.alloc h1.size _
theorem newer_cases (x : Int) : decide (0 < x) = true ∨ decide (0 < x) = false := by by_cases h : 0 < x <;> simp [h]
structure ageOk (h : Hd) : Prop where
  lo : 0 ≤ h.age
  hi : h.age ≤ 60
theorem row_hd {w : World} {B : Nat} {A : Option Addr} {l : List Hd} (h : RowsAt 7 Hd.cells w B A l) (k : Nat) (hk : k < l.length) :
    ∃ b o, A = some ⟨b, o, none⟩ ∧ b < B ∧ w.cell? ⟨b, o + k * 7, none⟩ = some (.int .i64 l[k].age) ∧ w.cell? ⟨b, o + k * 7 + 1, none⟩ = some (.int .i64 l[k].kind) ∧ w.cell? ⟨b, o + k * 7 + 2, none⟩ = some (.int .i64 l[k].id) ∧ w.cell? ⟨b, o + k * 7 + 3, none⟩ = some (.int .i64 l[k].adv) ∧
      w.cell? ⟨b, o + k * 7 + 4, none⟩ = some (.int .i64 l[k].seq) ∧ w.cell? ⟨b, o + k * 7 + 5, none⟩ = some (.int .i64 l[k].sum) ∧ w.cell? ⟨b, o + k * 7 + 6, none⟩ = some (.int .i64 l[k].long) := by
  obtain ⟨b, o, e, hb, hc⟩ := h (by omega)
  exact ⟨b, o, e, hb, by simpa using hc k hk 0 _ (by omega) rfl, hc k hk 1 _ (by omega) rfl, hc k hk 2 _ (by omega) rfl, hc k hk 3 _ (by omega) rfl, hc k hk 4 _ (by omega) rfl, hc k hk 5 _ (by omega) rfl, hc k hk 6 _ (by omega) rfl⟩
def addAllM (M L : List Hd) : List Hd := L.foldl (addM newerI) M
theorem addAllM_succ (M L : List Hd) (k : Nat) (hk : k < L.length) : addAllM M (L.take (k + 1)) = addM newerI (addAllM M (L.take k)) L[k] := by
  unfold addAllM
  rw [List.take_succ_eq_append_getElem hk, List.foldl_append]
  rfl
theorem addM_mem {nw : Hd → Hd → Int} {M : List Hd} {h x : Hd} (hx : x ∈ addM nw M h) : x ∈ M ∨ x = h := by
  have hs : ∀ M : List Hd, ∀ x, x ∈ setH h M → x ∈ M ∨ x = h := by
    intro M
    induction M with
    | nil => intro x hx; simp [setH] at hx; exact .inr hx
    | cons y M ih =>
      intro x hx
      unfold setH at hx
      split at hx
      · rcases List.mem_cons.1 hx with e | hx
        · exact .inr e
        · exact .inl (by simp [hx])
      · rcases List.mem_cons.1 hx with e | hx
        · exact .inl (by simp [e])
        · rcases ih x hx with h1 | h1
          · exact .inl (by simp [h1])
          · exact .inr h1
  unfold addM at hx
  split at hx
  · split at hx
    · exact hs M x hx
    · exact .inl hx
  · exact hs M x hx
theorem addAllM_age {M L : List Hd} (hM : ∀ x ∈ M, ageOk x) (hL : ∀ x ∈ L, ageOk x) : ∀ x ∈ addAllM M L, ageOk x := by
  induction L generalizing M with
  | nil => exact hM
  | cons h L ih =>
    refine ih (M := addM newerI M h) (fun x hx => ?_) (fun x hx => hL x (by simp [hx]))
    rcases addM_mem hx with h1 | h1
    · exact hM x h1
    · exact h1 ▸ hL h (by simp)
theorem addAllM_len (M L : List Hd) : (addAllM M L).length ≤ M.length + L.length := by
  have hs : ∀ (h : Hd) (M : List Hd), (setH h M).length ≤ M.length + 1 := by
    intro h M
    induction M with
    | nil => simp [setH]
    | cons y M ih =>
      unfold setH
      split <;> simp <;> omega
  induction L generalizing M with
  | nil => exact Nat.le_refl _
  | cons h L ih =>
    have h1 := ih (addM newerI M h)
    have h2 : (addM newerI M h).length ≤ M.length + 1 := by
      unfold addM
      have := hs h M
      split
      · split <;> omega
      · exact this
    simp only [addAllM, List.foldl_cons, List.length_cons] at *
    omega
/-- one head is added: the three ways -/
theorem add_cases (M : List Hd) (h : Hd) : (getH (keyH h) M = none ∧ addM newerI M h = setH h M) ∨
    (∃ x, getH (keyH h) M = some x ∧ decide (0 < newerI h x) = true ∧ addM newerI M h = setH h M) ∨ (∃ x, getH (keyH h) M = some x ∧ decide (0 < newerI h x) = false ∧ addM newerI M h = M) := by
  unfold addM
  cases hx : getH (keyH h) M with
  | none => exact .inl ⟨rfl, rfl⟩
  | some x =>
    right
    simp only
    by_cases h1 : 0 < newerI h x
    · exact .inl ⟨x, rfl, by simp [h1], by rw [if_pos h1]⟩
    · exact .inr ⟨x, rfl, by simpa using h1, by rw [if_neg h1]⟩

set_option maxHeartbeats 4000000 in
set_option maxRecDepth 100000 in
theorem WaAdd_of (p b : Nat) (M : List Hd) (A : Option Addr) (cap : Nat) (L : List Hd) (w : World) (h : WaAt w p b M) (B : Nat) (hl : ∀ W, w.grownBy W (some b) → RowsAt 7 Hd.cells W B A L) (hM : ∀ x ∈ M, ageOk x) (hL : ∀ x ∈ L, ageOk x)
    (hlen : L.length ≤ 1000) (n : Nat) (hn : n = L.length) :
    Calls Try.prog 30 #[.pointer (some ⟨p, 0, none⟩), .slice A n cap] w fun r w' => r = .returned (.int .i64 (addAllM M L).length) ∧ WaAt w' p b (addAllM M L) ∧ w.grownBy w' (some b) := by
  subst hn
  have H := Lib.hid h
  have HL := Lib.hid hl
  have HMa := Lib.hid hM
  have HLa := Lib.hid hL
  clear h hl hM hL
  go_enter Try.func30, Try.ntmps30
  go_wp2
  go_loopw [14] (fun i wr => ∃ k : Nat, k ≤ L.length ∧ i = .int .i64 k ∧ WaAt wr p b (addAllM M (L.take k)) ∧ w.grownBy wr (some b)) (fun i _ => L.length - (intOf i).toNat)
  case atStart => exact ⟨0, Nat.zero_le _, rfl, H.out, World.grownBy.refl _ _⟩
  case round =>
    obtain ⟨k, hk, rfl, hwa, hg⟩ := hrel
    by_cases hlt : k < L.length
    · obtain ⟨b1, o1, rfl, -, x0, x1, x2, x3, x4, x5, x6⟩ := row_hd (HL.out wr hg) k hlt
      have hz := addAllM_succ M L k hlt
      have hMk := addAllM_age HMa.out (fun x hx => HLa.out x (List.mem_of_mem_take hx)) (L := L.take k)
      have hhk := HLa.out L[k] (List.getElem_mem hlt)
      have hkl : (k : Int) < (L.length : Int) := by omega
      generalize L[k] = y at *
      generalize addAllM M (L.take k) = N at *
      have hcases := add_cases N y
      obtain ⟨y1, y2, y3, y4, y5, y6, y7⟩ := y
      simp only at x0 x1 x2 x3 x4 x5 x6
      have HZ := Lib.hid hz
      have HMk := Lib.hid hMk
      have Hhk := Lib.hid hhk
      have Hwa := Lib.hid hwa
      have Hg := Lib.hid hg
      clear hz hMk hhk hwa hg
      have Hcases := Lib.hid hcases
      clear hcases
      have hcell := Hwa.out.ptr.cell 0
      simp only [List.getElem?_toArray, List.getElem?_cons_zero] at hcell
      go_wp2_with (go_at_call 20; (with_reducible refine Calls.mono (keyOf_any _ _ _ _ _ _ _ _) ?_); rintro r w2 ⟨rfl, hb2⟩; obtain ⟨w5, hW5, hk5, hh5, hw5, hg5⟩ : ∃ w5, w2.alloc (.cells #[.int .i64 y2, .int .i64 y3, .int .i64 y4] 39) = w5 ∧ Blk w5 w2.heap.size 39 #[.int .i64 y2, .int .i64 y3, .int .i64 y4] ∧ Blk w5 wr.heap.size 23 #[.int .i64 y1, .int .i64 y2, .int .i64 y3, .int .i64 y4, .int .i64 y5, .int .i64 y6, .int .i64 y7] ∧ WaAt w5 p b N ∧ w.grownBy w5 (some b) := ⟨_, rfl, Blk.new _ _ _, ((Blk.new wr _ _).below hb2 (by simp)).alloc _, ((Hwa.out.alloc _).keep hb2).alloc _, grown_below Hg.out (below_two hb2 _)⟩; clear hb2)
      obtain ⟨u, hu⟩ : ∃ u, (getH ⟨y2, y3, y4⟩ N).getD zeroHd = u := ⟨_, rfl⟩
      obtain ⟨is, his⟩ : ∃ is, (getH ⟨y2, y3, y4⟩ N).isSome = is := ⟨_, rfl⟩
      have hl := hw5.map.drew.look_run keyK3 Try.underlying123 (zeroH _) ⟨y2, y3, y4⟩ true
      have hl2 := fun o => (hw5.map.alloc o).drew.look_run keyK3 Try.underlying123 (zeroH _) ⟨y2, y3, y4⟩ true
      simp only [if_true, K3.enc] at hl hl2
      obtain ⟨e1, e2⟩ := getL_aggH ⟨y2, y3, y4⟩ N
      rw [hu] at e1
      rw [his] at e2
      rw [e1, e2] at hl hl2
      obtain ⟨z0, z1, z2, z3⟩ : _ ∧ _ ∧ _ ∧ _ := ⟨hk5.cell 0, hk5.cell 1, hk5.cell 2, hw5.ptr.cell 0⟩
      obtain ⟨c0, c1, c2, c3⟩ : _ ∧ _ ∧ _ ∧ _ := ⟨fun o => (hk5.alloc o).cell 0, fun o => (hk5.alloc o).cell 1, fun o => (hk5.alloc o).cell 2, fun o => (hw5.ptr.alloc o).cell 0⟩
      simp only [List.getElem?_toArray, List.getElem?_cons_zero, List.getElem?_cons_succ] at c0 c1 c2 c3 z0 z1 z2 z3
      have Hk5 := Lib.hid hk5
      have Hh5 := Lib.hid hh5
      have Hw5 := Lib.hid hw5
      have Hg5 := Lib.hid hg5
      have Hu := Lib.hid hu
      have His := Lib.hid his
      clear hk5 hh5 hw5 hg5 e1 e2 hu his hcell x0 x1 x2 x3 x4 x5 x6
      obtain ⟨u1, u2, u3, u4, u5, u6, u7⟩ := u
      unfold aggH Hd.cells at hl hl2
      simp only at hl hl2
      go_region
      obtain ⟨w6, hW6⟩ : ∃ w6, (w5.alloc (.cells #[.int .i64 u1, .int .i64 u2, .int .i64 u3, .int .i64 u4, .int .i64 u5, .int .i64 u6, .int .i64 u7] 23)).drew = w6 := ⟨_, rfl⟩
      have hk6 : Blk w6 w2.heap.size 39 #[.int .i64 y2, .int .i64 y3, .int .i64 y4] := by rw [← hW6]; exact (Hk5.out.alloc _).drew
      have hh6 : Blk w6 wr.heap.size 23 #[.int .i64 y1, .int .i64 y2, .int .i64 y3, .int .i64 y4, .int .i64 y5, .int .i64 y6, .int .i64 y7] := by rw [← hW6]; exact (Hh5.out.alloc _).drew
      have hu6 : Blk w6 w5.heap.size 23 #[.int .i64 u1, .int .i64 u2, .int .i64 u3, .int .i64 u4, .int .i64 u5, .int .i64 u6, .int .i64 u7] := by rw [← hW6]; exact (Blk.new w5 _ _).drew
      have hw6 : WaAt w6 p b N := by rw [← hW6]; exact (Hw5.out.alloc _).drewN 1
      have hg6 : w.grownBy w6 (some b) := by rw [← hW6]; exact grown_below Hg5.out ((Below.refl _ _).alloc (Nat.le_refl _) _).drew
      rw [hW6]
      have HW6 := Lib.hid hW6
      clear hW6 c0 c1 c2 c3 z0 z1 z2 z3 hl hl2
      obtain ⟨z0, z1, z2, z3⟩ : _ ∧ _ ∧ _ ∧ _ := ⟨hk6.cell 0, hk6.cell 1, hk6.cell 2, hw6.ptr.cell 0⟩
      simp only [List.getElem?_toArray, List.getElem?_cons_zero, List.getElem?_cons_succ] at z0 z1 z2 z3
      obtain ⟨a0, a1, a2, a3, a4, a5, a6, -⟩ := hh6.both7
      obtain ⟨b0, b1, b2, b3, b4, b5, b6, -⟩ := hu6.both7
      have Hw6 := Lib.hid hw6
      have Hg6 := Lib.hid hg6
      have Hh6 := Lib.hid hh6
      have Hk6 := Lib.hid hk6
      clear hk6 hh6 hu6 hw6 hg6
      rcases Hcases.out with ⟨q1, q2⟩ | ⟨x, q1, q2, q3⟩ | ⟨x, q1, q2, q3⟩
      · have his : is = false := by rw [← His.out]; unfold keyH at q1; simp only at q1; rw [q1]; rfl
        have Hq2 := Lib.hid q2
        subst his
        clear q1 q2
        go_wp2_with fail
        refine wp_drew_tail 6 (by kernel_rfl) (by kernel_rfl) ?_
        simp only [List.take_succ_cons, List.take_zero, List.drop_succ_cons, List.drop_zero]
        repeat (go_big_quiet_step (fail))
        refine wpQuiet_nil ?_
        rintro w7 ⟨dq, rfl⟩
        have HM := Lib.hid (Hw6.out.drewN dq).map
        go_wp2_with (at_mapUpdate; (refine wpList_update_st _ (by rfl) _ _ _ 123 (by rfl) 39 23 keyK3 Try.underlying123 (by rfl) HM.out ⟨y2, y3, y4⟩ (by rfl) (aggH ⟨y1, y2, y3, y4, y5, y6, y7⟩) (by rfl) ?_); intro w9 hm9 hg9 hs9; have Hm9 := Lib.hid hm9; have Hg9 := Lib.hid hg9; clear hm9 hg9 hs9)
        have hm9 := Hm9.out
        rw [show (⟨y2, y3, y4⟩ : K3) = keyH ⟨y1, y2, y3, y4, y5, y6, y7⟩ from rfl, setL_wa] at hm9
        have Hw9 := Lib.hid ((Hw6.out.drewN dq).turned Hg9.out hm9)
        have Hg10 := Lib.hid (grown_trans Hg6.out (grown_drewN Hg9.out))
        clear hm9
        go_wp2
        go_roundw
        case measure => simp [intOf]; omega
        case rel => exact ⟨k + 1, hlt, by go_num, by rw [HZ.out, Hq2.out]; exact Hw9.out, Hg10.out⟩
      · skip
        have his : is = true := by rw [← His.out]; unfold keyH at q1; simp only at q1; rw [q1]; rfl
        have hux : (⟨u1, u2, u3, u4, u5, u6, u7⟩ : Hd) = x := by rw [← Hu.out]; unfold keyH at q1; simp only at q1; rw [q1]; rfl
        subst hux
        obtain ⟨m, hm⟩ : ∃ m, newerI ⟨y1, y2, y3, y4, y5, y6, y7⟩ ⟨u1, u2, u3, u4, u5, u6, u7⟩ = m := ⟨_, rfl⟩
        have hua := HMk.out _ (getH_mem q1).1
        rw [hm] at q2
        have Hm := Lib.hid hm
        have Hua := Lib.hid hua
        have Hq2 := Lib.hid q3
        subst his
        clear q1 q3 hm hua
        go_wp2_with fail
        with_reducible refine Calls.mono (newer_any _ _ _ _ _ _ _ _ _ _ _ _ _ _ _ Hhk.out.lo Hhk.out.hi Hua.out.lo Hua.out.hi Hm.out) ?_
        rintro r w8 ⟨rfl, hb8⟩
        have hk8 := Hk6.out.below hb8 Hk6.out.lt
        have hh8 := Hh6.out.below hb8 Hh6.out.lt
        have hw8 := Hw6.out.keep hb8
        have Hg8 := Lib.hid (grown_below Hg6.out hb8)
        obtain ⟨p0, p1, p2, p3⟩ : _ ∧ _ ∧ _ ∧ _ := ⟨hk8.cell 0, hk8.cell 1, hk8.cell 2, hw8.ptr.cell 0⟩
        simp only [List.getElem?_toArray, List.getElem?_cons_zero, List.getElem?_cons_succ] at p0 p1 p2 p3
        obtain ⟨m0, m1, m2, m3, m4, m5, m6, -⟩ := hh8.both7
        have Hw8 := Lib.hid hw8
        clear hb8 hk8 hh8 hw8 z0 z1 z2 z3 a0 a1 a2 a3 a4 a5 a6 b0 b1 b2 b3 b4 b5 b6
        go_wp2_with fail
        refine wp_drew_tail 6 (by kernel_rfl) (by kernel_rfl) ?_
        simp only [List.take_succ_cons, List.take_zero, List.drop_succ_cons, List.drop_zero]
        repeat (go_big_quiet_step (fail))
        refine wpQuiet_nil ?_
        rintro w7 ⟨dq, rfl⟩
        have HM := Lib.hid (Hw8.out.drewN dq).map
        go_wp2_with (at_mapUpdate; (refine wpList_update_st _ (by rfl) _ _ _ 123 (by rfl) 39 23 keyK3 Try.underlying123 (by rfl) HM.out ⟨y2, y3, y4⟩ (by rfl) (aggH ⟨y1, y2, y3, y4, y5, y6, y7⟩) (by rfl) ?_); intro w9 hm9 hg9 hs9; have Hm9 := Lib.hid hm9; have Hg9 := Lib.hid hg9; clear hm9 hg9 hs9)
        have hm9 := Hm9.out
        rw [show (⟨y2, y3, y4⟩ : K3) = keyH ⟨y1, y2, y3, y4, y5, y6, y7⟩ from rfl, setL_wa] at hm9
        have Hw9 := Lib.hid ((Hw8.out.drewN dq).turned Hg9.out hm9)
        have Hg10 := Lib.hid (grown_trans Hg8.out (grown_drewN Hg9.out))
        clear hm9
        go_wp2
        go_roundw
        case measure => simp [intOf]; omega
        case rel => exact ⟨k + 1, hlt, by go_num, by rw [HZ.out, Hq2.out]; exact Hw9.out, Hg10.out⟩
      · skip
        have his : is = true := by rw [← His.out]; unfold keyH at q1; simp only at q1; rw [q1]; rfl
        have hux : (⟨u1, u2, u3, u4, u5, u6, u7⟩ : Hd) = x := by rw [← Hu.out]; unfold keyH at q1; simp only at q1; rw [q1]; rfl
        subst hux
        obtain ⟨m, hm⟩ : ∃ m, newerI ⟨y1, y2, y3, y4, y5, y6, y7⟩ ⟨u1, u2, u3, u4, u5, u6, u7⟩ = m := ⟨_, rfl⟩
        have hua := HMk.out _ (getH_mem q1).1
        rw [hm] at q2
        have Hm := Lib.hid hm
        have Hua := Lib.hid hua
        have Hq2 := Lib.hid q3
        subst his
        clear q1 q3 hm hua
        go_wp2_with fail
        with_reducible refine Calls.mono (newer_any _ _ _ _ _ _ _ _ _ _ _ _ _ _ _ Hhk.out.lo Hhk.out.hi Hua.out.lo Hua.out.hi Hm.out) ?_
        rintro r w8 ⟨rfl, hb8⟩
        have hk8 := Hk6.out.below hb8 Hk6.out.lt
        have hh8 := Hh6.out.below hb8 Hh6.out.lt
        have hw8 := Hw6.out.keep hb8
        have Hg8 := Lib.hid (grown_below Hg6.out hb8)
        obtain ⟨p0, p1, p2, p3⟩ : _ ∧ _ ∧ _ ∧ _ := ⟨hk8.cell 0, hk8.cell 1, hk8.cell 2, hw8.ptr.cell 0⟩
        simp only [List.getElem?_toArray, List.getElem?_cons_zero, List.getElem?_cons_succ] at p0 p1 p2 p3
        obtain ⟨m0, m1, m2, m3, m4, m5, m6, -⟩ := hh8.both7
        have Hw8 := Lib.hid hw8
        clear hb8 hk8 hh8 hw8 z0 z1 z2 z3 a0 a1 a2 a3 a4 a5 a6 b0 b1 b2 b3 b4 b5 b6
        go_wp2_with fail
        go_roundw
        case measure => simp [intOf]; omega
        case rel => exact ⟨k + 1, hlt, by go_num, by rw [HZ.out, Hq2.out]; exact Hw8.out, Hg8.out⟩
    · have hkk : k = L.length := by omega
      subst hkk
      rw [List.take_length] at hwa
      have hcell := hwa.ptr.cell 0
      simp only [List.getElem?_toArray, List.getElem?_cons_zero] at hcell
      have Hwa := Lib.hid hwa
      have Hg := Lib.hid hg
      have hL : (waL (addAllM M L)).length = (addAllM M L).length := by simp [waL]
      have hl := fun t => Hwa.out.map.len_run (P := Try.prog) Try.underlying123 t
      rw [hL] at hl
      clear hwa hg hL
      go_wp2
      go_ret
      exact ⟨rfl, Hwa.out, Hg.out⟩
def addAllD (L K : List Hd) : List Hd := K.foldl (addD newerI) L
theorem addAllD_succ (L K : List Hd) (k : Nat) (hk : k < K.length) : addAllD L (K.take (k + 1)) = addD newerI (addAllD L (K.take k)) K[k] := by
  unfold addAllD
  rw [List.take_succ_eq_append_getElem hk, List.foldl_append]
  rfl
theorem addAll_eq {M L : List Hd} (h : WEq M L) (K : List Hd) : WEq (addAllM M K) (addAllD L K) := by
  induction K generalizing M L with
  | nil => exact h
  | cons x K ih => exact ih (h.add newerI x)

end Go.Proofs.Ytmjjmkdjjfmhhaa
