/-
  Layer 16: what is so is taken from all lists.
-/
import Derived.Test.YtfhikkmgclkcdaaRxNext
namespace Go.Proofs.Ytfhikkmgclkcdaa
open Go.RowKit

def stay (q : E5 → Bool) (rest : List (E5 × Value)) (R : List E5) : List E5 := R.filter fun y => decide (y ∈ fstL rest) || !q y
theorem fst_split (pre post : List (E5 × Value)) (x : E5) (v : Value) : fstL (pre ++ (x, v) :: post) = fstL pre ++ x :: fstL post := by simp [fstL]
theorem mem_split {pre post : List (E5 × Value)} {x y : E5} {v : Value} : y ∈ fstL (pre ++ (x, v) :: post) ↔ y = x ∨ y ∈ fstL (pre ++ post) := by
  rw [fst_split]
  simp only [fstL, List.map_append, List.mem_append, List.mem_cons]
  constructor
  · rintro (h | h | h)
    · exact .inr (.inl h)
    · exact .inl h
    · exact .inr (.inr h)
  · rintro (h | h | h)
    · exact .inr (.inl h)
    · exact .inl h
    · exact .inr (.inr h)
theorem not_mid {pre post : List (E5 × Value)} {x : E5} {v : Value} (hn : (fstL (pre ++ (x, v) :: post)).Nodup) : x ∉ fstL (pre ++ post) := by
  rw [fst_split] at hn
  obtain ⟨-, h2, h3⟩ := List.nodup_append.1 hn
  rw [List.nodup_cons] at h2
  simp only [fstL, List.map_append, List.mem_append] at h2 h3 ⊢
  rintro (h | h)
  · exact h3 x h x (by simp) rfl
  · exact h2.1 h
theorem stay_no {q : E5 → Bool} {pre post : List (E5 × Value)} {x : E5} {v : Value} {R : List E5} (hq : q x = false) : stay q (pre ++ (x, v) :: post) R = stay q (pre ++ post) R := by
  unfold stay
  refine List.filter_congr fun y _ => ?_
  simp only [mem_split]
  by_cases h : y = x
  · subst h; simp [hq]
  · simp [h]
theorem stay_yes {q : E5 → Bool} {pre post : List (E5 × Value)} {x : E5} {v : Value} {R : List E5} (hn : (fstL (pre ++ (x, v) :: post)).Nodup) (hq : q x = true) : (stay q (pre ++ (x, v) :: post) R).filter (fun y => decide (y ≠ x)) = stay q (pre ++ post) R := by
  unfold stay
  rw [List.filter_filter]
  refine List.filter_congr fun y _ => ?_
  have hm := not_mid hn
  simp only [mem_split]
  by_cases h : y = x
  · subst h; simp [hq, hm]
  · simp [h]
theorem stay_all (q : E5 → Bool) (R : List E5) : stay q (rxL R) R = R := by
  unfold stay
  rw [fst_rxL]
  exact List.filter_eq_self.2 fun y hy => by simp [hy]
theorem stay_nil (q : E5 → Bool) (R : List E5) : stay q [] R = R.filter fun y => !q y := by
  unfold stay
  refine List.filter_congr fun y _ => ?_
  simp [fstL]
theorem drop_rest {pre post : List (E5 × Value)} {x : E5} {v : Value} (hn : (fstL (pre ++ (x, v) :: post)).Nodup) : dropL x (pre ++ post) = pre ++ post :=
  dropL_of_not fun e he h => not_mid hn (by rw [← h]; exact List.mem_map.2 ⟨e, he, rfl⟩)
theorem count_snoc (q : E5 → Bool) (D : List E5) (x : E5) : ((D ++ [x]).filter q).length = if q x = true then (D.filter q).length + 1 else (D.filter q).length := by
  rw [List.filter_append, List.length_append]
  cases h : q x <;> simp [h]

set_option maxHeartbeats 2000000 in
set_option maxRecDepth 100000 in
theorem remove_of (f : Nat) (lb : Array Value) (hcall : ∀ (xs : Array Value) (w : World), (callFunc f xs).run Try.prog w = .ok (.enter f xs) w) (q : E5 → Bool) (p b : Nat) (R : List E5) (w : World) (hR : RxAt w p b R) (hlen : R.length ≤ 2 ^ 20)
    (hf : ∀ W, w.grownBy W (some b) → ∀ e1 e2 k1 k2 k3 : Int, Calls Try.prog f (#[.agg #[.int .i64 e1, .int .i64 e2, .int .i64 k1, .int .i64 k2, .int .i64 k3]] ++ lb) W fun e w' => e = .returned (.bool (q ⟨e1, e2, ⟨k1, k2, k3⟩⟩)) ∧ Below W.heap.size W w') :
    Calls Try.prog 95 #[.pointer (some ⟨p, 0, none⟩), .func (.func f) #[] lb] w fun r w' => r = .returned (.int .i64 (R.filter q).length) ∧ RxAt w' p b (R.filter fun x => !q x) ∧ w.grownBy w' (some b) := by
  have hcell := hR.ptr.cell 0
  simp only [List.getElem?_toArray, List.getElem?_cons_zero] at hcell
  have hplt := hR.ptr.lt
  have hblt := hR.map.lt
  have HR0 := Lib.hid hR
  have HM := Lib.hid hR.map
  have Hst := Lib.hid (stay_all q R)
  have Hfst := Lib.hid (fst_rxL R)
  have Hf := Lib.hid hf
  clear hR hf
  go_enter Try.func95, Try.ntmps95
  go_wp2_with (at_range; refine wpList_range_st _ rfl _ 160 rfl 164 3 Try.underlying160 rfl HM.out ?_; intro w1 hr1 hb1 hs1; have HR := Lib.hid hr1; have Hb1 := Lib.hid hb1; clear hr1 hb1 hs1)
  go_frame
  go_loopw [5] (fun n wr => ∃ D rest, RangeAt E5.enc wr b w.heap.size (rxL (stay q rest R)) rest ∧ (D ++ fstL rest).Perm R ∧ n = .int .i64 ((D.filter q).length : Nat) ∧ w.grownBy wr (some b)) (fun _ wr => wr.rangeLeft b w.heap.size)
  case atStart => exact ⟨[], rxL R, by rw [Hst.out]; exact HR.out, by rw [Hfst.out]; exact List.Perm.refl _, rfl, below_grown Hb1.out (World.grownBy.refl _ _)⟩
  case round =>
    obtain ⟨D, rest, hrg, hperm, rfl, hg⟩ := hrel
    have Hrg := Lib.hid hrg
    have Hperm := Lib.hid hperm
    have Hg := Lib.hid hg
    clear hrg hperm hg
    go_wp2_with (at_next; refine wpList_next_st _ rfl _ rfl E5.enc_inj rfl Hrg.out ?_ ?_)
    · intro h0
      subst h0
      have hperm := Hperm.out
      rw [show fstL ([] : List (E5 × Value)) = [] from rfl, List.append_nil] at hperm
      have hl := (hperm.filter q).length_eq
      have Hl := Lib.hid hl
      clear hperm hl
      go_wp2
      go_ret
      refine ⟨by rw [Hl.out]; rfl, HR0.out.turned Hg.out ?_, Hg.out⟩
      have := Hrg.out.map
      rwa [stay_nil] at this
    · intro pre e ev post w2 hsplit hrg2 hg2 hs2 hen
      obtain ⟨e1, e2, k1, k2, k3⟩ := e
      have hperm2 : (D ++ [(⟨e1, e2, ⟨k1, k2, k3⟩⟩ : E5)] ++ fstL (pre ++ post)).Perm R := by
        refine List.Perm.trans ?_ Hperm.out
        rw [hsplit, List.append_assoc]
        refine List.Perm.append_left D ?_
        simp only [fstL, List.map_append, List.map_cons, List.singleton_append]
        exact List.perm_middle.symm
      have hnod : (fstL (pre ++ ((⟨e1, e2, ⟨k1, k2, k3⟩⟩ : E5), ev) :: post)).Nodup := by
        have h1 := (Hperm.out.nodup_iff).2 HR0.out.nodup
        rw [hsplit] at h1
        exact (List.nodup_append.1 h1).2.1
      have hcnt : (D.filter q).length + 1 ≤ 2 ^ 20 := by
        have h1 := List.length_filter_le q D
        have h2 := hperm2.length_eq
        simp only [List.length_append, List.length_singleton] at h2
        omega
      have hmeas : (pre ++ post).length < rest.length := by rw [hsplit]; simp
      have Hcs := Lib.hid (count_snoc q D ⟨e1, e2, ⟨k1, k2, k3⟩⟩)
      have Hg2 := Lib.hid (show w.grownBy w2 (some b) from ⟨hg2.os.trans Hg.out.os, hg2.tape.trans Hg.out.tape, hg2.output.trans Hg.out.output, Nat.le_trans Hg.out.size hg2.size, fun i hi hne => (hg2.block i (Nat.lt_of_lt_of_le hi Hg.out.size) (fun e => by injection e with e; omega)).trans (Hg.out.block i hi hne)⟩)
      have hR2 := HR0.out.turned Hg2.out hrg2.map
      have HR2 := Lib.hid hR2
      have Hrg2 := Lib.hid hrg2
      have Hsplit := Lib.hid hsplit
      have Hnod := Lib.hid hnod
      have Hmeas := Lib.hid hmeas
      have Hperm2 := Lib.hid hperm2
      clear hsplit hrg2 hg2 hs2 hperm2 hnod hmeas hR2
      unfold E5.enc at hen
      have Hbl := Lib.hid (Blk.new w2 164 #[.int .i64 e1, .int .i64 e2, .int .i64 k1, .int .i64 k2, .int .i64 k3])
      cases hq : q ⟨e1, e2, ⟨k1, k2, k3⟩⟩
      · have Hq := Lib.hid hq
        clear hq
        go_wp2_with ((with_reducible refine Calls.mono (Hf.out _ (grown_below Hg2.out ((Below.refl _ _).alloc (Nat.le_refl _) _)) _ _ _ _ _) ?_); rw [Hq.out]; rintro r w3 ⟨rfl, hb3⟩; have Hb3 := Lib.hid hb3; clear hb3)
        have hrg3 := (Hrg2.out.alloc (.cells #[.int .i64 e1, .int .i64 e2, .int .i64 k1, .int .i64 k2, .int .i64 k3] 164)).below Hb3.out (Hrg2.out.alloc _).map.lt (Hrg2.out.alloc _).lt
        have hst : stay q rest R = stay q (pre ++ post) R := by rw [Hsplit.out]; exact stay_no Hq.out
        rw [hst] at hrg3
        have Hrg3 := Lib.hid hrg3
        have Hg3 := Lib.hid (grown_below (grown_below Hg2.out ((Below.refl _ _).alloc (Nat.le_refl _) _)) Hb3.out)
        clear hrg3 hst
        go_roundw
        case measure => rw [Hrg3.out.left_eq, Hrg.out.left_eq]; exact Hmeas.out
        case rel => exact ⟨D ++ [⟨e1, e2, ⟨k1, k2, k3⟩⟩], pre ++ post, Hrg3.out, Hperm2.out, by rw [Hcs.out, Hq.out]; rfl, Hg3.out⟩
      · have Hq := Lib.hid hq
        clear hq
        go_wp2_with ((with_reducible refine Calls.mono (Hf.out _ (grown_below Hg2.out ((Below.refl _ _).alloc (Nat.le_refl _) _)) _ _ _ _ _) ?_); rw [Hq.out]; rintro r w3 ⟨rfl, hb3⟩; have hbl := Hbl.out.below hb3 (by simp); have hp3 := ((HR2.out.alloc (.cells #[.int .i64 e1, .int .i64 e2, .int .i64 k1, .int .i64 k2, .int .i64 k3] 164)).keep hb3).ptr.cell 0; obtain ⟨z0, z1, z2, z3, z4⟩ : _ ∧ _ ∧ _ ∧ _ ∧ _ := ⟨hbl.cell 0, hbl.cell 1, hbl.cell 2, hbl.cell 3, hbl.cell 4⟩; simp only [List.getElem?_toArray, List.getElem?_cons_zero, List.getElem?_cons_succ] at z0 z1 z2 z3 z4 hp3; have Hb3 := Lib.hid hb3; clear hb3 hbl)
        refine wp_drew_tail 5 (by kernel_rfl) (by kernel_rfl) ?_
        simp only [List.take_succ_cons, List.take_zero, List.drop_succ_cons, List.drop_zero]
        repeat (go_big_quiet_step (fail))
        refine wpQuiet_nil ?_
        rintro w4 ⟨dq, rfl⟩
        have hrg3 : RangeAt E5.enc (w3.drewN dq) b w.heap.size (rxL (stay q rest R)) (pre ++ post) := ((Hrg2.out.alloc (.cells #[.int .i64 e1, .int .i64 e2, .int .i64 k1, .int .i64 k2, .int .i64 k3] 164)).below Hb3.out (Hrg2.out.alloc _).map.lt (Hrg2.out.alloc _).lt).same rfl rfl
        have Hrg3 := Lib.hid hrg3
        clear hrg3
        go_wp2_with (at_delete; (refine wpList_delete_range_st _ (by rfl) _ _ 160 164 (by rfl) 3 keyE5 Try.underlying160 (by rfl) Hrg3.out ⟨e1, e2, ⟨k1, k2, k3⟩⟩ (by rfl) ?_); intro w5 hm5 hg5 hs5; have Hm5 := Lib.hid hm5; have Hg5 := Lib.hid hg5; clear hm5 hg5 hs5)
        have hrg5 := Hm5.out
        rw [dropL_rx, show (stay q rest R).filter (fun x => decide (x ≠ ⟨e1, e2, ⟨k1, k2, k3⟩⟩)) = stay q (pre ++ post) R by rw [Hsplit.out]; exact stay_yes Hnod.out Hq.out, drop_rest Hnod.out] at hrg5
        have Hrg5 := Lib.hid hrg5
        have Hg6 := Lib.hid (grown_trans (grown_below (grown_below Hg2.out ((Below.refl _ _).alloc (Nat.le_refl _) _)) Hb3.out) (grown_drewN Hg5.out))
        clear hrg5
        go_wp2
        go_roundw
        case measure => rw [Hrg5.out.left_eq, Hrg.out.left_eq]; exact Hmeas.out
        case rel => exact ⟨D ++ [⟨e1, e2, ⟨k1, k2, k3⟩⟩], pre ++ post, Hrg5.out, Hperm2.out, by rw [Hcs.out, Hq.out]; go_num, Hg6.out⟩
set_option maxHeartbeats 1000000 in
theorem remove_nil (fv : Value) (w : World) : Calls Try.prog 95 #[.pointer none, fv] w fun r w' => r = .returned (.int .i64 0) ∧ Below w.heap.size w w' := by
  go_enter Try.func95, Try.ntmps95
  go_wp2
  go_ret
  exact ⟨rfl, Below.refl _ _⟩

end Go.Proofs.Ytfhikkmgclkcdaa
