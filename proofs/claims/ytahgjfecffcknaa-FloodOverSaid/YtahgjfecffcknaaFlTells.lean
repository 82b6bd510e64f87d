/-
  What the reference says of it.
-/
import Derived.Test.YtahgjfecffcknaaFlHas
namespace Go.Proofs.Ytahgjfecffcknaa
open Go.RowKit Go.Sort

set_option maxHeartbeats 8000000 in
set_option maxRecDepth 100000 in
theorem tells_any (a1 a2 a3 a4 a5 a6 a7 p1 p2 p3 p4 p5 : Int) (p6 : Bool) (p7 : Int) (A : Option Addr) (cap : Nat) (l : List Wnt) (w : World) (B : Nat) (hl : RowsAt 8 Wnt.cells w B A l) (hB : B ≤ w.heap.size) (hm : l.length ≤ maxLen)
    (ha : 0 ≤ a1) (ha' : a1 ≤ 60) (hall : ∀ x ∈ l, lateW x = false) {v : Bool} (hv : l.any (wantsB ⟨a1, a2, a3, a4, a5, a6, a7⟩ p1) = v) :
    Calls Try.prog 21 #[.agg #[.int .i64 a1, .int .i64 a2, .int .i64 a3, .int .i64 a4, .int .i64 a5, .int .i64 a6, .int .i64 a7], .agg #[.int .i64 p1, .int .i64 p2, .int .i64 p3, .int .i64 p4, .int .i64 p5, .bool p6, .int .i64 p7], .slice A l.length cap] w
      fun r w' => r = .returned (.bool v) ∧ Below w.heap.size w w' := by
  unfold maxLen at hm
  have Hl := Lib.hid (hl.more hB)
  have Hall := Lib.hid hall
  have Hv := Lib.hid hv
  have Hage := Lib.hid (And.intro ha ha')
  clear hl hB hall hv ha ha'
  obtain ⟨w0, hW0⟩ : ∃ w0, (w.alloc (.cells #[.int .i64 a1, .int .i64 a2, .int .i64 a3, .int .i64 a4, .int .i64 a5, .int .i64 a6, .int .i64 a7] 24)).alloc (.cells #[.int .i64 p1, .int .i64 p2, .int .i64 p3, .int .i64 p4, .int .i64 p5, .bool p6, .int .i64 p7] 55) = w0 := ⟨_, rfl⟩
  have hA : Blk w0 w.heap.size 24 #[.int .i64 a1, .int .i64 a2, .int .i64 a3, .int .i64 a4, .int .i64 a5, .int .i64 a6, .int .i64 a7] := by rw [← hW0]; exact (Blk.new w _ _).alloc _
  have hP : Blk w0 (w.heap.size + 1) 55 #[.int .i64 p1, .int .i64 p2, .int .i64 p3, .int .i64 p4, .int .i64 p5, .bool p6, .int .i64 p7] := by rw [← hW0]; exact Blk.size (by simp)
  have Hb0 : Hid (Below w.heap.size w w0) := Lib.hid (by rw [← hW0]; exact ((Below.refl w.heap.size w).alloc (Nat.le_refl _) _).alloc (by simp) _)
  have HA := Lib.hid hA
  have HP := Lib.hid hP
  obtain ⟨q0, q1, q2, q3, q4, q5, q6⟩ : w0.cell? ⟨w.heap.size + 1, 0, none⟩ = _ ∧ w0.cell? ⟨w.heap.size + 1, 1, none⟩ = _ ∧ w0.cell? ⟨w.heap.size + 1, 2, none⟩ = _ ∧ w0.cell? ⟨w.heap.size + 1, 3, none⟩ = _ ∧ w0.cell? ⟨w.heap.size + 1, 4, none⟩ = _ ∧ w0.cell? ⟨w.heap.size + 1, 5, none⟩ = _ ∧ w0.cell? ⟨w.heap.size + 1, 6, none⟩ = _ := ⟨hP.cell 0, hP.cell 1, hP.cell 2, hP.cell 3, hP.cell 4, hP.cell 5, hP.cell 6⟩
  clear hA hP
  go_enter Try.func21, Try.ntmps21
  clear q0 q1 q2 q3 q4 q5 q6
  go_wp2
  go_loopw [7] (fun i wr => ∃ k : Nat, k ≤ l.length ∧ i = .int .i64 k ∧ (l.take k).any (wantsB ⟨a1, a2, a3, a4, a5, a6, a7⟩ p1) = false ∧ Blk wr w.heap.size 24 #[.int .i64 a1, .int .i64 a2, .int .i64 a3, .int .i64 a4, .int .i64 a5, .int .i64 a6, .int .i64 a7] ∧
    Blk wr (w.heap.size + 1) 55 #[.int .i64 p1, .int .i64 p2, .int .i64 p3, .int .i64 p4, .int .i64 p5, .bool p6, .int .i64 p7] ∧ Below w.heap.size w wr) (fun i _ => l.length - (intOf i).toNat)
  case atStart => exact ⟨0, Nat.zero_le _, rfl, by simp, HA.out, HP.out, Hb0.out⟩
  case round =>
    obtain ⟨k, hk, rfl, hno, hA, hP, hb⟩ := hrel
    by_cases hlt : k < l.length
    · obtain ⟨b', o', rfl, hbB', x0, x1, x2, x3, x4, x5, x6, x7⟩ := Wants.at_ (Hl.out.below hb) k hlt
      have hps := any_take_succ (wantsB ⟨a1, a2, a3, a4, a5, a6, a7⟩ p1) l k hlt
      have hpt := fun h => any_true (f := wantsB ⟨a1, a2, a3, a4, a5, a6, a7⟩ p1) hlt h
      have hlate := late_not (Hall.out l[k] (List.getElem_mem hlt))
      generalize l[k] = x at *
      have hwc := wantsB_cases ⟨a1, a2, a3, a4, a5, a6, a7⟩ p1 x
      rcases x with ⟨xi, ⟨y1, y2, y3, y4, y5, y6, y7⟩⟩
      simp only at hlate hwc
      obtain ⟨K, hK⟩ : ∃ K, keysB ⟨a1, a2, a3, a4, a5, a6, a7⟩ ⟨y1, y2, y3, y4, y5, y6, y7⟩ = K := ⟨_, rfl⟩
      obtain ⟨n, hn⟩ : ∃ n, newerI ⟨a1, a2, a3, a4, a5, a6, a7⟩ ⟨y1, y2, y3, y4, y5, y6, y7⟩ = n := ⟨_, rfl⟩
      rw [hK, hn] at hwc
      have hE : ∀ w, (Op.equalIn 10000 66 (.agg #[.int .i64 y2, .int .i64 y3, .int .i64 y4]) (.agg #[.int .i64 a2, .int .i64 a3, .int .i64 a4])).run Try.prog w = .ok K w := fun w => by rw [eqKey, ← hK]; rfl
      obtain ⟨b_0, b_1, b_2, b_3, b_4, b_5, b_6, b_7⟩ : _ ∧ _ ∧ _ ∧ _ ∧ _ ∧ _ ∧ _ ∧ _ := ⟨cell_regrown x0, cell_regrown x1, cell_regrown x2, cell_regrown x3, cell_regrown x4, cell_regrown x5, cell_regrown x6, cell_regrown x7⟩
      have cK : ∀ a b c d e f g dd os, Calls Try.prog 23 #[.agg #[.int .i64 a, .int .i64 b, .int .i64 c, .int .i64 d, .int .i64 e, .int .i64 f, .int .i64 g]] (grow (redrawn wr dd) os) fun r w'' => r = .returned (.agg #[.int .i64 b, .int .i64 c, .int .i64 d]) ∧ ∃ p : Regrown, w'' = grow (redrawn wr p.d) p.os := fun a b c d e f g dd os => Calls.regrown_of (key_any a b c d e f g _)
      have cN : ∀ dd os, Calls Try.prog 24 #[.agg #[.int .i64 a1, .int .i64 a2, .int .i64 a3, .int .i64 a4, .int .i64 a5, .int .i64 a6, .int .i64 a7], .agg #[.int .i64 y1, .int .i64 y2, .int .i64 y3, .int .i64 y4, .int .i64 y5, .int .i64 y6, .int .i64 y7]] (grow (redrawn wr dd) os) fun r w'' => r = .returned (.int .i64 n) ∧ ∃ p : Regrown, w'' = grow (redrawn wr p.d) p.os := fun dd os => Calls.regrown_of (refNewer_any _ _ _ _ _ _ _ _ _ _ _ _ _ _ _ Hage.out.1 Hage.out.2 hlate.1 hlate.2 hn)
      have CK := Lib.hid cK
      have CN := Lib.hid cN
      obtain ⟨a_0, a_1, a_2, a_3, a_4, a_5, a_6⟩ : _ ∧ _ ∧ _ ∧ _ ∧ _ ∧ _ ∧ _ := ⟨cell_regrown (hA.cell 0), cell_regrown (hA.cell 1), cell_regrown (hA.cell 2), cell_regrown (hA.cell 3), cell_regrown (hA.cell 4), cell_regrown (hA.cell 5), cell_regrown (hA.cell 6)⟩
      have p_0 := cell_regrown (hP.cell 0)
      have Hno := Lib.hid hno
      have Hps := Lib.hid hps
      have Hpt := Lib.hid hpt
      have Hin := Lib.hid (And.intro hA (And.intro hP hb))
      clear hno hps hpt hA hP hb hbB' cK cN hK hn hlate
      have hwc : ((xi == p1) = false ∧ wantsB ⟨a1, a2, a3, a4, a5, a6, a7⟩ p1 ⟨xi, ⟨y1, y2, y3, y4, y5, y6, y7⟩⟩ = false) ∨ ((xi == p1) = true ∧ K = false ∧ wantsB ⟨a1, a2, a3, a4, a5, a6, a7⟩ p1 ⟨xi, ⟨y1, y2, y3, y4, y5, y6, y7⟩⟩ = false) ∨
          ((xi == p1) = true ∧ K = true ∧ n < 1 ∧ wantsB ⟨a1, a2, a3, a4, a5, a6, a7⟩ p1 ⟨xi, ⟨y1, y2, y3, y4, y5, y6, y7⟩⟩ = true) ∨ ((xi == p1) = true ∧ K = true ∧ ¬n < 1 ∧ wantsB ⟨a1, a2, a3, a4, a5, a6, a7⟩ p1 ⟨xi, ⟨y1, y2, y3, y4, y5, y6, y7⟩⟩ = false) := by
        rcases hwc with h | h | ⟨h1, h2, h3, h4⟩ | ⟨h1, h2, h3, h4⟩
        · exact .inl h
        · exact .inr (.inl h)
        · exact .inr (.inr (.inl ⟨h1, h2, by omega, h4⟩))
        · exact .inr (.inr (.inr ⟨h1, h2, by omega, h4⟩))
      rcases hwc with ⟨t1, hw⟩ | ⟨t1, rfl, hw⟩ | ⟨t1, rfl, t2, hw⟩ | ⟨t1, rfl, t2, hw⟩
      all_goals
        have Hw := Lib.hid hw
        clear hw
        go_wp2_with fail
        clear x0 x1 x2 x3 x4 x5 x6 x7
        refine wp_region_quiet_below (by kernel_rfl) (by kernel_rfl) ?_
        repeat (go_big_quiet_step (first | exact CK.out _ _ _ _ _ _ _ _ _ | exact CN.out _ _))
        refine wpQuiet_nil ?_
        rintro w7 ⟨⟨dq, osq⟩, rfl⟩
        have hb7 := below_regrown wr dq osq
        have Hend := Lib.hid (And.intro (Hin.out.1.below hb7 Hin.out.1.lt) (And.intro (Hin.out.2.1.below hb7 Hin.out.2.1.lt) (Hin.out.2.2.trans (hb7.mono Hin.out.2.2.size))))
        clear hb7
        generalize grow (redrawn wr dq) osq = w7 at *
        clear a_0 a_1 a_2 a_3 a_4 a_5 a_6 b_0 b_1 b_2 b_3 b_4 b_5 b_6 b_7 p_0 hE
        go_wp2_with fail
        first
          | (go_ret
             exact ⟨by rw [← Hv.out, Hpt.out Hw.out]; rfl, Hend.out.2.2⟩)
          | (go_roundw
             case measure => simp [intOf]; omega
             case rel => exact ⟨k + 1, hlt, by go_num, by rw [Hps.out, Hno.out, Hw.out]; rfl, Hend.out.1, Hend.out.2.1, Hend.out.2.2⟩)
    · have : k = l.length := by omega
      subst this
      rw [List.take_length, Hv.out] at hno
      subst hno
      have Hb := Lib.hid hb
      clear hA hP hb
      go_wp2
      go_ret
      exact ⟨rfl, Hb.out⟩

end Go.Proofs.Ytahgjfecffcknaa
