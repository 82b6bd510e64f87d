/-
  Layer 21: which one is looked at next: the program's way.
-/
import Derived.Test.YtpfjgecdlilkcaaSpStep
namespace Go.Proofs.Ytpfjgecdlilkcaa
open Go.RowKit Go.Sort Go.Proofs

def aheadI (a b : Vx) (x y : Nat) : Int := orL [cmpI x y, cmpI b.kind a.kind, cmpI a.id b.id]
theorem ahead_le {a b : Vx} {x y : Nat} : aheadI a b x y < 0 ↔ x < y ∨ (x = y ∧ (b.kind < a.kind ∨ (b.kind = a.kind ∧ a.id < b.id))) := by
  unfold aheadI
  rcases cmpI_cases x y with ⟨h, e⟩ | ⟨h, h', e⟩ | ⟨h, h', e⟩ <;> rw [e] <;> rcases cmpI_cases b.kind a.kind with ⟨g, e2⟩ | ⟨g, g', e2⟩ | ⟨g, g', e2⟩ <;> rw [e2] <;> rcases cmpI_cases a.id b.id with ⟨k, e3⟩ | ⟨k, k', e3⟩ | ⟨k, k', e3⟩ <;> rw [e3] <;> simp [orL] <;> omega
theorem cmpF_q (x y : Nat) (hx : x < 2 ^ 53) (hy : y < 2 ^ 53) (W : World) (n : Nat) : Calls Try.prog 95 #[.float .f64 (flt x), .float .f64 (flt y)] (W.drewN n) fun r w' => r = .returned (.int .i64 (cmpI x y)) ∧ ∃ q, w' = W.drewN q :=
  (cmpF_s x y hx hy _).mono fun _ _ ⟨h1, h2⟩ => ⟨h1, n, h2.symm⟩
set_option maxHeartbeats 4000000 in
set_option maxRecDepth 100000 in
theorem ahead_any (a1 a2 b1 b2 : Int) (x xh y yh : Nat) (hx : x < 2 ^ 53) (hy : y < 2 ^ 53) (w : World) : Calls Try.prog 73 #[.agg #[.int .i64 a1, .int .i64 a2], .agg #[.int .i64 b1, .int .i64 b2], .complex .f64 (flt x) xh, .complex .f64 (flt y) yh] w fun r w' => r = .returned (.bool (decide (aheadI ⟨a1, a2⟩ ⟨b1, b2⟩ x y < 0))) ∧ Below w.heap.size w w' := by
  obtain ⟨w0, hW0⟩ : ∃ w0, (w.alloc (.cells #[.int .i64 a1, .int .i64 a2] 40)).alloc (.cells #[.int .i64 b1, .int .i64 b2] 40) = w0 := ⟨_, rfl⟩
  have hA : Blk w0 w.heap.size 40 #[.int .i64 a1, .int .i64 a2] := by rw [← hW0]; exact (Blk.new w _ _).alloc _
  have hB : Blk w0 (w.heap.size + 1) 40 #[.int .i64 b1, .int .i64 b2] := by rw [← hW0]; exact Blk.size (by simp)
  have Hg : Hid (Below w.heap.size w w0) := Lib.hid (by rw [← hW0]; exact ((Below.refl _ _).alloc (Nat.le_refl _) _).alloc (by simp) _)
  obtain ⟨a_0, a_1⟩ : _ ∧ _ := ⟨hA.cell 0, hA.cell 1⟩
  obtain ⟨b_0, b_1⟩ : _ ∧ _ := ⟨hB.cell 0, hB.cell 1⟩
  simp only [List.getElem?_toArray, List.getElem?_cons_zero, List.getElem?_cons_succ] at a_0 a_1 b_0 b_1
  have HC := Lib.hid (fun W n => cmpF_q x y hx hy W n)
  clear hA hB hx hy
  go_enter Try.func73, Try.ntmps73
  go_wp2_with fail
  refine wp_drew_tail 15 (by kernel_rfl) (by kernel_rfl) ?_
  simp only [List.take_succ_cons, List.take_zero, List.drop_succ_cons, List.drop_zero]
  repeat (go_big_quiet_step (first | exact HC.out _ _ | exact cmp_q _ _ _ _))
  refine wpQuiet_nil ?_
  rintro w3 ⟨dq, rfl⟩
  go_wp2_with (go_at_call 39; (with_reducible refine Calls.mono (or3_s _ _ _ _) ?_); rintro r w4 ⟨rfl, rfl⟩)
  go_ret
  exact ⟨rfl, below_trans (below_drewN Hg.out _) (below_drewN Hg.out _).size (below_new _ _)⟩

theorem valsF_split {R : Fnd} {pre post : List (Vx × Value)} {e : Vx × Value} (h : valsF R = pre ++ e :: post) : ∃ P v x Q, R = P ++ (v, x) :: Q ∧ pre = valsF P ∧ post = valsF Q ∧ e = (v, x.val) := by
  unfold valsF at h
  obtain ⟨P, q, rfl, h1, h2⟩ := List.map_eq_append_iff.1 h
  obtain ⟨⟨v, x⟩, Q, rfl, h3, h4⟩ := List.map_eq_cons_iff.1 h2
  exact ⟨P, v, x, Q, rfl, h1.symm, h4.symm, h3.symm⟩
theorem valsF_append (P Q : Fnd) : valsF P ++ valsF Q = valsF (P ++ Q) := by simp [valsF]
/-- the best of what was seen -/
def BestOf (D : Fnd) : Option (Vx × PlW) → Prop
  | none => ∀ e ∈ D, e.2.done = true
  | some b => b ∈ D ∧ b.2.done = false ∧ ∀ e ∈ D, e.2.done = false → rankV b.1 b.2.pl.a ≤ rankV e.1 e.2.pl.a
theorem BestOf.done {D : Fnd} {b : Option (Vx × PlW)} {v : Vx} {x : PlW} (h : BestOf D b) (hd : x.done = true) : BestOf (D ++ [(v, x)]) b := by
  cases b with
  | none =>
    intro e he
    rcases List.mem_append.1 he with he | he
    · exact h e he
    · rw [List.mem_singleton] at he; rw [he]; exact hd
  | some b =>
    obtain ⟨h1, h2, h3⟩ := h
    refine ⟨List.mem_append_left _ h1, h2, fun e he hed => ?_⟩
    rcases List.mem_append.1 he with he | he
    · exact h3 e he hed
    · rw [List.mem_singleton] at he; rw [he] at hed; rw [hd] at hed; cases hed
theorem BestOf.first {D : Fnd} {v : Vx} {x : PlW} (h : BestOf D none) (hd : x.done = false) : BestOf (D ++ [(v, x)]) (some (v, x)) := by
  refine ⟨by simp, hd, fun e he hed => ?_⟩
  rcases List.mem_append.1 he with he | he
  · rw [h e he] at hed; cases hed
  · rw [List.mem_singleton] at he; rw [he]; exact Nat.le_refl _
theorem rank_ahead {a b : Vx} {x y : Val2} (ha : a.kind = 1 ∨ a.kind = 2) (hb : b.kind = 1 ∨ b.kind = 2) : (aheadI a b x.c y.c < 0 → rankV a x ≤ rankV b y) ∧ (¬ aheadI a b x.c y.c < 0 → rankV b y ≤ rankV a x) := by
  rw [ahead_le]
  unfold rankV
  constructor
  · intro h
    split <;> split <;> omega
  · intro h
    split <;> split <;> omega
theorem BestOf.ahead {D : Fnd} {v : Vx} {x : PlW} {b : Vx × PlW} (h : BestOf D (some b)) (hd : x.done = false) (hr : rankV v x.pl.a ≤ rankV b.1 b.2.pl.a) : BestOf (D ++ [(v, x)]) (some (v, x)) := by
  obtain ⟨h1, h2, h3⟩ := h
  refine ⟨by simp, hd, fun e he hed => ?_⟩
  rcases List.mem_append.1 he with he | he
  · exact Nat.le_trans hr (h3 e he hed)
  · rw [List.mem_singleton] at he; rw [he]; exact Nat.le_refl _
theorem BestOf.behind {D : Fnd} {v : Vx} {x : PlW} {b : Vx × PlW} (h : BestOf D (some b)) (hr : rankV b.1 b.2.pl.a ≤ rankV v x.pl.a) : BestOf (D ++ [(v, x)]) (some b) := by
  obtain ⟨h1, h2, h3⟩ := h
  refine ⟨List.mem_append_left _ h1, h2, fun e he hed => ?_⟩
  rcases List.mem_append.1 he with he | he
  · exact h3 e he hed
  · rw [List.mem_singleton] at he; rw [he]; exact hr
theorem BestOf.perm {D D' : Fnd} {b : Option (Vx × PlW)} (h : BestOf D b) (hp : D.Perm D') : BestOf D' b := by
  cases b with
  | none => exact fun e he => h e (hp.mem_iff.2 he)
  | some b => exact ⟨hp.mem_iff.1 h.1, h.2.1, fun e he => h.2.2 e (hp.mem_iff.2 he)⟩
/-- the vertex of it; nothing: of no kind -/
def bestV : Option (Vx × PlW) → Vx
  | none => ⟨0, 0⟩
  | some b => b.1
theorem Blk.put2 {w : World} {g : Nat} {t : TypeId} {a b : Value} (h : Blk w g t #[a, b]) (a' b' : Value) : Blk ((w.setCell ⟨g, 0, none⟩ a').setCell ⟨g, 1, none⟩ b') g t #[a', b'] := ((h.set_ 0 a').set_ 1 b').to (by simp)
/-- what lies in memory while it is gone over -/
structure NearSt (w wr : World) (bf g2 g4 ri : Nat) (F D R : Fnd) (b : Option (Vx × PlW)) : Prop where
  rng : RangeAt Vx.enc wr bf ri (valsF F) (valsF R)
  perm : (D ++ R).Perm F
  best : BestOf D b
  res : Blk wr g2 40 #[.int .i64 0, .int .i64 0]
  cur : Blk wr g4 40 #[.int .i64 (bestV b).kind, .int .i64 (bestV b).id]
  bel : Below w.heap.size w wr
set_option maxHeartbeats 8000000 in
set_option maxRecDepth 100000 in
theorem nearest_any (ri0 : Int) (ps be bf : Nat) (F : Fnd) (B : Nat) (w : World) (hk : Blk w ps 102 #[.int .i64 1, .int .i64 ri0, .map (some be), .map (some bf)]) (hF : FndAt w B bf F) (hm : ∀ e ∈ F, mayV e.1 = true) (hsm : ∀ e ∈ F, e.2.pl.a.c ≤ 100000) :
    Calls Try.prog 52 #[.pointer (some ⟨ps, 0, none⟩)] w fun r w' => (∃ b, r = .returned (.tuple #[.agg #[.int .i64 (bestV b).kind, .int .i64 (bestV b).id], .bool b.isSome]) ∧ BestOf F b) ∧ Below w.heap.size w w' := by
  obtain ⟨w2, hw2⟩ : ∃ w2, (w.alloc (.cells #[.int .i64 0, .int .i64 0] 40)).alloc (.cells #[.int .i64 0, .int .i64 0] 40) = w2 := ⟨_, rfl⟩
  have hb2 : Below w.heap.size w w2 := by rw [← hw2]; exact ((Below.refl _ _).alloc (Nat.le_refl _) _).alloc (by simp) _
  have hk2 : Blk w2 w.heap.size 40 #[.int .i64 0, .int .i64 0] := by rw [← hw2]; exact (Blk.new w _ _).alloc _
  have hk4 : Blk w2 (w.heap.size + 1) 40 #[.int .i64 0, .int .i64 0] := by rw [← hw2]; exact Blk.size (by simp)
  have hs2 : w2.heap.size = w.heap.size + 2 := by rw [← hw2]; simp
  have HKs := Lib.hid hk
  have HF := Lib.hid hF
  have Hm := Lib.hid hm
  have Hsm := Lib.hid hsm
  have Hb2 := Lib.hid hb2
  have Hk2 := Lib.hid hk2
  have Hk4 := Lib.hid hk4
  have Hs2 := Lib.hid hs2
  have HM2 := Lib.hid (hF.below hb2).map
  obtain ⟨s0, s1, s2, s3, -⟩ := (hk.below hb2 hk.lt).cells4
  clear hk hF hm hsm hb2 hk2 hk4 hs2
  go_enter Try.func52, Try.ntmps52
  go_wp2_with (at_range; refine wpList_range_st _ rfl _ 100 rfl 40 104 Try.underlying100 rfl HM2.out ?_; intro w3 hr3 hb3 hs3; have HR3 := Lib.hid hr3; have Hb3 := Lib.hid hb3; clear hr3 hb3 hs3)
  have HS0 := Lib.hid (show NearSt w w3 bf w.heap.size (w.heap.size + 1) w2.heap.size F [] F none from ⟨HR3.out, by rw [List.nil_append], fun e he => (by cases he), Hk2.out.below Hb3.out Hk2.out.lt, Hk4.out.below Hb3.out Hk4.out.lt, below_trans Hb2.out Hb2.out.size Hb3.out⟩)
  clear s0 s1 s2 s3 hw2
  go_frame
  go_loopw [5] (fun is wr => ∃ D R b, is = .bool b.isSome ∧ NearSt w wr bf w.heap.size (w.heap.size + 1) w2.heap.size F D R b) (fun _ wr => wr.rangeLeft bf w2.heap.size)
  case atStart => exact ⟨[], F, none, rfl, HS0.out⟩
  case round =>
    obtain ⟨D, R, b, rfl, hst⟩ := hrel
    have HSt := Lib.hid hst
    clear hst HS0
    go_wp2_with (at_next; refine wpList_next_st _ rfl _ rfl keyVx.inj rfl HSt.out.rng ?_ ?_)
    · intro h0
      have hR0 : R = [] := by simpa [valsF] using h0
      subst hR0
      clear h0
      have hB := HSt.out.best.perm (D' := F) (by simpa using HSt.out.perm)
      have HB := Lib.hid hB
      obtain ⟨⟨bk, bi⟩, hbv⟩ : ∃ v, bestV b = v := ⟨_, rfl⟩
      have hc4 := HSt.out.cur
      rw [hbv] at hc4
      obtain ⟨c0, c1, -, -⟩ := hc4.cells2
      obtain ⟨r0, r1, rf0, rf1⟩ := HSt.out.res.cells2
      have Hbv := Lib.hid hbv
      simp only at c0 c1
      clear hB hc4 hbv
      go_wp2
      refine bodyPost_named (v := .tuple #[.agg #[.int .i64 bk, .int .i64 bi], .bool b.isSome]) (fun W => Blk W w.heap.size 40 #[.int .i64 bk, .int .i64 bi]) (Blk.put2 HSt.out.res (.int .i64 bk) (.int .i64 bi)) (fun W hB => by
        obtain ⟨e0, e1, -, -⟩ := hB.cells2
        simp [results, Try.results52, go_sem, e0, e1]) rfl ?_
      refine ⟨⟨b, by rw [Hbv.out], HB.out⟩, (HSt.out.bel.setCell (p := ⟨w.heap.size, 0, none⟩) (Nat.le_refl _) _).setCell (p := ⟨w.heap.size, 1, none⟩) (Nat.le_refl _) _⟩
    · intro pre e ev post w5 hsplit hrg5 hg5 hs5 hen
      obtain ⟨P, ⟨vk, vi⟩, x, Q, hR, rfl, rfl, he⟩ := valsF_split hsplit
      injection he with he1 he2
      subst he1 he2
      rw [valsF_append] at hrg5
      have hmeas : (valsF (P ++ Q)).length < (valsF R).length := by rw [hR]; simp [valsF]
      have hperm2 : (D ++ [((⟨vk, vi⟩ : Vx), x)] ++ (P ++ Q)).Perm F := by
        refine List.Perm.trans ?_ HSt.out.perm
        rw [hR, List.append_assoc]
        refine List.Perm.append_left D ?_
        rw [List.singleton_append]
        exact List.perm_middle.symm
      have hxF : ((⟨vk, vi⟩ : Vx), x) ∈ F := hperm2.mem_iff.1 (by simp)
      have hb5 : Below w.heap.size w w5 := HSt.out.bel.grown hg5 HSt.out.bel.size (fun m e => by injection e with e; have := Hb2.out.size; omega)
      have hlr : w2.heap.size < wr.heap.size := HSt.out.rng.lt
      have hr5 := HSt.out.res.grown hg5 (fun e => by injection e with e; have := Hs2.out; omega)
      have hc5 := HSt.out.cur.grown hg5 (fun e => by injection e with e; have := Hs2.out; omega)
      have hx5 := (HF.out.below hb5).blk _ hxF
      have Hxm := Lib.hid (Hm.out _ hxF)
      have Hxs := Lib.hid (Hsm.out _ hxF)
      have Hmeas := Lib.hid hmeas
      have Hperm2 := Lib.hid hperm2
      have HBst := Lib.hid HSt.out.best
      have hbF : ∀ e, b = some e → getF e.1 F = some e.2 ∧ e ∈ F := by
        intro e he
        subst he
        have h1 := HSt.out.best.1
        have h2 : e ∈ F := hperm2.mem_iff.1 (List.mem_append_left _ (List.mem_append_left _ h1))
        exact ⟨getF_of_mem HF.out.keys h2, h2⟩
      have HbF := Lib.hid hbF
      obtain ⟨p, A, c, ⟨⟨ac, ah⟩, pn⟩, pd⟩ := x
      unfold PlW.cells at hx5
      simp only at hx5
      unfold Vx.enc PlW.val at hen
      simp only at hen
      obtain ⟨w6, hw6⟩ : ∃ w6, w5.alloc (.cells #[.int .i64 vk, .int .i64 vi] 40) = w6 := ⟨_, rfl⟩
      have hk6 := Blk.new w5 40 #[.int .i64 vk, .int .i64 vi]
      have hb6 := below_new w5 (.cells #[.int .i64 vk, .int .i64 vi] 40)
      rw [hw6] at hk6 hb6
      have HR6 := Lib.hid (hrg5.below hb6 hrg5.map.lt hrg5.lt)
      have HB6 := Lib.hid (below_trans hb5 hb5.size hb6)
      have Hr6 := Lib.hid (hr5.below hb6 hr5.lt)
      have Hc6 := Lib.hid (hc5.below hb6 hc5.lt)
      have Hx6 := Lib.hid (hx5.1.below hb6 hx5.1.lt)
      have Hk6 := Lib.hid hk6
      obtain ⟨k0, k1, -, -⟩ := hk6.cells2
      obtain ⟨x0, x1, x2⟩ := blk3 Hx6.out
      have hkeep : ∀ b', BestOf (D ++ [((⟨vk, vi⟩ : Vx), (⟨p, A, c, ⟨⟨ac, ah⟩, pn⟩, pd⟩ : PlW))]) b' → bestV b' = bestV b → ∀ W, Below w6.heap.size w6 W → NearSt w W bf w.heap.size (w.heap.size + 1) w2.heap.size F (D ++ [((⟨vk, vi⟩ : Vx), (⟨p, A, c, ⟨⟨ac, ah⟩, pn⟩, pd⟩ : PlW))]) (P ++ Q) b' := by
        intro b' h1 h2 W hW
        exact ⟨HR6.out.below hW HR6.out.map.lt HR6.out.lt, Hperm2.out, h1, Hr6.out.below hW Hr6.out.lt, by rw [h2]; exact Hc6.out.below hW Hc6.out.lt, below_trans HB6.out HB6.out.size hW⟩
      have Hkeep := Lib.hid hkeep
      clear hsplit hrg5 hg5 hs5 hR hmeas hperm2 hxF hb5 hlr hr5 hc5 hx5 hbF hk6 hb6 hkeep
      cases pd with
      | true =>
        have HN := Lib.hid (Hkeep.out b (HBst.out.done rfl) rfl)
        go_wp2
        go_quiet (fail)
        go_wp2
        go_roundw
        case measure => rw [(HN.out _ (below_drewN (Below.refl _ _) _)).rng.left_eq, HSt.out.rng.left_eq]; exact Hmeas.out
        case rel => exact ⟨_, _, b, rfl, HN.out _ (below_drewN (Below.refl _ _) _)⟩
      | false =>
        have hput : ∀ b', b' = ((⟨vk, vi⟩ : Vx), (⟨p, A, c, ⟨⟨ac, ah⟩, pn⟩, false⟩ : PlW)) → BestOf (D ++ [((⟨vk, vi⟩ : Vx), (⟨p, A, c, ⟨⟨ac, ah⟩, pn⟩, false⟩ : PlW))]) (some b') → ∀ W, Below w6.heap.size w6 W → NearSt w ((W.setCell ⟨w.heap.size + 1, 0, none⟩ (.int .i64 vk)).setCell ⟨w.heap.size + 1, 1, none⟩ (.int .i64 vi)) bf w.heap.size (w.heap.size + 1) w2.heap.size F (D ++ [((⟨vk, vi⟩ : Vx), (⟨p, A, c, ⟨⟨ac, ah⟩, pn⟩, false⟩ : PlW))]) (P ++ Q) (some b') := by
          intro b' hb' h1 W hW
          have hr := HR6.out.below hW HR6.out.map.lt HR6.out.lt
          have hlt := HF.out.map.lt
          have e1 : bf ≠ w.heap.size + 1 := by omega
          have e2 : w2.heap.size ≠ w.heap.size + 1 := by have := Hs2.out; omega
          have hg1 := grown_setC W (w.heap.size + 1) 0 (.int .i64 vk)
          have hg2 := grown_setC (W.setCell ⟨w.heap.size + 1, 0, none⟩ (.int .i64 vk)) (w.heap.size + 1) 1 (.int .i64 vi)
          refine ⟨(hr.grown hg1 (fun e => e1 (by injection e)) (fun e => e2 (by injection e))).grown hg2 (fun e => e1 (by injection e)) (fun e => e2 (by injection e)), Hperm2.out, h1, ?_, ?_, ?_⟩
          · have h := Hr6.out.below hW Hr6.out.lt
            exact (h.far (p := ⟨w.heap.size + 1, 0, none⟩) (by simp only; omega) _).far (p := ⟨w.heap.size + 1, 1, none⟩) (by simp only; omega) _
          · subst hb'
            exact Blk.put2 (Hc6.out.below hW Hc6.out.lt) _ _
          · exact ((below_trans HB6.out HB6.out.size hW).setCell (p := ⟨w.heap.size + 1, 0, none⟩) (by simp only; omega) _).setCell (p := ⟨w.heap.size + 1, 1, none⟩) (by simp only; omega) _
        have Hput := Lib.hid hput
        clear hput
        cases b with
        | none =>
          have HN := Lib.hid (Hput.out _ rfl (HBst.out.first rfl))
          have hc6 := Hc6.out
          unfold bestV at hc6
          simp only at hc6
          obtain ⟨c0, c1, cf0, cf1⟩ := hc6.cells2
          clear hc6
          go_wp2
          go_quiet (fail)
          go_wp2
          go_roundw
          case measure => rw [(HN.out _ (below_drewN (Below.refl _ _) _)).rng.left_eq, HSt.out.rng.left_eq]; exact Hmeas.out
          case rel => exact ⟨_, _, _, rfl, HN.out _ (below_drewN (Below.refl _ _) _)⟩
        | some b =>
          obtain ⟨⟨bk, bi⟩, ⟨bp, bA, bcc, ⟨⟨bc, bh⟩, bn⟩, bd⟩⟩ := b
          have hc6 := Hc6.out
          unfold bestV at hc6
          simp only at hc6
          obtain ⟨c0, c1, cf0, cf1⟩ := hc6.cells2
          obtain ⟨hgb, hbm⟩ := HbF.out _ rfl
          simp only at hgb
          have hF6 := HF.out.below HB6.out
          have hbb := (hF6.get hgb).1
          unfold PlW.cells at hbb
          simp only at hbb
          obtain ⟨d0, d1, d2⟩ := blk3 hbb
          obtain ⟨s0, s1, s2, s3, -⟩ := (HKs.out.below HB6.out HKs.out.lt).cells4
          have hlk := fun n => (hF6.map.drewN n).look_run keyVx Try.underlying100 (zeroPl _) ⟨bk, bi⟩ false
          rw [show getL (⟨bk, bi⟩ : Vx) (valsF F) = some (.pointer (some ⟨bp, 0, none⟩)) by rw [getL_vals, hgb]; rfl] at hlk
          simp only [Bool.false_eq_true, if_false, Vx.enc, Option.getD] at hlk
          have hbms := Hsm.out _ hbm
          simp only at hbms
          have hxs := Hxs.out
          simp only at hxs
          have HA := Lib.hid (fun W => ahead_any vk vi bk bi ac (flt ah) bc (flt bh) (by omega) (by omega) W)
          have hkd : ∀ v, mayV v = true → v.kind = 1 ∨ v.kind = 2 := fun v h => by
            rcases mayV_iff.1 h with ⟨g, -⟩ | ⟨g, -⟩
            · exact .inl g
            · exact .inr g
          have Hrank := Lib.hid (rank_ahead (a := ⟨vk, vi⟩) (b := ⟨bk, bi⟩) (x := ⟨ac, ah⟩) (y := ⟨bc, bh⟩) (hkd _ Hxm.out) (hkd _ (Hm.out _ hbm)))
          clear hc6 hgb hbm hF6 hbb hbms hxs hkd
          go_wp2_with fail
          refine wp_drew_tail 24 (by kernel_rfl) (by kernel_rfl) ?_
          simp only [List.take_succ_cons, List.take_zero, List.drop_succ_cons, List.drop_zero]
          repeat (go_big_quiet_step (fail))
          refine wpQuiet_nil ?_
          rintro w7 ⟨dq, rfl⟩
          clear s0 s1 s2 s3 d0 d1 d2 x0 x1 x2 k0 k1 hlk c0 c1 cf0 cf1
          go_wp2_with fail
          with_reducible refine Calls.mono (HA.out _) ?_
          rintro r w8 ⟨rfl, hb8⟩
          have hb68 : Below w6.heap.size w6 w8 := (below_drewN (Below.refl _ _) dq).trans hb8
          have Hb68 := Lib.hid hb68
          have hk8 := Hk6.out.below hb68 Hk6.out.lt
          obtain ⟨k0, k1, -, -⟩ := hk8.cells2
          have hc8 := Hc6.out.below hb68 Hc6.out.lt
          unfold bestV at hc8
          simp only at hc8
          obtain ⟨c0, c1, cf0, cf1⟩ := hc8.cells2
          clear hb8 hb68 hk8 hc8
          by_cases hah : aheadI ⟨vk, vi⟩ ⟨bk, bi⟩ ac bc < 0
          · have HN := Lib.hid (Hput.out _ rfl (HBst.out.ahead rfl (Hrank.out.1 hah)))
            have hd : decide (aheadI ⟨vk, vi⟩ ⟨bk, bi⟩ ac bc < 0) = true := decide_eq_true hah
            clear hah
            go_wp2
            go_roundw
            case measure => rw [(HN.out _ Hb68.out).rng.left_eq, HSt.out.rng.left_eq]; exact Hmeas.out
            case rel => exact ⟨_, _, _, rfl, HN.out _ Hb68.out⟩
          · have HN := Lib.hid (Hkeep.out _ (HBst.out.behind (Hrank.out.2 (by omega))) rfl)
            have hd : decide (aheadI ⟨vk, vi⟩ ⟨bk, bi⟩ ac bc < 0) = false := decide_eq_false hah
            clear hah
            go_wp2
            go_roundw
            case measure => rw [(HN.out _ Hb68.out).rng.left_eq, HSt.out.rng.left_eq]; exact Hmeas.out
            case rel => exact ⟨_, _, _, rfl, HN.out _ Hb68.out⟩

end Go.Proofs.Ytpfjgecdlilkcaa
