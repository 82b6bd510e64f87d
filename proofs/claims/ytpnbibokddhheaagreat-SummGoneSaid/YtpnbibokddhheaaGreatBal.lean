/-
  Layer 13: the heads that are told: the document's way.
-/
import Derived.Lib.QuietBelow
import Derived.Test.YtpnbibokddhheaaGreatBab
import Derived.Test.YtpnbibokddhheaaGreatBac
import Derived.Test.YtpnbibokddhheaaGreatBag
import Derived.Test.YtpnbibokddhheaaGreatBaj
import Derived.Test.YtpnbibokddhheaaGreatBak
namespace Go.Proofs.YtpnbibokddhheaaGreat
open Go.RowKit Go.Sort

/-- one that sinks to its place: Z with x put in at k -/
structure SinkAt (W : World) (B : Nat) (v : Value) (L : List Hd) (x : Hd) (k : Nat) : Prop where
  ex : ∃ Z1 Z2, stbS L = Z1 ++ Z2 ∧ Z1.length = k ∧ (∀ z ∈ Z2, ltS x z = true) ∧ OwnR 27 7 Hd.cells W B v (Z1 ++ x :: Z2)
theorem SinkAt.start {W : World} {B : Nat} {v : Value} {L : List Hd} {x : Hd} (h : OwnR 27 7 Hd.cells W B v (stbS L ++ [x])) : SinkAt W B v L x L.length :=
  ⟨stbS L, [], by simp, stbS_len L, by simp, h⟩
theorem SinkAt.done {W : World} {B : Nat} {v : Value} {L : List Hd} {x : Hd} {k : Nat} (h : SinkAt W B v L x k) (hk : k = 0 ∨ ∃ z, (stbS L)[k - 1]? = some z ∧ ltS x z = false) : OwnR 27 7 Hd.cells W B v (stbS (L ++ [x])) := by
  obtain ⟨Z1, Z2, e, hl, h1, ho⟩ := h.ex
  rw [← stbS_more L x e h1 ?_]
  · exact ho
  · rcases hk with hk | ⟨z, hz, hl2⟩
    · exact .inl (List.eq_nil_of_length_eq_zero (by omega))
    · rcases List.eq_nil_or_concat Z1 with h0 | ⟨Y, y, h0⟩
      · exact .inl h0
      · right
        rw [List.concat_eq_append] at h0
        subst h0
        refine ⟨Y, y, rfl, ?_⟩
        rw [e] at hz
        have : ((Y ++ [y]) ++ Z2)[k - 1]? = some y := by
          rw [List.append_assoc, List.getElem?_append_right (by simp at hl; omega)]
          simp at hl
          rw [show k - 1 - Y.length = 0 by omega]
          rfl
        rw [this] at hz
        cases hz
        exact hl2
theorem sink_cut {L : List Hd} {Z1 Z2 : List Hd} {k : Nat} (e : stbS L = Z1 ++ Z2) (hl : Z1.length = k) (h0 : 0 < k) : ∃ Y z, Z1 = Y ++ [z] ∧ Y.length + 1 = k ∧ (stbS L)[k - 1]? = some z := by
  rcases List.eq_nil_or_concat Z1 with h1 | ⟨Y, y, h1⟩
  · subst h1; simp at hl; omega
  · rw [List.concat_eq_append] at h1
    subst h1
    simp at hl
    refine ⟨Y, y, rfl, by omega, ?_⟩
    rw [e, List.append_assoc, List.getElem?_append_right (by omega), show k - 1 - Y.length = 0 by omega]
    rfl
theorem own_at7 {W : World} {B g c : Nat} {n : Nat} {A C : List Hd} {x : Hd} (h : OwnR 27 7 Hd.cells W B (.slice (some ⟨g, 0, none⟩) n c) (A ++ x :: C)) (k : Nat) (hk : k = A.length) :
    W.cell? ⟨g, k * 7, none⟩ = some (.int .i64 x.age) ∧ W.cell? ⟨g, k * 7 + 1, none⟩ = some (.int .i64 x.kind) ∧ W.cell? ⟨g, k * 7 + 2, none⟩ = some (.int .i64 x.id) ∧ W.cell? ⟨g, k * 7 + 3, none⟩ = some (.int .i64 x.adv) ∧ W.cell? ⟨g, k * 7 + 4, none⟩ = some (.int .i64 x.seq) ∧ W.cell? ⟨g, k * 7 + 5, none⟩ = some (.int .i64 x.sum) ∧ W.cell? ⟨g, k * 7 + 6, none⟩ = some (.int .i64 x.long) := by
  subst hk
  have hl : A.length < (A ++ x :: C).length := by simp
  obtain ⟨g', c', hv, z0, z1, z2, z3, z4, z5, z6⟩ := row_own7 h A.length hl
  injection hv with e
  injection e with e
  injection e with e
  subst e
  have hx : (A ++ x :: C)[A.length] = x := by simp
  rw [hx] at z0 z1 z2 z3 z4 z5 z6
  exact ⟨z0, z1, z2, z3, z4, z5, z6⟩
/-- two neighbors of a row of one's own change places, by a box between -/
theorem own_swap {W : World} {B g c : Nat} {n : Nat} {A C : List Hd} {x z : Hd} (h : OwnR 27 7 Hd.cells W B (.slice (some ⟨g, 0, none⟩) n c) (A ++ z :: x :: C)) (j k : Nat) (hj : j = A.length) (hk : k = A.length + 1) (W5 : World)
    (h5 : ((((((W.setCell ⟨g, k * 7, none⟩ (.int .i64 z.age)).setCell ⟨g, k * 7 + 1, none⟩ (.int .i64 z.kind)).setCell ⟨g, k * 7 + 2, none⟩ (.int .i64 z.id)).setCell ⟨g, k * 7 + 3, none⟩ (.int .i64 z.adv)).setCell ⟨g, k * 7 + 4, none⟩ (.int .i64 z.seq)).setCell ⟨g, k * 7 + 5, none⟩ (.int .i64 z.sum)).setCell ⟨g, k * 7 + 6, none⟩ (.int .i64 z.long) = W5) :
    OwnR 27 7 Hd.cells W5 B (.slice (some ⟨g, 0, none⟩) n c) (A ++ z :: z :: C) ∧
    OwnR 27 7 Hd.cells (((((((W5.setCell ⟨g, j * 7, none⟩ (.int .i64 x.age)).setCell ⟨g, j * 7 + 1, none⟩ (.int .i64 x.kind)).setCell ⟨g, j * 7 + 2, none⟩ (.int .i64 x.id)).setCell ⟨g, j * 7 + 3, none⟩ (.int .i64 x.adv)).setCell ⟨g, j * 7 + 4, none⟩ (.int .i64 x.seq)).setCell ⟨g, j * 7 + 5, none⟩ (.int .i64 x.sum)).setCell ⟨g, j * 7 + 6, none⟩ (.int .i64 x.long)) B (.slice (some ⟨g, 0, none⟩) n c) (A ++ x :: z :: C) := by
  subst hj hk
  have hn : n = (A ++ z :: x :: C).length := (OwnR.rows (C := 7) (cells := Hd.cells) (fun _ => rfl) h).1
  have h1 := OwnH13.set7 h hn (A.length + 1) (by simp) z
  rw [h5] at h1
  have e1 : (A ++ z :: x :: C).set (A.length + 1) z = A ++ z :: z :: C := by
    rw [List.set_append_right _ _ (by omega), show A.length + 1 - A.length = 1 by omega]
    rfl
  rw [e1] at h1
  have h2 := OwnH13.set7 h1 (by rw [hn]; simp) A.length (by simp) x
  have e2 : (A ++ z :: z :: C).set A.length x = A ++ x :: z :: C := by
    rw [List.set_append_right _ _ (by omega), Nat.sub_self]
    rfl
  rw [e2] at h2
  exact ⟨h1, h2⟩

theorem own_snoc {W : World} {B : Nat} {v : Value} {L : List Hd} {x : Hd} {n : Nat} (h : OwnR 27 7 Hd.cells W B v (L ++ [x])) (hn : L.length = n) : ∃ g c, v = .slice (some ⟨g, 0, none⟩) (n + 1) c := by
  rcases h.shape2 with ⟨-, h0⟩ | ⟨g, c, rfl, -⟩
  · simp at h0
  · exact ⟨g, c, by rw [List.length_append, hn]; rfl⟩
theorem stb_len2 {H : List Hd} {x : Hd} {n m : Nat} (h : (stbS H).length = n) (hm : n + 1 = m) : (stbS (H ++ [x])).length = m := by
  rw [stbS_len] at h ⊢
  simp
  omega
set_option maxHeartbeats 8000000 in
set_option maxRecDepth 100000 in
theorem refHeads_any (A : Option Addr) (c : Nat) (l : List Lsa) (w : World) (B : Nat) (h : RowsAt 9 Lsa.cells w B A l) (hB : B ≤ w.heap.size) (hm : l.length ≤ 2 ^ 19) (nn : Nat) (hnn : nn = l.length) :
    Calls Tryz.prog 17 #[.slice A nn c] w fun r w' => (∃ v, r = .returned v ∧ OwnR 27 7 Hd.cells w' w.heap.size v (stbS (headsOf l))) ∧ Below w.heap.size w w' := by
  subst hnn
  have HL := Lib.hid h
  have hm' : (l.length : Int) ≤ 524288 := by omega
  have CK := Lib.hid (fun w0 a b c d e f g dd os => Calls.regrown_of (w := w0) (d := dd) (os := os) (key_any a b c d e f g _))
  have CL := Lib.hid (fun w0 a1 a2 a3 b1 b2 b3 z hz dd os => Calls.regrown_of (w := w0) (d := dd) (os := os) (Less07 a1 a2 a3 b1 b2 b3 _ (z := z) hz))
  have HBs := Lib.hid hB
  clear h hB
  go_enter Tryz.func17, Tryz.ntmps17
  go_wp2
  go_loopw [3, 4, 5, 6] (fun v i v5 v6 wr => ∃ k : Nat, i = .int .i64 k ∧ k ≤ l.length ∧ OwnR 27 7 Hd.cells wr w.heap.size v (stbS (headsOf (l.take k))) ∧ Below w.heap.size w wr) (fun _ i _ _ _ => l.length - (intOf i).toNat)
  case atStart => exact ⟨0, rfl, Nat.zero_le _, OwnR.nil _ _, Below.refl _ _⟩
  case round =>
    obtain ⟨k, rfl, hk, hown, hb⟩ := hrel
    obtain ⟨A7, c7, hv7⟩ := hown.shape
    subst hv7
    have hHl : (headsOf (l.take k)).length ≤ 2 ^ 19 := Nat.le_trans (heads_len _) (by rw [List.length_take]; omega)
    by_cases hlt : k < l.length
    · obtain ⟨g, o, hA, -, x0, x1, x2, x3, x4, x5, x6, x7, x8⟩ := row_lsa9b (HL.out.below (hb.mono HBs.out)) k hlt
      have hkl : (k : Int) < (l.length : Int) := by omega
      have hmore := heads_more hlt
      have HA := Lib.hid hA
      rw [hA]
      have Hlt := Lib.hid hlt
      generalize l[k] = x at *
      obtain ⟨⟨y1, y2, y3, y4, y5, y6, y7⟩, ka, kc, ls, ma, mc, ms⟩ := x
      simp only at x0 x1 x2 x3 x4 x5 x6 x7 x8 hmore
      clear x7 x8
      obtain ⟨H, hH⟩ : ∃ H, headsOf (l.take k) = H := ⟨_, rfl⟩
      rw [hH] at hown hmore hHl ⊢
      obtain ⟨nh, hnh⟩ : ∃ n, (stbS H).length = n := ⟨_, rfl⟩
      have hnhl : nh = H.length := by rw [← hnh, stbS_len]
      rw [hnh] at hown ⊢
      have hnb : nh ≤ 524288 := by omega
      have Hmore := Lib.hid hmore
      have HHl := Lib.hid hHl
      have Hnh := Lib.hid hnh
      have Hnhl := Lib.hid hnhl
      have Hown := Lib.hid hown
      have Hb := Lib.hid hb
      clear hA hlt hk hown hb hmore hHl hH hnh hnhl
      by_cases h60 : y1 = 60
      · subst h60
        rw [if_pos rfl, List.append_nil] at Hmore
        go_wp2
        go_roundw
        case measure => have := Hlt.out; simp only [intOf]; omega
        case rel => exact ⟨k + 1, by go_num, Hlt.out, by rw [Hmore.out]; exact Hown.out, Hb.out⟩
      · rw [if_neg h60] at Hmore
        have h60b : (y1 == 60) = false := by simp [h60]
        clear h60
        go_wp2_with (at_builtin; (refine app_row Hd.cells (fun _ => rfl) (by decide) (bytes := 56) (by decide) infoHd13 rfl Tryz.underlying58 onesHd13 (by rfl) _ _ (by rfl) w.heap.size _ (stbS H) (by rfl) (Hown.out.alloc _) wr.heap.size ⟨y1, y2, y3, y4, y5, y6, y7⟩ (by rfl) (Blk.new _ _ _) (by have := HHl.out; have := Hnhl.out; have := Hnh.out; omega) (by have := Hb.out.size; simp; omega) ?_); intro v6 w6 hown6 hg6 hor6; have O6 := Lib.hid hown6; have B6 := Lib.hid ((Hb.out.alloc Hb.out.size _).grown hg6 (by have := Hb.out.size; simp; omega) (fun j hj => (Hown.out.block j hj).1)); clear hown6 hg6 hor6; obtain ⟨g6, c6, hv6⟩ := own_snoc O6.out (Hnh.out); subst hv6; obtain ⟨m1, hm1⟩ : ∃ m, nh + 1 = m := ⟨_, rfl⟩; rw [hm1] at O6 ⊢)
        -- the inner loop
        have hm1i : (m1 : Int) - 1 = (nh : Int) := by omega
        have hm1b : m1 ≤ 524289 := by omega
        have HM1 := Lib.hid hm1
        have HS0 := Lib.hid (show SinkAt w6 w.heap.size (.slice (some ⟨g6, 0, none⟩) m1 c6) H ⟨y1, y2, y3, y4, y5, y6, y7⟩ nh by have := SinkAt.start O6.out; rw [← Hnhl.out] at this; exact this)
        clear x0 x1 x2 x3 x4 x5 x6 h60b hm1
        go_loopw [5, 6] (fun v5 v6 wr => ∃ kk : Nat, v5 = .int .i64 kk ∧ kk ≤ nh ∧ SinkAt wr w.heap.size (.slice (some ⟨g6, 0, none⟩) m1 c6) H ⟨y1, y2, y3, y4, y5, y6, y7⟩ kk ∧ Below w.heap.size w wr) (fun v5 _ _ => (intOf v5).toNat)
        case atStart => exact ⟨nh, by go_num, Nat.le_refl _, HS0.out, B6.out⟩
        case round =>
          obtain ⟨kk, rfl, hkk, hsk, hb⟩ := hrel
          have Hsk := Lib.hid hsk
          have Hb2 := Lib.hid hb
          clear hsk hb
          by_cases h0 : 0 < kk
          · have h0i : 0 < (kk : Int) := by omega
            obtain ⟨j, hj⟩ : ∃ j, kk - 1 = j := ⟨_, rfl⟩
            have hji : (kk : Int) - 1 = (j : Int) := by omega
            have hjw : IntKind.i64.wrap (j : Int) = (j : Int) := by rw [IntKind.wrap_i64]; omega
            have hjm : (j : Int) < (m1 : Int) := by have := HM1.out; omega
            have hkm : (kk : Int) < (m1 : Int) := by have := HM1.out; omega
            have hkb : kk ≤ 524288 := by omega
            obtain ⟨Z1, Z2, hZ, hl1, hgt, how⟩ := Hsk.out.ex
            obtain ⟨Y, z, rfl, hYl, hzz⟩ := sink_cut hZ hl1 h0
            have e0 : (Y ++ [z]) ++ (⟨y1, y2, y3, y4, y5, y6, y7⟩ : Hd) :: Z2 = Y ++ z :: (⟨y1, y2, y3, y4, y5, y6, y7⟩ : Hd) :: Z2 := by simp
            have how2 := how
            rw [e0] at how2
            obtain ⟨a0, a1, a2, a3, a4, a5, a6⟩ := own_at7 how kk hl1.symm
            obtain ⟨b0, b1, b2, b3, b4, b5, b6⟩ := own_at7 how2 j (by omega)
            obtain ⟨z1, z2, z3, z4, z5, z6, z7⟩ := z
            simp only at a0 a1 a2 a3 a4 a5 a6 b0 b1 b2 b3 b4 b5 b6
            have hg6 : w.heap.size ≤ g6 := (how2.block g6 rfl).1
            have HOw := Lib.hid how2
            have HZ := Lib.hid (show stbS H = (Y ++ [⟨z1, z2, z3, z4, z5, z6, z7⟩]) ++ Z2 ∧ Y.length + 1 = kk ∧ (∀ z ∈ Z2, ltS ⟨y1, y2, y3, y4, y5, y6, y7⟩ z = true) ∧ (stbS H)[kk - 1]? = some ⟨z1, z2, z3, z4, z5, z6, z7⟩ ∧ j + 1 = kk ∧ w.heap.size ≤ g6 from ⟨hZ, hYl, hgt, hzz, by omega, hg6⟩)
            have e1 := cell_regrown a0
            have e2 := cell_regrown a1
            have e3 := cell_regrown a2
            have e4 := cell_regrown a3
            have e5 := cell_regrown a4
            have e6 := cell_regrown a5
            have e7 := cell_regrown a6
            have f1 := cell_regrown b0
            have f2 := cell_regrown b1
            have f3 := cell_regrown b2
            have f4 := cell_regrown b3
            have f5 := cell_regrown b4
            have f6 := cell_regrown b5
            have f7 := cell_regrown b6
            obtain ⟨t, ht⟩ : ∃ t, lessK ⟨y2, y3, y4⟩ ⟨z2, z3, z4⟩ = t := ⟨_, rfl⟩
            have HT := Lib.hid (show ltS ⟨y1, y2, y3, y4, y5, y6, y7⟩ ⟨z1, z2, z3, z4, z5, z6, z7⟩ = t from ht)
            have CLz := Lib.hid (fun w0 dd os => CL.out w0 y2 y3 y4 z2 z3 z4 t ht dd os)
            clear a0 a1 a2 a3 a4 a5 a6 b0 b1 b2 b3 b4 b5 b6 hZ hl1 hgt how how2 hYl hzz e0 hg6 hj ht
            go_wp2_with fail
            refine wp_region_quiet_below (by kernel_rfl) (by kernel_rfl) ?_
            repeat (go_big_quiet_step (first | exact CK.out _ _ _ _ _ _ _ _ _ _ | exact CLz.out _ _ _))
            refine wpQuiet_nil ?_
            rintro w3 ⟨⟨dq, osq⟩, rfl⟩
            have hb3 := below_regrown wr dq osq
            have O3 := Lib.hid (HOw.out.below hb3)
            have S3 := Lib.hid (show SinkAt (grow (redrawn wr dq) osq) w.heap.size (.slice (some ⟨g6, 0, none⟩) m1 c6) H ⟨y1, y2, y3, y4, y5, y6, y7⟩ kk by
              obtain ⟨Z1, Z2, q1, q2, q3, q4⟩ := Hsk.out.ex
              exact ⟨Z1, Z2, q1, q2, q3, q4.below hb3⟩)
            have B3 := Lib.hid (below_trans Hb2.out Hb2.out.size hb3)
            clear hb3
            generalize grow (redrawn wr dq) osq = w3 at *
            clear e1 e2 e3 e4 e5 e6 e7 f1 f2 f3 f4 f5 f6 f7
            cases t
            · go_wp2
              go_roundw
              case measure => have := Hlt.out; simp only [intOf]; omega
              case rel => exact ⟨k + 1, by go_num, Hlt.out, by rw [Hmore.out]; exact S3.out.done (.inr ⟨_, HZ.out.2.2.2.1, HT.out⟩), B3.out⟩
            · obtain ⟨w4, hw4⟩ : ∃ v, w3.alloc (.cells #[.int .i64 y1, .int .i64 y2, .int .i64 y3, .int .i64 y4, .int .i64 y5, .int .i64 y6, .int .i64 y7] 27) = v := ⟨_, rfl⟩
              obtain ⟨gb, hgb⟩ : ∃ v, w3.heap.size = v := ⟨_, rfl⟩
              have hk4 := Blk.new w3 27 #[.int .i64 y1, .int .i64 y2, .int .i64 y3, .int .i64 y4, .int .i64 y5, .int .i64 y6, .int .i64 y7]
              have hb4 := below_new w3 (.cells #[.int .i64 y1, .int .i64 y2, .int .i64 y3, .int .i64 y4, .int .i64 y5, .int .i64 y6, .int .i64 y7] 27)
              have hne : g6 ≠ gb := by have := (O3.out.block g6 rfl).2; omega
              rw [hw4, hgb] at hk4
              rw [hw4] at hb4
              have O4 := O3.out.below hb4
              have B4 := Lib.hid (below_trans B3.out B3.out.size hb4)
              obtain ⟨a0, a1, a2, a3, a4, a5, a6⟩ := own_at7 (A := Y ++ [⟨z1, z2, z3, z4, z5, z6, z7⟩]) (C := Z2) (x := ⟨y1, y2, y3, y4, y5, y6, y7⟩) (by simpa using O3.out) kk (by have := HZ.out.2.1; simp; omega)
              obtain ⟨c0, c1, c2, c3, c4, c5, c6'⟩ := own_at7 (A := Y ++ [⟨z1, z2, z3, z4, z5, z6, z7⟩]) (C := Z2) (x := ⟨y1, y2, y3, y4, y5, y6, y7⟩) (by simpa using O4) kk (by have := HZ.out.2.1; simp; omega)
              simp only at c0 c1 c2 c3 c4 c5 c6'
              obtain ⟨b0, b1, b2, b3, b4, b5, b6⟩ := own_at7 O4 j (by have := HZ.out; omega)
              simp only at a0 a1 a2 a3 a4 a5 a6 b0 b1 b2 b3 b4 b5 b6
              have hfz := fun i => OwnH13.frozen O4 i
              obtain ⟨w5, hw5⟩ : ∃ v, (((((((w4.setCell ⟨g6, kk * 7, none⟩ (.int .i64 z1)).setCell ⟨g6, kk * 7 + 1, none⟩ (.int .i64 z2)).setCell ⟨g6, kk * 7 + 2, none⟩ (.int .i64 z3)).setCell ⟨g6, kk * 7 + 3, none⟩ (.int .i64 z4)).setCell ⟨g6, kk * 7 + 4, none⟩ (.int .i64 z5)).setCell ⟨g6, kk * 7 + 5, none⟩ (.int .i64 z6)).setCell ⟨g6, kk * 7 + 6, none⟩ (.int .i64 z7)) = v := ⟨_, rfl⟩
              obtain ⟨o5, o6⟩ := own_swap O4 j kk (by have := HZ.out; omega) (by have := HZ.out; omega) w5 hw5
              have hfz5 := fun i => OwnH13.frozen o5 i
              obtain ⟨d0, d1, d2, d3, d4, d5, d6⟩ := own_at7 o5 j (by have := HZ.out; omega)
              simp only at d0 d1 d2 d3 d4 d5 d6
              have hk5 : Blk w5 gb 27 #[.int .i64 y1, .int .i64 y2, .int .i64 y3, .int .i64 y4, .int .i64 y5, .int .i64 y6, .int .i64 y7] := by
                rw [← hw5]
                exact hk4.grown (grown7 w4 g6 (kk * 7) _ _ _ _ _ _ _) (fun e => hne (by injection e with e; exact e.symm))
              obtain ⟨q0, q1, q2, q3, q4, q5, q6⟩ : _ ∧ _ ∧ _ ∧ _ ∧ _ ∧ _ ∧ _ := ⟨hk5.cell 0, hk5.cell 1, hk5.cell 2, hk5.cell 3, hk5.cell 4, hk5.cell 5, hk5.cell 6⟩
              simp only [List.getElem?_toArray, List.getElem?_cons_zero, List.getElem?_cons_succ] at q0 q1 q2 q3 q4 q5 q6
              simp only at o6
              have HO6 := Lib.hid o6
              have HB5 := Lib.hid (show Below w.heap.size w w5 by rw [← hw5]; exact below_set7k B4.out HZ.out.2.2.2.2.2 (kk * 7) _ _ _ _ _ _ _)
              clear hk4 hb4 O4 o5 o6 hk5 hne
              go_wp2
              go_roundw
              case measure => have := HZ.out; simp only [intOf]; omega
              case rel =>
                obtain ⟨r1, r2, r3, r4, r5, r6⟩ := HZ.out
                refine ⟨j, by go_num, by omega, ⟨Y, ⟨z1, z2, z3, z4, z5, z6, z7⟩ :: Z2, by rw [r1]; simp, by omega, fun u hu => ?_, HO6.out⟩, below_set7k HB5.out r6 (j * 7) _ _ _ _ _ _ _⟩
                rcases List.mem_cons.1 hu with rfl | hu
                · exact HT.out
                · exact r3 u hu
          · have hk0 : kk = 0 := by omega
            subst hk0
            clear h0
            go_wp2_with fail
            go_quiet (fail)
            go_wp2
            go_roundw
            case measure => have := Hlt.out; simp only [intOf]; omega
            case rel =>
              have hbd := below_drewN (Below.refl wr.heap.size wr)
              refine ⟨k + 1, by go_num, Hlt.out, ?_, below_trans Hb2.out Hb2.out.size (hbd _)⟩
              rw [Hmore.out]
              exact (Hsk.out.done (.inl rfl)).below (hbd _)
    · have hke : k = l.length := by omega
      subst hke
      have hkl : ¬ (l.length : Int) < (l.length : Int) := by omega
      have O8 := Lib.hid hown
      have B8 := Lib.hid hb
      clear hown hb hlt
      rw [List.take_length] at O8
      go_wp2
      go_ret
      exact ⟨⟨_, rfl, O8.out⟩, B8.out⟩

end Go.Proofs.YtpnbibokddhheaaGreat

/-
  Layer 13: the keys of what is gone: the document's way.
-/
namespace Go.Proofs.YtpnbibokddhheaaGreat
open Go.RowKit Go.Sort

/-- the row that is made, beside what it is made of -/
structure GoneAt (w0 W : World) (B Bi g6 : Nat) (k : K3) (v : Value) (N : List K3) (vo : Value) (G : List K3) : Prop where
  nx : OwnKy W Bi v N
  out : OwnKy W B vo G
  box : Blk W g6 69 #[.int .i64 k.kind, .int .i64 k.id, .int .i64 k.adv]
  lo : ∀ m, vo.ownBlock = some m → m < Bi
  lg : g6 < Bi
  bel : Below B w0 W
  low : B ≤ Bi
  siz : B ≤ W.heap.size
  bi : Bi ≤ W.heap.size
section
variable {w0 W W' : World} {B Bi g6 : Nat} {k : K3} {v v' : Value} {N N' : List K3} {vo : Value} {G : List K3}
theorem GoneAt.keep (h : GoneAt w0 W B Bi g6 k v N vo G) (hb : Below W.heap.size W W') : GoneAt w0 W' B Bi g6 k v N vo G :=
  ⟨h.nx.below hb, h.out.below hb, h.box.below hb h.box.lt, h.lo, h.lg, below_trans h.bel h.siz hb, h.low, Nat.le_trans h.siz hb.size, Nat.le_trans h.bi hb.size⟩
theorem GoneAt.app (h : GoneAt w0 W B Bi g6 k v N vo G) (hn : OwnKy W' Bi v' N') (hg : W.grownBy W' v.ownBlock) : GoneAt w0 W' B Bi g6 k v' N' vo G where
  nx := hn
  out := h.out.kept hg (by
    cases hv : vo.ownBlock with
    | none => exact .inl rfl
    | some m => right; intro e; have := h.lo m hv; have := (h.nx.block m e.symm).1; omega)
  box := h.box.grown hg (fun e => by have := (h.nx.block g6 e.symm).1; have := h.lg; omega)
  lo := h.lo
  lg := h.lg
  bel := h.bel.grown hg h.siz (fun m e => Nat.le_trans h.low (h.nx.block m e).1)
  low := h.low
  siz := Nat.le_trans h.siz hg.size
  bi := Nat.le_trans h.bi hg.size
end
theorem row_ky {W : World} {B : Nat} {v : Value} {G : List K3} (h : OwnKy W B v G) (j : Nat) (hj : j < G.length) : ∃ g c, v = .slice (some ⟨g, 0, none⟩) G.length c ∧ W.cell? ⟨g, j * 3, none⟩ = some (.int .i64 G[j].kind) ∧ W.cell? ⟨g, j * 3 + 1, none⟩ = some (.int .i64 G[j].id) ∧ W.cell? ⟨g, j * 3 + 2, none⟩ = some (.int .i64 G[j].adv) := by
  rcases h.shape2 with ⟨-, hn⟩ | ⟨g, c, rfl, hc⟩
  · subst hn; simp at hj
  · obtain ⟨b, o, e, -, z⟩ := row_k3b (OwnR.rows (C := 3) (cells := K3.cells) (fun _ => rfl) h).2 j hj
    injection e with e
    injection e with e1 e2
    subst e1 e2
    simp only [Nat.zero_add] at z
    exact ⟨g, c, rfl, z.1, z.2.1, z.2.2⟩
theorem gone_cells {w0 W W' : World} {B Bi g6 : Nat} {k : K3} {v v' : Value} {N N' : List K3} {vo : Value} {G : List K3} (h : GoneAt w0 W B Bi g6 k v N vo G) (h' : GoneAt w0 W' B Bi g6 k v' N' vo G) (j : Nat) (hj : j < G.length) {g c : Nat} (hv : vo = .slice (some ⟨g, 0, none⟩) G.length c) {a b d : Value}
    (z0 : W.cell? ⟨g, j * 3, none⟩ = some a) (z1 : W.cell? ⟨g, j * 3 + 1, none⟩ = some b) (z2 : W.cell? ⟨g, j * 3 + 2, none⟩ = some d) : W'.cell? ⟨g, j * 3, none⟩ = some a ∧ W'.cell? ⟨g, j * 3 + 1, none⟩ = some b ∧ W'.cell? ⟨g, j * 3 + 2, none⟩ = some d := by
  subst hv
  obtain ⟨g1, c1, e1, y0, y1, y2⟩ := row_ky h.out j hj
  obtain ⟨g2, c2, e2, x0, x1, x2⟩ := row_ky h'.out j hj
  injection e1 with e1
  injection e1 with e1
  injection e1 with e1
  injection e2 with e2
  injection e2 with e2
  injection e2 with e2
  subst e1 e2
  exact ⟨x0.trans (y0.symm.trans z0), x1.trans (y1.symm.trans z1), x2.trans (y2.symm.trans z2)⟩
theorem InAt.len {k : K3} {G N : List K3} {j : Nat} (h : InAt k (G.take j) false N) : N.length ≤ j := by
  rcases h with ⟨-, rfl, -⟩ | ⟨h, -⟩
  · rw [List.length_take]; omega
  · cases h
set_option maxHeartbeats 16000000 in
set_option maxRecDepth 100000 in
theorem refGone_any (A : Option Addr) (c : Nat) (l : List Lsa) (w : World) (B : Nat) (h : RowsAt 9 Lsa.cells w B A l) (hB : B ≤ w.heap.size) (hm : l.length ≤ 2 ^ 18) (nn : Nat) (hnn : nn = l.length) :
    Calls Tryz.prog 15 #[.slice A nn c] w fun r w' => (∃ v, r = .returned v ∧ OwnKy w' w.heap.size v (goneL (goneOf l))) ∧ Below w.heap.size w w' := by
  subst hnn
  have HL := Lib.hid h
  have hm' : (l.length : Int) ≤ 262144 := by omega
  have HBs := Lib.hid hB
  clear h hB
  go_enter Tryz.func15, Tryz.ntmps15
  go_wp2
  go_loopw [3, 4, 5, 6, 7, 8] (fun v i v5 v6 v7 v8 wr => ∃ k : Nat, i = .int .i64 k ∧ k ≤ l.length ∧ OwnKy wr w.heap.size v (goneL (goneOf (l.take k))) ∧ Below w.heap.size w wr) (fun _ i _ _ _ _ _ => l.length - (intOf i).toNat)
  case atStart => exact ⟨0, rfl, Nat.zero_le _, OwnR.nil _ _, Below.refl _ _⟩
  case round =>
    obtain ⟨k, rfl, hk, hown, hb⟩ := hrel
    have hGl : (goneL (goneOf (l.take k))).length ≤ 2 ^ 18 := Nat.le_trans (goneL_len _) (Nat.le_trans (gone_len _) (by rw [List.length_take]; omega))
    by_cases hlt : k < l.length
    · obtain ⟨g, o, hA, -, x0, x1, x2, x3, x4, x5, x6, x7, x8⟩ := row_lsa9b (HL.out.below (hb.mono HBs.out)) k hlt
      have hkl : (k : Int) < (l.length : Int) := by omega
      have hmore := gone_more hlt
      have HA := Lib.hid hA
      rw [hA]
      have Hlt := Lib.hid hlt
      generalize l[k] = x at *
      obtain ⟨⟨y1, y2, y3, y4, y5, y6, y7⟩, ka, kc, ls, ma, mc, ms⟩ := x
      simp only at x0 x1 x2 x3 x4 x5 x6 x7 x8 hmore
      clear x7 x8
      have hmk : keyX ⟨⟨y1, y2, y3, y4, y5, y6, y7⟩, ka, kc, ls, ma, mc, ms⟩ = ⟨y2, y3, y4⟩ := rfl
      rw [hmk] at hmore
      obtain ⟨G, hG⟩ : ∃ G, goneL (goneOf (l.take k)) = G := ⟨_, rfl⟩
      obtain ⟨m, hmm⟩ : ∃ m, G.length = m := ⟨_, rfl⟩
      rw [hG] at hown hGl
      rw [hmm] at hGl
      obtain ⟨Ao, co, hvo⟩ := hown.shape
      rw [hmm] at hvo
      subst hvo
      have hmb : (m : Int) ≤ 262144 := by omega
      have Hmore := Lib.hid hmore
      have HG := Lib.hid hG
      have Hm := Lib.hid hmm
      have Hown := Lib.hid hown
      have Hb := Lib.hid hb
      clear hA hlt hk hown hb hmore hG hmm hGl hmk
      by_cases h60 : y1 = 60
      · subst h60
        rw [if_pos rfl] at Hmore
        have HGm := Lib.hid (show goneL (goneOf (l.take (k + 1))) = addKy ⟨y2, y3, y4⟩ G by rw [Hmore.out, goneL_more, HG.out])
        go_wp2_with fail
        with_reducible refine Calls.mono (key_any 60 y2 y3 y4 y5 y6 y7 _) ?_
        rintro r w5 ⟨rfl, hb5⟩
        obtain ⟨w6, hw6⟩ : ∃ v, w5.alloc (.cells #[.int .i64 y2, .int .i64 y3, .int .i64 y4] 69) = v := ⟨_, rfl⟩
        obtain ⟨g6, hg6⟩ : ∃ v, w5.heap.size = v := ⟨_, rfl⟩
        have hk6 := Blk.new w5 69 #[.int .i64 y2, .int .i64 y3, .int .i64 y4]
        have hb6 := below_new w5 (.cells #[.int .i64 y2, .int .i64 y3, .int .i64 y4] 69)
        have hs6 : w6.heap.size = g6 + 1 := by rw [← hw6, ← hg6]; simp
        rw [hw6, hg6] at hk6
        rw [hw6] at hb6
        have hb56 := below_trans hb5 hb5.size hb6
        have HS := Lib.hid (show GoneAt w w6 w.heap.size w6.heap.size g6 ⟨y2, y3, y4⟩ (.slice none 0 0) [] (.slice Ao m co) G from ⟨OwnR.nil _ _, Hown.out.below hb56, hk6, fun b e => by have := ((Hown.out.below hb56).block b e).2; exact this, by omega, below_trans Hb.out Hb.out.size hb56, by have := Hb.out.size; have := hb56.size; omega, by have := Hb.out.size; have := hb56.size; omega, Nat.le_refl _⟩)
        obtain ⟨Bi, hBi⟩ : ∃ b, w6.heap.size = b := ⟨_, rfl⟩
        rw [hBi] at HS
        clear x0 x1 x2 x3 x4 x5 x6 hb5 hk6 hb6 hb56 hs6
        go_wp2
        clear hw6 hg6
        go_loopw [6, 7, 8] (fun v6 v7 v8 wr => ∃ (j : Nat) (d : Bool) (N : List K3), v8 = .int .i64 j ∧ v7 = .bool d ∧ j ≤ m ∧ Hid (GoneAt w wr w.heap.size Bi g6 ⟨y2, y3, y4⟩ v6 N (.slice Ao m co) G ∧ InAt ⟨y2, y3, y4⟩ (G.take j) d N ∧ N.length ≤ j + 1)) (fun _ _ v8 _ => m - (intOf v8).toNat)
        case atStart => exact ⟨0, false, [], rfl, rfl, Nat.zero_le _, Lib.hid ⟨HS.out, InAt.start _, by simp⟩⟩
        case round =>
          obtain ⟨j, d, N, rfl, rfl, hjm, HJ⟩ := hrel
          clear HS
          obtain ⟨A6, c6, hv6⟩ := HJ.out.1.nx.shape
          subst hv6
          have hmj : m ≤ 262144 := by omega
          have HNl := Lib.hid (show N.length ≤ 262145 by have := HJ.out.2.2; omega)
          have hbx := HJ.out.1.box
          by_cases hjl : j < m
          · have hjli : (j : Int) < (m : Int) := by omega
            have hjG : j < G.length := by have := Hm.out; omega
            obtain ⟨g7, c7, hv7, z0, z1, z2⟩ := row_ky HJ.out.1.out j hjG
            injection hv7 with hA7 hn7 hc7
            have htk : G.take (j + 1) = G.take j ++ [G[j]] := List.take_succ_eq_append_getElem hjG
            subst hA7 hc7
            generalize G[j] = x at *
            obtain ⟨e1, e2, e3⟩ := x
            simp only at z0 z1 z2
            obtain ⟨q0, q1, q2⟩ : _ ∧ _ ∧ _ := ⟨hbx.cell 0, hbx.cell 1, hbx.cell 2⟩
            simp only [List.getElem?_toArray, List.getElem?_cons_zero, List.getElem?_cons_succ] at q0 q1 q2
            have heq := fun w => eqKyN e1 e2 e3 y2 y3 y4 w
            have Htk := Lib.hid htk
            have HjG := Lib.hid hjG
            clear hbx hjG hn7 htk
            have HJd := Lib.hid HJ.out.1
            cases d with
            | true =>
              have hin := Lib.hid (HJ.out.2.1.on (x := ⟨e1, e2, e3⟩))
              by_cases he : (⟨e1, e2, e3⟩ : K3) = ⟨y2, y3, y4⟩
              · rw [decide_eq_true he] at heq
                clear he
                go_wp2_with fail
                go_quiet (fail)
                have HD := Lib.hid (HJd.out.keep (below_drewN (Below.refl _ _) nq))
                have z0 := (show (wr.drewN nq).cell? ⟨g7, j * 3, none⟩ = _ from z0)
                have z1 := (show (wr.drewN nq).cell? ⟨g7, j * 3 + 1, none⟩ = _ from z1)
                have z2 := (show (wr.drewN nq).cell? ⟨g7, j * 3 + 2, none⟩ = _ from z2)
                have q0 := (show (wr.drewN nq).cell? ⟨g6, 0, none⟩ = _ from q0)
                have q1 := (show (wr.drewN nq).cell? ⟨g6, 1, none⟩ = _ from q1)
                have q2 := (show (wr.drewN nq).cell? ⟨g6, 2, none⟩ = _ from q2)
                generalize wr.drewN nq = wd at *
                go_wp2_with fail
                go_quiet (fail)
                have HD2 := Lib.hid (HD.out.keep (below_drewN (Below.refl _ _) nq))
                have z0 := (show (wd.drewN nq).cell? ⟨g7, j * 3, none⟩ = _ from z0)
                have z1 := (show (wd.drewN nq).cell? ⟨g7, j * 3 + 1, none⟩ = _ from z1)
                have z2 := (show (wd.drewN nq).cell? ⟨g7, j * 3 + 2, none⟩ = _ from z2)
                have q0 := (show (wd.drewN nq).cell? ⟨g6, 0, none⟩ = _ from q0)
                have q1 := (show (wd.drewN nq).cell? ⟨g6, 1, none⟩ = _ from q1)
                have q2 := (show (wd.drewN nq).cell? ⟨g6, 2, none⟩ = _ from q2)
                generalize wd.drewN nq = we at *
                have HD2n := Lib.hid HD2.out.nx
                go_wp2_with (at_builtin; (refine app_row K3.cells (fun _ => rfl) (by decide) (bytes := 24) (by decide) infoK13 rfl Tryz.underlying54 onesK13 (by rfl) _ _ (by rfl) Bi _ N (by rfl) (HD2n.out.alloc _) we.heap.size ⟨e1, e2, e3⟩ (by rfl) (Blk.new _ _ _) (by have := HNl.out; simp; omega) (by have := HD2.out.bi; simp; omega) ?_); intro v8 w8 hownX hgX hor; have R8 := Lib.hid hownX; have G8 := Lib.hid hgX; clear hownX hgX hor)
                obtain ⟨A8, c8, hv8⟩ := R8.out.shape
                subst hv8
                have HE := Lib.hid ((HD2.out.keep (below_new we _)).app R8.out G8.out)
                go_wp2
                go_roundw
                case measure => simp only [intOf]; omega
                case rel => exact ⟨j + 1, true, _, by go_num, rfl, hjl, Lib.hid ⟨HE.out, by rw [Htk.out]; exact hin.out, by have := HJ.out.2.2; simp; omega⟩⟩
              · rw [decide_eq_false he] at heq
                clear he
                go_wp2_with fail
                go_quiet (fail)
                have HD := Lib.hid (HJd.out.keep (below_drewN (Below.refl _ _) nq))
                have z0 := (show (wr.drewN nq).cell? ⟨g7, j * 3, none⟩ = _ from z0)
                have z1 := (show (wr.drewN nq).cell? ⟨g7, j * 3 + 1, none⟩ = _ from z1)
                have z2 := (show (wr.drewN nq).cell? ⟨g7, j * 3 + 2, none⟩ = _ from z2)
                have q0 := (show (wr.drewN nq).cell? ⟨g6, 0, none⟩ = _ from q0)
                have q1 := (show (wr.drewN nq).cell? ⟨g6, 1, none⟩ = _ from q1)
                have q2 := (show (wr.drewN nq).cell? ⟨g6, 2, none⟩ = _ from q2)
                generalize wr.drewN nq = wd at *
                go_wp2_with fail
                go_quiet (fail)
                have HD2 := Lib.hid (HD.out.keep (below_drewN (Below.refl _ _) nq))
                have z0 := (show (wd.drewN nq).cell? ⟨g7, j * 3, none⟩ = _ from z0)
                have z1 := (show (wd.drewN nq).cell? ⟨g7, j * 3 + 1, none⟩ = _ from z1)
                have z2 := (show (wd.drewN nq).cell? ⟨g7, j * 3 + 2, none⟩ = _ from z2)
                have q0 := (show (wd.drewN nq).cell? ⟨g6, 0, none⟩ = _ from q0)
                have q1 := (show (wd.drewN nq).cell? ⟨g6, 1, none⟩ = _ from q1)
                have q2 := (show (wd.drewN nq).cell? ⟨g6, 2, none⟩ = _ from q2)
                generalize wd.drewN nq = we at *
                have HD2n := Lib.hid HD2.out.nx
                go_wp2_with (at_builtin; (refine app_row K3.cells (fun _ => rfl) (by decide) (bytes := 24) (by decide) infoK13 rfl Tryz.underlying54 onesK13 (by rfl) _ _ (by rfl) Bi _ N (by rfl) (HD2n.out.alloc _) we.heap.size ⟨e1, e2, e3⟩ (by rfl) (Blk.new _ _ _) (by have := HNl.out; simp; omega) (by have := HD2.out.bi; simp; omega) ?_); intro v8 w8 hownX hgX hor; have R8 := Lib.hid hownX; have G8 := Lib.hid hgX; clear hownX hgX hor)
                obtain ⟨A8, c8, hv8⟩ := R8.out.shape
                subst hv8
                have HE := Lib.hid ((HD2.out.keep (below_new we _)).app R8.out G8.out)
                go_wp2
                go_roundw
                case measure => simp only [intOf]; omega
                case rel => exact ⟨j + 1, true, _, by go_num, rfl, hjl, Lib.hid ⟨HE.out, by rw [Htk.out]; exact hin.out, by have := HJ.out.2.2; simp; omega⟩⟩
            | false =>
              by_cases he : (⟨e1, e2, e3⟩ : K3) = ⟨y2, y3, y4⟩
              · rw [decide_eq_true he] at heq
                have hin := Lib.hid (show InAt ⟨y2, y3, y4⟩ (G.take j ++ [⟨e1, e2, e3⟩]) true (N ++ [⟨e1, e2, e3⟩]) by rw [he]; exact HJ.out.2.1.met)
                clear he
                go_wp2_with fail
                go_quiet (fail)
                have HD := Lib.hid (HJd.out.keep (below_drewN (Below.refl _ _) nq))
                have z0 := (show (wr.drewN nq).cell? ⟨g7, j * 3, none⟩ = _ from z0)
                have z1 := (show (wr.drewN nq).cell? ⟨g7, j * 3 + 1, none⟩ = _ from z1)
                have z2 := (show (wr.drewN nq).cell? ⟨g7, j * 3 + 2, none⟩ = _ from z2)
                have q0 := (show (wr.drewN nq).cell? ⟨g6, 0, none⟩ = _ from q0)
                have q1 := (show (wr.drewN nq).cell? ⟨g6, 1, none⟩ = _ from q1)
                have q2 := (show (wr.drewN nq).cell? ⟨g6, 2, none⟩ = _ from q2)
                generalize wr.drewN nq = wd at *
                go_wp2_with fail
                go_quiet (fail)
                have HD2 := Lib.hid (HD.out.keep (below_drewN (Below.refl _ _) nq))
                have z0 := (show (wd.drewN nq).cell? ⟨g7, j * 3, none⟩ = _ from z0)
                have z1 := (show (wd.drewN nq).cell? ⟨g7, j * 3 + 1, none⟩ = _ from z1)
                have z2 := (show (wd.drewN nq).cell? ⟨g7, j * 3 + 2, none⟩ = _ from z2)
                have q0 := (show (wd.drewN nq).cell? ⟨g6, 0, none⟩ = _ from q0)
                have q1 := (show (wd.drewN nq).cell? ⟨g6, 1, none⟩ = _ from q1)
                have q2 := (show (wd.drewN nq).cell? ⟨g6, 2, none⟩ = _ from q2)
                generalize wd.drewN nq = we at *
                have HD2n := Lib.hid HD2.out.nx
                go_wp2_with (at_builtin; (refine app_row K3.cells (fun _ => rfl) (by decide) (bytes := 24) (by decide) infoK13 rfl Tryz.underlying54 onesK13 (by rfl) _ _ (by rfl) Bi _ N (by rfl) (HD2n.out.alloc _) we.heap.size ⟨e1, e2, e3⟩ (by rfl) (Blk.new _ _ _) (by have := HNl.out; simp; omega) (by have := HD2.out.bi; simp; omega) ?_); intro v8 w8 hownX hgX hor; have R8 := Lib.hid hownX; have G8 := Lib.hid hgX; clear hownX hgX hor)
                obtain ⟨A8, c8, hv8⟩ := R8.out.shape
                subst hv8
                have HE := Lib.hid ((HD2.out.keep (below_new we _)).app R8.out G8.out)
                go_wp2
                go_roundw
                case measure => simp only [intOf]; omega
                case rel => exact ⟨j + 1, true, _, by go_num, rfl, hjl, Lib.hid ⟨HE.out, by rw [Htk.out]; exact hin.out, by have := HJ.out.2.2; simp; omega⟩⟩
              · rw [decide_eq_false he] at heq
                have He := Lib.hid he
                clear he
                go_wp2_with fail
                go_quiet (fail)
                have HD := Lib.hid (HJd.out.keep (below_drewN (Below.refl _ _) nq))
                have z0 := (show (wr.drewN nq).cell? ⟨g7, j * 3, none⟩ = _ from z0)
                have z1 := (show (wr.drewN nq).cell? ⟨g7, j * 3 + 1, none⟩ = _ from z1)
                have z2 := (show (wr.drewN nq).cell? ⟨g7, j * 3 + 2, none⟩ = _ from z2)
                have q0 := (show (wr.drewN nq).cell? ⟨g6, 0, none⟩ = _ from q0)
                have q1 := (show (wr.drewN nq).cell? ⟨g6, 1, none⟩ = _ from q1)
                have q2 := (show (wr.drewN nq).cell? ⟨g6, 2, none⟩ = _ from q2)
                generalize wr.drewN nq = wd at *
                obtain ⟨t, ht⟩ : ∃ t, lessK ⟨y2, y3, y4⟩ ⟨e1, e2, e3⟩ = t := ⟨_, rfl⟩
                have HT := Lib.hid ht
                have CL := Lib.hid (fun dd os => Calls.regrown_of (w := wd) (d := dd) (os := os) (Less07 y2 y3 y4 e1 e2 e3 _ ht))
                have r0 := cell_regrown z0
                have r1 := cell_regrown z1
                have r2 := cell_regrown z2
                have s0 := cell_regrown q0
                have s1 := cell_regrown q1
                have s2 := cell_regrown q2
                clear z0 z1 z2 q0 q1 q2 ht
                go_wp2_with fail
                refine wp_region_quiet_below (by kernel_rfl) (by kernel_rfl) ?_
                repeat (go_big_quiet_step (exact CL.out _ _))
                refine wpQuiet_nil ?_
                rintro w3 ⟨⟨dq, osq⟩, rfl⟩
                have HD2 := Lib.hid (HD.out.keep (below_regrown wd dq osq))
                have z0 := r0 dq osq
                have z1 := r1 dq osq
                have z2 := r2 dq osq
                have q0 := s0 dq osq
                have q1 := s1 dq osq
                have q2 := s2 dq osq
                generalize grow (redrawn wd dq) osq = we at *
                clear r0 r1 r2 s0 s1 s2
                cases t with
                | false =>
                  have hin := Lib.hid (HJ.out.2.1.past He.out HT.out)
                  have HD2n := Lib.hid HD2.out.nx
                  go_wp2_with (at_builtin; (refine app_row K3.cells (fun _ => rfl) (by decide) (bytes := 24) (by decide) infoK13 rfl Tryz.underlying54 onesK13 (by rfl) _ _ (by rfl) Bi _ N (by rfl) (HD2n.out.alloc _) we.heap.size ⟨e1, e2, e3⟩ (by rfl) (Blk.new _ _ _) (by have := HNl.out; simp; omega) (by have := HD2.out.bi; simp; omega) ?_); intro v8 w8 hownX hgX hor; have R8 := Lib.hid hownX; have G8 := Lib.hid hgX; clear hownX hgX hor)
                  obtain ⟨A8, c8, hv8⟩ := R8.out.shape
                  subst hv8
                  have HE := Lib.hid ((HD2.out.keep (below_new we _)).app R8.out G8.out)
                  go_wp2
                  go_roundw
                  case measure => simp only [intOf]; omega
                  case rel => exact ⟨j + 1, false, _, by go_num, rfl, hjl, Lib.hid ⟨HE.out, by rw [Htk.out]; exact hin.out, by have := HJ.out.2.2; simp; omega⟩⟩
                | true =>
                  have hin := Lib.hid (HJ.out.2.1.put He.out HT.out)
                  have HD2n := Lib.hid HD2.out.nx
                  have HNj := Lib.hid (HJ.out.2.1.len)
                  go_wp2_with (first | (have _ := HD3n.out; at_builtin; (refine app_row K3.cells (fun _ => rfl) (by decide) (bytes := 24) (by decide) infoK13 rfl Tryz.underlying54 onesK13 (by rfl) _ _ (by rfl) Bi _ (N ++ [⟨y2, y3, y4⟩]) (by rfl) (HD3n.out.alloc _) w7.heap.size ⟨e1, e2, e3⟩ (by rfl) (Blk.new _ _ _) (by have := HNl.out; simp; omega) (by have := HD3.out.bi; simp; omega) ?_); intro v8 w8 hownX hgX hor; have R8 := Lib.hid hownX; have G8 := Lib.hid hgX; clear hownX hgX hor) | (at_builtin; (refine app_row K3.cells (fun _ => rfl) (by decide) (bytes := 24) (by decide) infoK13 rfl Tryz.underlying54 onesK13 (by rfl) _ _ (by rfl) Bi _ N (by rfl) (HD2n.out.alloc _) we.heap.size ⟨y2, y3, y4⟩ (by rfl) (Blk.new _ _ _) (by have := HNl.out; simp; omega) (by have := HD2.out.bi; simp; omega) ?_); intro v7 w7 hownX hgX hor; have R7 := Lib.hid hownX; have G7 := Lib.hid hgX; clear hownX hgX hor; go_must (obtain ⟨A7, c7, hv7⟩ := R7.out.shape; subst hv7; obtain ⟨n7, hn7⟩ : ∃ n, (N ++ [(⟨y2, y3, y4⟩ : K3)]).length = n := ⟨_, rfl⟩; rw [hn7] at R7 ⊢; clear hn7; have HD3 := Lib.hid ((HD2.out.keep (below_new we _)).app R7.out G7.out); obtain ⟨z0, z1, z2⟩ := gone_cells HD2.out HD3.out j HjG.out (by rw [Hm.out]) z0 z1 z2; have HD3n := Lib.hid HD3.out.nx)))
                  obtain ⟨A8, c8, hv8⟩ := R8.out.shape
                  subst hv8
                  have HE := Lib.hid ((HD3.out.keep (below_new w7 _)).app R8.out G8.out)
                  go_wp2
                  go_roundw
                  case measure => simp only [intOf]; omega
                  case rel => exact ⟨j + 1, true, _, by go_num, rfl, hjl, Lib.hid ⟨HE.out, by rw [Htk.out]; exact hin.out, by have := HNj.out; simp; omega⟩⟩
          · have hje : j = m := by omega
            subst hje
            have hjli : ¬ (j : Int) < (j : Int) := by omega
            have hall : G.take j = G := by rw [← Hm.out, List.take_length]
            have hin := HJ.out.2.1
            rw [hall] at hin
            have hend := hin.ends
            obtain ⟨q0, q1, q2⟩ : _ ∧ _ ∧ _ := ⟨hbx.cell 0, hbx.cell 1, hbx.cell 2⟩
            simp only [List.getElem?_toArray, List.getElem?_cons_zero, List.getElem?_cons_succ] at q0 q1 q2
            have Hend := Lib.hid hend
            have HJn := Lib.hid HJ.out.1.nx
            clear hbx hall hin hend hjl
            cases d with
            | true =>
              go_wp2
              go_roundw
              case measure => have := Hlt.out; simp only [intOf]; omega
              case rel =>
                refine ⟨k + 1, by go_num, Hlt.out, ?_, HJ.out.1.bel⟩
                rw [HGm.out, Hend.out, if_pos rfl]
                exact HJ.out.1.nx.lower HJ.out.1.low
            | false =>
              go_wp2_with (at_builtin; (refine app_row K3.cells (fun _ => rfl) (by decide) (bytes := 24) (by decide) infoK13 rfl Tryz.underlying54 onesK13 (by rfl) _ _ (by rfl) Bi _ N (by rfl) (HJn.out.alloc _) wr.heap.size ⟨y2, y3, y4⟩ (by rfl) (Blk.new _ _ _) (by have := HNl.out; simp; omega) (by have := HJ.out.1.bi; simp; omega) ?_); intro v8 w8 hownX hgX hor; have R8 := Lib.hid hownX; have G8 := Lib.hid hgX; clear hownX hgX hor)
              obtain ⟨A8, c8, hv8⟩ := R8.out.shape
              subst hv8
              have HE := Lib.hid ((HJ.out.1.keep (below_new wr _)).app R8.out G8.out)
              go_wp2
              go_roundw
              case measure => have := Hlt.out; simp only [intOf]; omega
              case rel =>
                refine ⟨k + 1, by go_num, Hlt.out, ?_, HE.out.bel⟩
                rw [HGm.out, Hend.out, if_neg (by decide)]
                exact HE.out.nx.lower HE.out.low
      · rw [if_neg h60, List.append_nil] at Hmore
        have h60b : (y1 != 60) = true := by simp [h60]
        have h60c : (y1 == 60) = false := by simp [h60]
        have HGm := Lib.hid (show goneL (goneOf (l.take (k + 1))) = G by rw [Hmore.out, HG.out])
        clear h60
        go_wp2
        go_roundw
        case measure => have := Hlt.out; simp only [intOf]; omega
        case rel => exact ⟨k + 1, by go_num, Hlt.out, by rw [HGm.out]; exact Hown.out, Hb.out⟩
    · have hke : k = l.length := by omega
      subst hke
      have hkl : ¬ (l.length : Int) < (l.length : Int) := by omega
      obtain ⟨A7, c7, hv7⟩ := hown.shape
      have hH2 : goneL (goneOf (l.take l.length)) = goneL (goneOf l) := by rw [List.take_length]
      rw [hH2] at hown hv7
      subst hv7
      have O8 := Lib.hid hown
      have B8 := Lib.hid hb
      clear hown hb hlt hGl
      go_wp2
      go_ret
      exact ⟨⟨_, rfl, O8.out⟩, B8.out⟩

end Go.Proofs.YtpnbibokddhheaaGreat
