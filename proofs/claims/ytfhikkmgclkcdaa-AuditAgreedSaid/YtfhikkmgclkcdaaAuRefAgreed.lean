/-
  Layer 27: the reference's Agreed.
-/
import Derived.Deep.QuietTactic
import Derived.BigQuiet
import Derived.Test.YtfhikkmgclkcdaaAuRefMay
namespace Go.Proofs.Ytfhikkmgclkcdaa
open Go.RowKit

theorem okR_cases {c : List Cand} {dr bdr : Int} {x : Cand} {e1 e2 : Int} (he : refElect x.id c = (e1, e2)) : ((x.dr != dr) = true ∧ okR c dr bdr x = false) ∨ ((x.dr != dr) = false ∧ (x.bdr != bdr) = true ∧ okR c dr bdr x = false) ∨ ((x.dr != dr) = false ∧ (x.bdr != bdr) = false ∧ (e1 != dr) = true ∧ okR c dr bdr x = false) ∨
    ((x.dr != dr) = false ∧ (x.bdr != bdr) = false ∧ (e1 != dr) = false ∧ (e2 != bdr) = true ∧ okR c dr bdr x = false) ∨ ((x.dr != dr) = false ∧ (x.bdr != bdr) = false ∧ (e1 != dr) = false ∧ (e2 != bdr) = false ∧ okR c dr bdr x = true) := by
  unfold okR
  rw [he]
  simp only
  cases (x.dr != dr) <;> cases (x.bdr != bdr) <;> cases (e1 != dr) <;> cases (e2 != bdr) <;> simp
theorem badR_cases (c : List Cand) (dr bdr : Int) : ∃ l0 l1 l2 : Bool, leadsB c 0 = l0 ∧ leadsB c dr = l1 ∧ leadsB c bdr = l2 ∧
    (((dr == 0) = true ∧ l0 = true ∧ badR c dr bdr = true) ∨ ((dr == 0) = false ∧ l1 = false ∧ badR c dr bdr = true) ∨
     (((dr == 0) = true ∧ l0 = false ∨ (dr == 0) = false ∧ l1 = true) ∧ (((bdr == 0) = false ∧ l2 = false ∧ badR c dr bdr = true) ∨ ((bdr == 0) = true ∧ badR c dr bdr = false) ∨ ((bdr == 0) = false ∧ l2 = true ∧ badR c dr bdr = false)))) := by
  refine ⟨_, _, _, rfl, rfl, rfl, ?_⟩
  unfold badR
  have e1 : (dr != 0) = !(dr == 0) := rfl
  have e2 : (bdr != 0) = !(bdr == 0) := rfl
  rw [e1, e2]
  generalize leadsB c 0 = l0
  generalize leadsB c dr = l1
  generalize leadsB c bdr = l2
  cases (dr == 0) <;> cases (bdr == 0) <;> cases l0 <;> cases l1 <;> cases l2 <;> simp
theorem refElect_v {self : Int} {n : Nat} {A : Option Addr} {cap : Nat} {l : List Cand} {w : World} {B : Nat} (hl : CandsAt w B A l) (hB : B ≤ w.heap.size) (hn : l.length ≤ 2 ^ 40) (hnl : n = l.length) {e1 e2 : Int} (he : refElect self l = (e1, e2)) :
    Calls Try.prog 65 #[.int .i64 self, .slice A n cap] w fun e w' => e = .returned (.agg #[.int .i64 e1, .int .i64 e2]) ∧ Below w.heap.size w w' := by
  subst hnl
  have := refElect_any self A cap l w B hl hB hn
  rw [he] at this
  exact this
theorem Blk.cells3f {w : World} {g : Nat} {t : TypeId} {a b c : Value} (h : Blk w g t #[a, b, c]) : w.cell? ⟨g, 0, none⟩ = some a ∧ w.cell? ⟨g, 1, none⟩ = some b ∧ w.cell? ⟨g, 2, none⟩ = some c ∧ w.frozen? ⟨g, 0, none⟩ = false ∧ w.frozen? ⟨g, 1, none⟩ = false ∧ w.frozen? ⟨g, 2, none⟩ = false :=
  ⟨h.cell 0, h.cell 1, h.cell 2, h.frozen 0, h.frozen 1, h.frozen 2⟩
theorem Blk.set3 {w : World} {g : Nat} {t : TypeId} {a b c a' b' c' : Value} (h : Blk w g t #[a, b, c]) : Blk (((w.setCell ⟨g, 0, none⟩ a').setCell ⟨g, 1, none⟩ b').setCell ⟨g, 2, none⟩ c') g t #[a', b', c'] := by
  have := ((h.set_ 0 a').set_ 1 b').set_ 2 c'
  simpa using this
theorem set3_of {w : World} {gT g : Nat} {t : TypeId} {a b c a' b' c' : Value} (_ht : Blk w gT t #[a', b', c']) (h : Blk w g t #[a, b, c]) :
    (((w.setCell ⟨g, 0, none⟩ a').setCell ⟨g, 1, none⟩ b').setCell ⟨g, 2, none⟩ c').cell? ⟨g, 0, none⟩ = some a' ∧ (((w.setCell ⟨g, 0, none⟩ a').setCell ⟨g, 1, none⟩ b').setCell ⟨g, 2, none⟩ c').cell? ⟨g, 1, none⟩ = some b' ∧ (((w.setCell ⟨g, 0, none⟩ a').setCell ⟨g, 1, none⟩ b').setCell ⟨g, 2, none⟩ c').cell? ⟨g, 2, none⟩ = some c' := by
  obtain ⟨m0, m1, m2, -⟩ := Blk.cells3f (Blk.set3 (a' := a') (b' := b') (c' := c') h)
  exact ⟨m0, m1, m2⟩
theorem below_set3 {w wr : World} {g : Nat} {a b c : Value} (hb : Below w.heap.size w wr) (hg : w.heap.size ≤ g) : Below w.heap.size w (((wr.setCell ⟨g, 0, none⟩ a).setCell ⟨g, 1, none⟩ b).setCell ⟨g, 2, none⟩ c) :=
  ((hb.setCell hg _).setCell hg _).setCell hg _
theorem agg3 {a b a' b' : Int} {c c' : Bool} (h : (a, b, c) = (a', b', c')) : Ending.returned (.agg #[.int .i64 a, .int .i64 b, .bool c]) = .returned (.agg #[.int .i64 a', .int .i64 b', .bool c']) := by
  simp only [Prod.mk.injEq] at h
  rw [h.1, h.2.1, h.2.2]
theorem all_take_succ {α : Type} (f : α → Bool) (l : List α) (k : Nat) (hk : k < l.length) : (l.take (k + 1)).all f = ((l.take k).all f && f l[k]) := by
  rw [List.take_succ_eq_append_getElem hk, List.all_append]; simp
theorem all_false {α : Type} {f : α → Bool} {l : List α} {k : Nat} (hk : k < l.length) (h : f l[k] = false) : l.all f = false := List.all_eq_false.2 ⟨_, List.getElem_mem hk, by simp [h]⟩
/-- What stays round by round: the result's cells, the two, the candidates. -/
structure RefAt (w wr : World) (gT : Nat) (dr bdr : Int) (A : Option Addr) (c : List Cand) : Prop where
  r : Blk wr w.heap.size 42 #[.int .i64 0, .int .i64 0, .bool false]
  t : Blk wr gT 42 #[.int .i64 dr, .int .i64 bdr, .bool true]
  c : CandsAt wr wr.heap.size A c
  bel : Below w.heap.size w wr
theorem RefAt.below {w wr w' : World} {gT : Nat} {dr bdr : Int} {A : Option Addr} {c : List Cand} (h : RefAt w wr gT dr bdr A c) (hb : Below wr.heap.size wr w') : RefAt w w' gT dr bdr A c :=
  ⟨h.r.below hb h.r.lt, h.t.below hb h.t.lt, CandsAt.of h.c hb hb.size, h.bel.trans (hb.mono h.bel.size)⟩

set_option maxHeartbeats 8000000 in
set_option maxRecDepth 100000 in
theorem refAgreed_any (n : Nat) (A : Option Addr) (cap : Nat) (C : List Stt) (lan : Int) (w : World) (B : Nat) (hl : StatesAt w B A C) (hB : B ≤ w.heap.size) (hlen : C.length ≤ 1000) (hn : n = C.length) {r1 r2 : Int} {r3 : Bool} (hr : refAgreedC (candsOf C lan) = (r1, r2, r3)) :
    Calls Try.prog 21 #[.slice A n cap, .int .i64 lan] w fun r w' => r = .returned (.agg #[.int .i64 r1, .int .i64 r2, .bool r3]) ∧ Below w.heap.size w w' := by
  have hc : ∀ W, Below w.heap.size w W → _ := fun W hW => refCands_any n A cap C lan W w.heap.size ((hl.more hB).below hW) hW.size hlen hn
  have Hc := Lib.hid hc
  have hcl : (candsOf C lan).length ≤ 1000 := by rw [← candsRK_all]; exact Nat.le_trans (candsRK_len _ _ _) hlen
  clear hl hB hn hc
  generalize candsOf C lan = c at *
  by_cases h0 : c.length = 0
  · have hr' : (0, 0, true) = (r1, r2, r3) := by rw [← hr]; unfold refAgreedC; rw [if_pos h0]
    simp only [Prod.mk.injEq] at hr'
    obtain ⟨rfl, rfl, rfl⟩ := hr'
    have t0 : ((c.length : Int) == 0) = true := by simp [h0]
    clear hr h0
    go_enter Try.func21, Try.ntmps21
    go_wp2_with (go_at_call 64; (with_reducible refine Calls.mono (Hc.out _ ((Below.refl _ _).alloc (Nat.le_refl _) _)) ?_); rintro r w1 ⟨v, rfl, hown, hb1⟩; obtain ⟨A1, c1, rfl, hca⟩ := OwnC.shape hown; have hR := (Blk.new w 42 #[.int .i64 0, .int .i64 0, .bool false]).below hb1 (by simp); have hbw := ((Below.refl w.heap.size w).alloc (Nat.le_refl _) (.cells #[.int .i64 0, .int .i64 0, .bool false] 42)).trans (hb1.mono (by simp)); obtain ⟨z0, z1, z2, y0, y1, y2⟩ := Blk.cells3f hR; obtain ⟨o0, o1, o2, -⟩ := Blk.cells3f (Blk.set3 (a' := .int .i64 0) (b' := .int .i64 0) (c' := .bool true) hR); have Hb := Lib.hid hbw; clear hown hca hb1 hR hbw)
    refine bodyPost_ret (v := .agg #[.int .i64 0, .int .i64 0, .bool true]) (by simp [results, Try.results21, go_sem, o0, o1, o2]) rfl ⟨rfl, below_set3 Hb.out (Nat.le_refl _)⟩
  · have hpos : 0 < c.length := by omega
    have t0 : ((c.length : Int) == 0) = false := by rw [beq_eq_false_iff_ne]; omega
    obtain ⟨c0, hc0⟩ : ∃ c0, c[0] = c0 := ⟨_, rfl⟩
    have hhd : c.headD Cand.zero = c0 := by
      rw [← hc0]
      rcases c with _ | ⟨y, c⟩
      · simp at hpos
      · rfl
    rcases c0 with ⟨q1, q2, dr, bdr⟩
    have hcA : ∀ (w1 : World) (A : Option Addr), CandsAt w1 w1.heap.size A c → ∃ b o, A = some ⟨b, o, none⟩ ∧ w1.cell? ⟨b, o + 2, none⟩ = some (.int .i64 dr) ∧ w1.cell? ⟨b, o + 3, none⟩ = some (.int .i64 bdr) := fun w1 A h => by
      obtain ⟨b, o, e, _, _, _, e2, e3⟩ := CandsAt.at_ h 0 hpos
      rw [hc0] at e2 e3
      simp only [Nat.zero_mul, Nat.add_zero] at e2 e3
      exact ⟨b, o, e, e2, e3⟩
    have HcA := Lib.hid hcA
    have hr2 : (if c.all (okR c dr bdr) = false then (0, 0, false) else if badR c dr bdr = true then (0, 0, false) else (dr, bdr, true)) = (r1, r2, r3) := by
      rw [← hr]; unfold refAgreedC; rw [if_neg h0, hhd]
    have Hr := Lib.hid hr2
    have hlen2 : c.length ≤ 2 ^ 40 := by omega
    have Hlen2 := Lib.hid hlen2
    have hpl : (0 : Int) < (c.length : Int) := by omega
    clear hr hr2 hc0 hhd hcA hlen2 h0
    go_enter Try.func21, Try.ntmps21
    go_wp2_with (go_at_call 64; (with_reducible refine Calls.mono (Hc.out _ ((Below.refl _ _).alloc (Nat.le_refl _) _)) ?_); rintro r w1 ⟨v, rfl, hown, hb1⟩; obtain ⟨A1, c1, rfl, hca⟩ := OwnC.shape hown; obtain ⟨b1, o1, rfl, e2, e3⟩ := HcA.out _ _ hca; have hR := (Blk.new w 42 #[.int .i64 0, .int .i64 0, .bool false]).below hb1 (by simp); have hbw := ((Below.refl w.heap.size w).alloc (Nat.le_refl _) (.cells #[.int .i64 0, .int .i64 0, .bool false] 42)).trans (hb1.mono (by simp)); have HR := Lib.hid hR; have Hca := Lib.hid hca; have Hb := Lib.hid hbw; clear hown hca hb1 hR hbw)
    refine wp_region_held (S := fun W => W.cell? ⟨b1, o1 + 2, none⟩ = some (.int .i64 dr) ∧ W.cell? ⟨b1, o1 + 3, none⟩ = some (.int .i64 bdr)) (by kernel_rfl) ?_
    obtain ⟨wd, hwd⟩ : ∃ wd : World, ({ w1 with drawn := w1.drawn + 1 } : World) = wd := ⟨_, rfl⟩
    rw [hwd]
    have hbwd : Below w1.heap.size w1 wd := by rw [← hwd]; exact (Below.refl _ _).drew
    have hS : wd.cell? ⟨b1, o1 + 2, none⟩ = some (.int .i64 dr) ∧ wd.cell? ⟨b1, o1 + 3, none⟩ = some (.int .i64 bdr) := ⟨cellIn e2 hbwd, cellIn e3 hbwd⟩
    refine wpAnyH_take (i := 0) rfl (by kernel_rfl) (by kernel_rfl) (by kernel_rfl) (fun _ _ _ h => h) (Or.inl ⟨rfl, fun W hW => by (obtain ⟨g2, g3⟩ := (show W.cell? ⟨b1, o1 + 2, none⟩ = some (.int .i64 dr) ∧ W.cell? ⟨b1, o1 + 3, none⟩ = some (.int .i64 bdr) from hW)); go_simp; try with_reducible rfl⟩) hS ?_
    refine wpAnyH_take (i := 1) rfl (by kernel_rfl) (by kernel_rfl) (by kernel_rfl) (fun _ _ _ h => h) (Or.inl ⟨rfl, fun W hW => by (obtain ⟨g2, g3⟩ := (show W.cell? ⟨b1, o1 + 2, none⟩ = some (.int .i64 dr) ∧ W.cell? ⟨b1, o1 + 3, none⟩ = some (.int .i64 bdr) from hW)); go_simp; try with_reducible rfl⟩) hS ?_
    refine wpAnyH_take (i := 2) rfl (by kernel_rfl) (by kernel_rfl) (by kernel_rfl) (fun _ _ _ h => h) (Or.inl ⟨rfl, fun W hW => by (obtain ⟨g2, g3⟩ := (show W.cell? ⟨b1, o1 + 2, none⟩ = some (.int .i64 dr) ∧ W.cell? ⟨b1, o1 + 3, none⟩ = some (.int .i64 bdr) from hW)); go_simp; try with_reducible rfl⟩) hS ?_
    refine wpAnyH_take (i := 3) rfl (by kernel_rfl) (by kernel_rfl) (by kernel_rfl) (fun _ _ _ h => h) (Or.inl ⟨rfl, fun W hW => by (obtain ⟨g2, g3⟩ := (show W.cell? ⟨b1, o1 + 2, none⟩ = some (.int .i64 dr) ∧ W.cell? ⟨b1, o1 + 3, none⟩ = some (.int .i64 bdr) from hW)); go_simp; try with_reducible rfl⟩) hS ?_
    refine wpAnyH_take (i := 4) rfl (by kernel_rfl) (by kernel_rfl) (by kernel_rfl) (fun _ _ _ h => h) (Or.inl ⟨rfl, fun W hW => by (obtain ⟨g2, g3⟩ := (show W.cell? ⟨b1, o1 + 2, none⟩ = some (.int .i64 dr) ∧ W.cell? ⟨b1, o1 + 3, none⟩ = some (.int .i64 bdr) from hW)); go_simp; try with_reducible rfl⟩) hS ?_
    refine wpAnyH_take (i := 5) rfl (by kernel_rfl) (by kernel_rfl) (by kernel_rfl) (fun _ _ _ h => h) (Or.inl ⟨rfl, fun W hW => by (obtain ⟨g2, g3⟩ := (show W.cell? ⟨b1, o1 + 2, none⟩ = some (.int .i64 dr) ∧ W.cell? ⟨b1, o1 + 3, none⟩ = some (.int .i64 bdr) from hW)); go_simp; try with_reducible rfl⟩) hS ?_
    refine wpAnyH_take (i := 6) rfl (by kernel_rfl) (by kernel_rfl) (by kernel_rfl) (fun _ _ _ h => h) (Or.inl ⟨rfl, fun W hW => by (obtain ⟨g2, g3⟩ := (show W.cell? ⟨b1, o1 + 2, none⟩ = some (.int .i64 dr) ∧ W.cell? ⟨b1, o1 + 3, none⟩ = some (.int .i64 bdr) from hW)); go_simp; try with_reducible rfl⟩) hS ?_
    refine wpAnyH_take (i := 7) rfl (by kernel_rfl) (by kernel_rfl) (by kernel_rfl) (fun _ _ _ h => h) (Or.inl ⟨rfl, fun W hW => by (obtain ⟨g2, g3⟩ := (show W.cell? ⟨b1, o1 + 2, none⟩ = some (.int .i64 dr) ∧ W.cell? ⟨b1, o1 + 3, none⟩ = some (.int .i64 bdr) from hW)); go_simp; try with_reducible rfl⟩) hS ?_
    refine wpAnyH_take (i := 8) rfl (by kernel_rfl) (by kernel_rfl) (by kernel_rfl) (fun _ _ _ h => h) (Or.inl ⟨rfl, fun W hW => by (obtain ⟨g2, g3⟩ := (show W.cell? ⟨b1, o1 + 2, none⟩ = some (.int .i64 dr) ∧ W.cell? ⟨b1, o1 + 3, none⟩ = some (.int .i64 bdr) from hW)); go_simp; try with_reducible rfl⟩) hS ?_
    refine wpAnyH_all (rs := [9]) (by kernel_rfl) (by simp) fun i0 hi0 => ?_
    obtain rfl := List.mem_singleton.1 hi0
    refine wpOp_value (i := 9) rfl rfl (by go_simp; first | done | rfl | exact ⟨rfl, rfl⟩) ?_
    refine ⟨⟨cell_new hS.1 _, cell_new hS.2 _⟩, ?_⟩
    refine wpAnyH_all (rs := [10]) (by kernel_rfl) (by simp) fun i0 hi0 => ?_
    obtain rfl := List.mem_singleton.1 hi0
    refine wpOp_skip (i := 10) rfl rfl (by go_simp; first | done | rfl | exact ⟨rfl, rfl⟩) ?_
    refine ⟨⟨cell_new hS.1 _, cell_new hS.2 _⟩, ?_⟩
    refine wpAnyH_done (by kernel_rfl) ?_ _
    obtain ⟨w4, hW4, hR4⟩ : ∃ w4, wd.alloc (.cells #[.int .i64 dr, .int .i64 bdr, .bool true] 42) = w4 ∧ RefAt w w4 wd.heap.size dr bdr (some ⟨b1, o1, none⟩) c :=
      ⟨_, rfl, ⟨(HR.out.below hbwd HR.out.lt).alloc _, Blk.new _ _ _, CandsAt.of (CandsAt.of Hca.out hbwd hbwd.size) ((Below.refl _ _).alloc (Nat.le_refl _) _) (by simp), (Hb.out.trans (hbwd.mono Hb.out.size)).alloc (Nat.le_trans Hb.out.size hbwd.size) _⟩⟩
    have HR4 := Lib.hid hR4
    clear hwd hbwd hS e2 e3 hR4
    go_simp
    go_wp2
    go_loopw [7] (fun i wr => ∃ k : Nat, k ≤ c.length ∧ i = .int .i64 k ∧ (c.take k).all (okR c dr bdr) = true ∧ RefAt w wr wd.heap.size dr bdr (some ⟨b1, o1, none⟩) c) (fun i _ => c.length - (intOf i).toNat)
    case atStart => exact ⟨0, Nat.zero_le _, rfl, by simp, HR4.out⟩
    case round =>
      obtain ⟨k, hk, rfl, hall, href⟩ := hrel
      clear HR4
      by_cases hlt : k < c.length
      · obtain ⟨bb, oo, e, -, x0, x1, x2, x3⟩ := CandsAt.at_ href.c k hlt
        injection e with e
        injection e with ea eb
        subst ea eb
        have hsucc := all_take_succ (okR c dr bdr) c k hlt
        have hfail := all_false (f := okR c dr bdr) hlt
        obtain ⟨x, hx⟩ : ∃ x, c[k] = x := ⟨_, rfl⟩
        rw [hx] at x0 x1 x2 x3 hsucc hfail
        clear hx
        rcases x with ⟨xi, xp, xd, xb⟩
        obtain ⟨E, hE⟩ : ∃ E, refElect xi c = E := ⟨_, rfl⟩
        rcases E with ⟨e1, e2⟩
        have hok := okR_cases (dr := dr) (bdr := bdr) (x := ⟨xi, xp, xd, xb⟩) hE
        simp only at x0 x1 x2 x3 hok
        have hkl : (k : Int) < (c.length : Int) := by omega
        have HE := Lib.hid hE
        have Hall := Lib.hid hall
        have Href := Lib.hid href
        have Hsucc := Lib.hid hsucc
        have Hfail := Lib.hid hfail
        have Hok := Lib.hid hok
        have Hx2 := Lib.hid x2
        have Hx3 := Lib.hid x3
        clear hE hall href hsucc hfail hok x1 x2 x3
        go_wp2_with (go_at_call 65; (with_reducible refine Calls.mono (refElect_v Href.out.c (Nat.le_refl _) Hlen2.out rfl HE.out) ?_); rintro r w5 ⟨rfl, hb5⟩; obtain ⟨w6, hW6, hb6, hE6⟩ : ∃ w6, w5.alloc (.cells #[.int .i64 e1, .int .i64 e2] 132) = w6 ∧ Below wr.heap.size wr w6 ∧ Blk w6 w5.heap.size 132 #[.int .i64 e1, .int .i64 e2] := ⟨_, rfl, hb5.alloc hb5.size _, Blk.new _ _ _⟩; have Hb6 := Lib.hid hb6; have HE6 := Lib.hid hE6; clear hb5 hb6 hE6 x0)
        have href6 := Href.out.below Hb6.out
        obtain ⟨t0', t1', -⟩ := Blk.cells3f href6.t
        obtain ⟨u0, u1, -⟩ := Blk.cells2 HE6.out
        have x2' := cellIn Hx2.out Hb6.out
        have x3' := cellIn Hx3.out Hb6.out
        have Href6 := Lib.hid href6
        clear href6 hW6
        rcases Hok.out with ⟨s1, ho⟩ | ⟨s1, s2, ho⟩ | ⟨s1, s2, s3, ho⟩ | ⟨s1, s2, s3, s4, ho⟩ | ⟨s1, s2, s3, s4, ho⟩
        all_goals
          have Ho := Lib.hid ho
          clear ho
          go_quiet (fail)
          have hrefq := Href6.out.below (below_drewN (Below.refl _ _) nq)
          obtain ⟨z0, z1, z2, y0, y1, y2⟩ := Blk.cells3f hrefq.r
          obtain ⟨p0, p1, p2, -⟩ := Blk.cells3f (Blk.set3 (a' := .int .i64 0) (b' := .int .i64 0) (c' := .bool false) hrefq.r)
          have Hrefq := Lib.hid hrefq
          clear hrefq t0' t1' u0 u1 x2' x3'
          go_wp2
        iterate 4
          · refine bodyPost_ret (v := .agg #[.int .i64 0, .int .i64 0, .bool false]) (by simp [results, Try.results21, go_sem, p0, p1, p2]) rfl ⟨?_, below_set3 Hrefq.out.bel (Nat.le_refl _)⟩
            have h := Hr.out
            rw [if_pos (Hfail.out Ho.out)] at h
            exact agg3 h
        go_roundw
        case measure => simp [intOf]; omega
        case rel => exact ⟨k + 1, hlt, by go_num, by rw [Hsucc.out, Hall.out, Ho.out]; rfl, Hrefq.out⟩
      · have hkk : k = c.length := by omega
        subst hkk
        rw [List.take_length] at hall
        have h := Hr.out
        rw [if_neg (by rw [hall]; simp)] at h
        obtain ⟨l0, l1, l2, hl0, hl1, hl2, hcs⟩ := badR_cases c dr bdr
        have Hcs := Lib.hid hcs
        have Hh := Lib.hid h
        have Href := Lib.hid href
        clear hall h href hcs Hr
        rcases Hcs.out with ⟨s1, rfl, hb⟩ | ⟨s1, rfl, hb⟩ | ⟨⟨s1, rfl⟩ | ⟨s1, rfl⟩, ⟨s2, rfl, hb⟩ | ⟨s2, hb⟩ | ⟨s2, rfl, hb⟩⟩
        all_goals
          have h2 := Hh.out
          first
            | rw [if_pos hb] at h2
            | rw [if_neg (by rw [hb]; simp)] at h2
          have Hh2 := Lib.hid h2
          clear h2 hb
          try (obtain rfl := eq_zero s1; clear hl1)
          try (obtain rfl := eq_zero s2; clear hl2)
          try first
            | have s1' := bne_t s1
            | have s1' := bne_f s1
          try first
            | have s2' := bne_t s2
            | have s2' := bne_f s2
          obtain ⟨t0', t1', t2', -⟩ := Blk.cells3f Href.out.t
          go_wp2_with (go_at_call 66; (with_reducible refine Calls.mono (refMay_any _ _ _ c _ _ _ Href.out.c (Nat.le_refl _) hcl rfl rfl) ?_); rintro r w2 ⟨rfl, hb2⟩; have href2 := Href.out.below hb2; obtain ⟨t0', t1', t2', -⟩ := Blk.cells3f href2.t; obtain ⟨z0, z1, z2, y0, y1, y2⟩ := Blk.cells3f href2.r; obtain ⟨p0, p1, p2, -⟩ := Blk.cells3f (Blk.set3 (a' := .int .i64 0) (b' := .int .i64 0) (c' := .bool false) href2.r); obtain ⟨m0, m1, m2⟩ := set3_of href2.t href2.r; have Href := Lib.hid href2; clear hb2 href2)
          first
            | (refine bodyPost_ret (v := .agg #[.int .i64 0, .int .i64 0, .bool false]) (by simp [results, Try.results21, go_sem, p0, p1, p2]) rfl ⟨agg3 Hh2.out, below_set3 Href.out.bel (Nat.le_refl _)⟩)
            | (refine bodyPost_ret (v := .agg #[.int .i64 _, .int .i64 _, .bool true]) (by simp [results, Try.results21, go_sem, m0, m1, m2]; first | done | rfl | exact ⟨rfl, rfl⟩) rfl ⟨agg3 Hh2.out, below_set3 Href.out.bel (Nat.le_refl _)⟩)

end Go.Proofs.Ytfhikkmgclkcdaa
