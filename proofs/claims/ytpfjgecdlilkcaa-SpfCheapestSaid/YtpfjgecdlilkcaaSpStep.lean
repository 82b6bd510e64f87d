/-
  Layer 21: one edge from a vertex that is done: the program's way.
-/
import Derived.Test.YtpfjgecdlilkcaaSpHop
import Derived.Test.YtpfjgecdlilkcaaSpFlt
namespace Go.Proofs.Ytpfjgecdlilkcaa
open Go.RowKit

/-- what an edge does to what is found -/
structure StepF (r : Vx) (F F' : Fnd) (e : Ed) (p : Pl) : Prop where
  tab : StepT r (tabF F) (tabF F') e
  oth : ∀ v, v ≠ e.dst → getF v F' = getF v F
  dst : ∃ y', getF e.dst F' = some y' ∧ ((∃ y, getF e.dst F = some y ∧ y'.done = y.done) ∨ (y'.done = false ∧ ∀ q, getF e.dst F = some q → p.a.c + e.cost.toNat < q.pl.a.c))
section
variable {r : Vx} {F : Fnd} {e : Ed} {x y : PlW}
theorem tabF_some {v : Vx} (h : getF v F = some x) : tabF F v = some x.pl := by unfold tabF; rw [h]; rfl
theorem stepF_gt (hx : getF e.src F = some x) (hy : getF e.dst F = some y) (h : y.pl.a.c < x.pl.a.c + e.cost.toNat) : StepF r F F e x.pl :=
  ⟨⟨_, tabF_some hx, fun _ _ => rfl, .inl ⟨_, tabF_some hy, h, tabF_some hy⟩⟩, fun _ _ => rfl, ⟨y, hy, .inl ⟨y, hy, rfl⟩⟩⟩
theorem stepF_eq {F' : Fnd} (hx : getF e.src F = some x) (hy : getF e.dst F = some y) (h : y.pl.a.c = x.pl.a.c + e.cost.toNat) {n : List Hp} (hj : JoinH y.pl.next (extH r e x.pl.next) n) {y' : PlW} (h1 : y'.pl = ⟨⟨y.pl.a.c, min (x.pl.a.h + hopN e) y.pl.a.h⟩, n⟩) (h2 : y'.done = y.done) (hF' : ∀ v, getF v F' = if v = e.dst then some y' else getF v F) : StepF r F F' e x.pl := by
  have ht : ∀ v, tabF F' v = if v = e.dst then some y'.pl else tabF F v := by
    intro v
    unfold tabF
    rw [hF']
    split <;> rfl
  exact ⟨⟨_, tabF_some hx, fun v hv => by rw [ht, if_neg hv], .inr (.inl ⟨_, n, tabF_some hy, h, hj, by rw [ht, if_pos rfl, h1]⟩)⟩, fun v hv => by rw [hF', if_neg hv], ⟨y', by rw [hF', if_pos rfl], .inl ⟨y, hy, h2⟩⟩⟩
theorem stepF_new (hx : getF e.src F = some x) (h : ∀ q, getF e.dst F = some q → x.pl.a.c + e.cost.toNat < q.pl.a.c) {n : List Hp} (hj : JoinH [] (extH r e x.pl.next) n) {y' : PlW} (h1 : y'.pl = ⟨stepV x.pl.a e, n⟩) (h2 : y'.done = false) : StepF r F (setF e.dst y' F) e x.pl := by
  refine ⟨⟨_, tabF_some hx, fun v hv => by rw [tabF_set, if_neg hv], .inr (.inr ⟨n, fun q hq => ?_, hj, by rw [tabF_set, if_pos rfl, h1]⟩)⟩, fun v hv => by rw [getF_set, if_neg hv], ⟨y', by rw [getF_set, if_pos rfl], .inr ⟨h2, h⟩⟩⟩
  unfold tabF at hq
  obtain ⟨z, hz, rfl⟩ := Option.map_eq_some_iff.1 hq
  exact h z hz
end
theorem flt_one : flt 1 = 4607182418800017408 := by rw [flt_eq 1 (by omega)]; rfl
theorem own_ne {α : Type} {e t : TypeId} {C g B : Nat} {cells : α → List Value} {w : World} {v : Value} {L : List α} {cs : Array Value} (ho : OwnR e C cells w B v L) (hb : Blk w g t cs) (hne : e ≠ t) : v.ownBlock ≠ some g := by
  intro e'
  rcases ho.2 with ⟨g', -⟩ | ⟨g', cap, cur, h1, h2, h3, h4⟩
  · rw [g'] at e'; cases e'
  · rw [h1] at e'
    have e2 : g' = g := by injection e'
    rw [e2] at h3
    have h6 : w.heap[g]? = some (.cells cs t (0, 0)) := hb
    rw [h6] at h3
    injection h3 with h3
    injection h3 with _ h3
    exact hne h3.symm
theorem blk_ne_map {κ : Type} {enc : κ → Value} {w : World} {g b : Nat} {t : TypeId} {cs : Array Value} {L : List (κ × Value)} (hb : Blk w g t cs) (hm : MapAt enc w b L) : g ≠ b := by
  rintro rfl
  obtain ⟨es, clock, h5, -⟩ := hm
  have h6 : w.heap[g]? = some (.cells cs t (0, 0)) := hb
  rw [h6] at h5
  cases h5
theorem grown_setC (w : World) (g i : Nat) (u : Value) : w.grownBy (w.setCell ⟨g, i, none⟩ u) (some g) := ⟨rfl, rfl, rfl, by simp, fun k _ hk => heap_setCell_other w ⟨g, i, none⟩ k u (fun e => hk (by simp [e]))⟩
theorem rowsH_nil {w : World} {B : Nat} (A : Option Addr) : RowsH w B A [] := fun h => absurd h (by simp)
set_option maxHeartbeats 16000000 in
set_option maxRecDepth 100000 in
theorem step_any (e1 e2 e3 e4 ri : Int) (cn : Nat) (ps be bf : Nat) (F : Fnd) (B : Nat) (w : World) (hk : Blk w ps 102 #[.int .i64 1, .int .i64 ri, .map (some be), .map (some bf)]) (hF : FndAt w B bf F) (hB : B ≤ w.heap.size)
    (hne : (⟨e1, e2⟩ : Vx) ≠ ⟨e3, e4⟩) (hcn : cn ≤ 100) (x : PlW) (hx : getF ⟨e1, e2⟩ F = some x) (hxs : x.pl.a.c ≤ 100000 ∧ x.pl.a.h ≤ 1000 ∧ x.pl.next.length ≤ 2 ^ 16) (hys : ∀ y, getF ⟨e3, e4⟩ F = some y → y.pl.a.c ≤ 100000 ∧ y.pl.a.h ≤ 1000 ∧ y.pl.next.length ≤ 2 ^ 16) :
    Calls Try.prog 53 #[.pointer (some ⟨ps, 0, none⟩), .agg #[.int .i64 e1, .int .i64 e2, .int .i64 e3, .int .i64 e4, .int .i64 cn]] w fun r w' => r = .returned (.tuple #[]) ∧ ∃ F', StepF ⟨1, ri⟩ F F' ⟨e1, e2, e3, e4, cn⟩ x.pl ∧ FndAt w' B bf F' ∧ Mv B bf w w' := by
  obtain ⟨p, A, c, ⟨⟨ac, ah⟩, pn⟩, pd⟩ := x
  simp only at hxs
  have hb0 := below_new w (.cells #[.int .i64 e1, .int .i64 e2, .int .i64 e3, .int .i64 e4, .int .i64 cn] 42)
  have hk0 := Blk.new w 42 #[.int .i64 e1, .int .i64 e2, .int .i64 e3, .int .i64 e4, .int .i64 cn]
  obtain ⟨w0, hw0⟩ : ∃ w0, w.alloc (.cells #[.int .i64 e1, .int .i64 e2, .int .i64 e3, .int .i64 e4, .int .i64 cn] 42) = w0 := ⟨_, rfl⟩
  rw [hw0] at hb0 hk0
  have hks := hk.below hb0 hk.lt
  have hF0 := hF.below hb0
  obtain ⟨s0, s1, s2, s3, -⟩ := hks.cells4
  obtain ⟨a0, a1, a2, a3, a4, -⟩ := hk0.cells5
  obtain ⟨hpb, -, -⟩ := hF0.get hx
  unfold PlW.cells at hpb
  simp only at hpb
  obtain ⟨b0, b1, b2⟩ := blk3 hpb
  have fx := flt_int cn
  have hlk := fun n => (hF0.map.drewN n).look_run keyVx Try.underlying100 (zeroPl _) ⟨e1, e2⟩ false
  rw [show getL (⟨e1, e2⟩ : Vx) (valsF F) = some (.pointer (some ⟨p, 0, none⟩)) by rw [getL_vals, hx]; rfl] at hlk
  simp only [Bool.false_eq_true, if_false, Vx.enc, Option.getD] at hlk
  have hlq := fun n => (hF0.map.drewN n).look_run keyVx Try.underlying100 (zeroPl _) ⟨e3, e4⟩ false
  rw [getL_vals] at hlq
  obtain ⟨hb', hhb⟩ : ∃ hb', flt (hopN ⟨e1, e2, e3, e4, cn⟩) = hb' := ⟨_, rfl⟩
  have hadd := fun T w => cplxAdd T ac ah cn (hopN ⟨e1, e2, e3, e4, cn⟩) (by omega) (by unfold hopN; split <;> omega) w
  rw [hhb] at hadd
  obtain ⟨hn, hhn⟩ : ∃ hn, hopN ⟨e1, e2, e3, e4, cn⟩ = hn := ⟨_, rfl⟩
  rw [hhn] at hadd
  have hn1 : hn ≤ 1 := by rw [← hhn]; unfold hopN; split <;> omega
  have hby : ∀ T w, e3 = 2 → (binOp .add T (.complex .f64 (flt cn) 0) (.complex .f64 0 4607182418800017408)).run Try.prog w = .ok (.complex .f64 (flt cn) hb') w := by
    intro T w h
    have h1 := cplxAdd T cn 0 0 1 (by omega) (by omega) w
    rw [flt_zero0, flt_one, Nat.add_zero] at h1
    rw [h1, ← hhb]
    simp [hopN, h, flt_one]
  have hcase : (∃ q : Bool, q = true ∧ (e3 == 2) = q ∧ (∀ T w, (binOp .add T (.complex .f64 (flt cn) 0) (.complex .f64 0 4607182418800017408)).run Try.prog w = .ok (.complex .f64 (flt cn) hb') w)) ∨ (∃ q : Bool, q = false ∧ (e3 == 2) = q ∧ hb' = 0) := by
    by_cases h : e3 = 2
    · exact .inl ⟨true, rfl, by simp [h], fun T w => hby T w h⟩
    · refine .inr ⟨false, rfl, by simp [h], ?_⟩
      rw [← hhb]
      simp [hopN, h, flt_zero0]
  have hst : stepV ⟨ac, ah⟩ ⟨e1, e2, e3, e4, cn⟩ = ⟨ac + cn, ah + hn⟩ := by unfold stepV; rw [hhn]; rfl
  have Hb0 := Lib.hid hb0
  have HK0 := Lib.hid hk0
  have HKs := Lib.hid hks
  have HF0 := Lib.hid hF0
  have HF := Lib.hid hF
  have HB := Lib.hid hB
  have Hx := Lib.hid hx
  have Hxs := Lib.hid hxs
  have Hys := Lib.hid hys
  have Hne := Lib.hid hne
  have Hcn := Lib.hid hcn
  have Hhn := Lib.hid hhn
  have Hn1 := Lib.hid hn1
  have Hst := Lib.hid hst
  have HH := Lib.hid (fun W (hW : Below w0.heap.size w0 W) => hops_any e1 e2 e3 e4 cn ri ps be bf F B W (hks.below hW hks.lt) (hF0.below hW) pn (fun _ => ⟨_, hx, rfl⟩) (by omega))
  clear hk hF hB hne hx hxs hys hb0 hk0 hks hF0 hpb hhb hhn hcn hn1 hby hst
  cases hgy : getF (⟨e3, e4⟩ : Vx) F with
  | none =>
    rw [hgy] at hlq
    simp only [Bool.false_eq_true, if_false, Vx.enc, Option.map, Option.getD] at hlq
    have Hgy := Lib.hid hgy
    clear hgy
    rcases hcase with ⟨q, rfl, hcase, hby⟩ | ⟨q, rfl, hcase, rfl⟩
    all_goals
      go_enter Try.func53, Try.ntmps53
      go_wp2
      go_quiet (fail)
      go_wp2
      go_quiet (fail)
      go_wp2
      clear hlk hlq s0 s1 s2 s3 a0 a1 a2 a3 a4 b0 b1 b2 hcase fx hadd
      refine wp_region_F (F := fun W => Below w0.heap.size w0 W) (n := 13) (m := 14) (s := #[false, false, false, false, false, false, false, false, false, false, false, false, false, false]) (by kernel_rfl) (by kernel_rfl) (by kernel_rfl) ?_
      intro wd hwd
      have hF : Below w0.heap.size w0 wd := by rw [hwd.out]; exact Below.drew (below_drewN (Below.refl _ _) _)
      clear hwd
      have hwdF := hF
      refine F_take (i := 0) (d := some 49) (by kernel_rfl) (by kernel_rfl) (by decide) (s' := #[true, false, false, false, false, false, false, false, false, false, false, false, false, false]) (by kernel_rfl) rfl rfl (by kernel_rfl) (by kernel_rfl) (by kernel_rfl) (fun _ _ _ h => h) (Or.inl ⟨by kernel_rfl, fun W hW => by go_simp; try with_reducible rfl⟩) hF ?_
      go_frame
      refine F_take (i := 1) (d := some 50) (by kernel_rfl) (by kernel_rfl) (by decide) (s' := #[true, true, false, false, false, false, false, false, false, false, false, false, false, false]) (by kernel_rfl) rfl rfl (by kernel_rfl) (by kernel_rfl) (by kernel_rfl) (fun _ _ _ h => h) (Or.inl ⟨by kernel_rfl, fun W hW => by go_simp; try with_reducible rfl⟩) hF ?_
      go_frame
      refine F_take (i := 2) (d := some 51) (by kernel_rfl) (by kernel_rfl) (by decide) (s' := #[true, true, true, false, false, false, false, false, false, false, false, false, false, false]) (by kernel_rfl) rfl rfl (by kernel_rfl) (by kernel_rfl) (by kernel_rfl) (fun _ _ _ h => h) (Or.inl ⟨by kernel_rfl, fun W hW => by go_simp; try with_reducible rfl⟩) hF ?_
      go_frame
      refine F_take (i := 3) (d := some 52) (by kernel_rfl) (by kernel_rfl) (by decide) (s' := #[true, true, true, true, false, false, false, false, false, false, false, false, false, false]) (by kernel_rfl) rfl rfl (by kernel_rfl) (by kernel_rfl) (by kernel_rfl) (fun _ _ _ h => h) (Or.inl ⟨by kernel_rfl, fun W hW => by obtain ⟨s0, s1, s2, s3, -⟩ := (HKs.out.below hW HKs.out.lt).cells4; go_simp; try with_reducible rfl⟩) hF ?_
      go_frame
      refine F_take (i := 4) (d := some 53) (by kernel_rfl) (by kernel_rfl) (by decide) (s' := #[true, true, true, true, true, false, false, false, false, false, false, false, false, false]) (by kernel_rfl) rfl rfl (by kernel_rfl) (by kernel_rfl) (by kernel_rfl) (fun _ _ _ h => h) (Or.inl ⟨by kernel_rfl, fun W hW => by go_simp; try with_reducible rfl⟩) hF ?_
      go_frame
      refine F_take (i := 5) (d := some 54) (by kernel_rfl) (by kernel_rfl) (by decide) (s' := #[true, true, true, true, true, true, false, false, false, false, false, false, false, false]) (by kernel_rfl) rfl rfl (by kernel_rfl) (by kernel_rfl) (by kernel_rfl) (fun _ _ _ h => h) (Or.inl ⟨by kernel_rfl, fun W hW => by obtain ⟨a0, a1, a2, a3, a4, -⟩ := (HK0.out.below hW HK0.out.lt).cells5; go_simp; try with_reducible rfl⟩) hF ?_
      go_frame
      refine F_take (i := 6) (d := some 55) (by kernel_rfl) (by kernel_rfl) (by decide) (s' := #[true, true, true, true, true, true, true, false, false, false, false, false, false, false]) (by kernel_rfl) rfl rfl (by kernel_rfl) (by kernel_rfl) (by kernel_rfl) (fun _ _ _ h => h) (Or.inl ⟨by kernel_rfl, fun W hW => by go_simp; try with_reducible rfl⟩) hF ?_
      go_frame
      refine F_take (i := 7) (d := some 56) (by kernel_rfl) (by kernel_rfl) (by decide) (s' := #[true, true, true, true, true, true, true, true, false, false, false, false, false, false]) (by kernel_rfl) rfl rfl (by kernel_rfl) (by kernel_rfl) (by kernel_rfl) (fun _ _ _ h => h) (Or.inl ⟨by kernel_rfl, fun W hW => by go_simp; try with_reducible rfl⟩) hF ?_
      go_frame
      refine F_take (i := 8) (d := some 57) (by kernel_rfl) (by kernel_rfl) (by decide) (s' := #[true, true, true, true, true, true, true, true, true, false, false, false, false, false]) (by kernel_rfl) rfl rfl (by kernel_rfl) (by kernel_rfl) (by kernel_rfl) (fun _ _ _ h => h) (Or.inl ⟨by kernel_rfl, fun W hW => by obtain ⟨a0, a1, a2, a3, a4, -⟩ := (HK0.out.below hW HK0.out.lt).cells5; go_simp; try with_reducible rfl⟩) hF ?_
      go_frame
      refine F_one (i := 9) (s' := #[true, true, true, true, true, true, true, true, true, true, false, false, false, false]) (by kernel_rfl) (by kernel_rfl) (wpOp_enterL (i := 9) (d := some 58) (f := 75) (args := #[.pointer (some ⟨ps, 0, none⟩), .agg #[.int .i64 e1, .int .i64 e2, .int .i64 e3, .int .i64 e4, .int .i64 cn]]) rfl rfl (by kernel_rfl) (by go_simp) ((HH.out wd hF).mono ?_))
      rintro r w7 ⟨⟨v7, rfl, ho7⟩, hb7⟩
      obtain ⟨A7, c7, hv7⟩ := ho7.shape
      subst hv7
      have hF := below_trans hF hF.size hb7
      have hex := ext_len ⟨1, ri⟩ ⟨e1, e2, e3, e4, cn⟩ pn
      have hr7 := (OwnR.rows (C := 2) (cells := Hp.cells) (fun _ => rfl) ho7).2
      obtain ⟨n7, hn7⟩ : ∃ n, (extH ⟨1, ri⟩ ⟨e1, e2, e3, e4, cn⟩ pn).length = n := ⟨_, rfl⟩
      rw [hn7]
      refine ⟨_, rfl, fun _ => hF, ?_⟩
      go_frame
      refine F_one (i := 10) (s' := #[true, true, true, true, true, true, true, true, true, true, true, false, false, false]) (by kernel_rfl) (by kernel_rfl) (wpOp_enterL (i := 10) (d := some 59) (f := 74) (args := #[.slice none 0 0, .slice A7 n7 c7]) rfl rfl (by kernel_rfl) (by go_simp) ((joined_any none A7 0 c7 [] (extH ⟨1, ri⟩ ⟨e1, e2, e3, e4, cn⟩ pn) w7 0 n7 rfl hn7.symm (rowsH_nil _) hr7 (by simp) (by have := Hxs.out; omega)).mono ?_))
      rintro r w8 ⟨⟨v8, nx, rfl, ho8, hjn⟩, hb8⟩
      obtain ⟨A9, c9, hv8⟩ := ho8.shape
      subst hv8
      have hF := below_trans hF hF.size hb8
      obtain ⟨nn, hnn⟩ : ∃ n, nx.length = n := ⟨_, rfl⟩
      rw [hnn] at ho8 ⊢
      refine ⟨_, rfl, fun _ => hF, ?_⟩
      go_frame
      refine F_take (i := 11) (d := some 60) (by kernel_rfl) (by kernel_rfl) (by decide) (s' := #[true, true, true, true, true, true, true, true, true, true, true, true, false, false]) (by kernel_rfl) rfl rfl (by kernel_rfl) (by kernel_rfl) (by kernel_rfl) (fun _ _ _ h => h) (Or.inl ⟨by kernel_rfl, fun W hW => by go_simp; try with_reducible rfl⟩) hF ?_
      go_frame
      refine F_one (i := 12) (s' := #[true, true, true, true, true, true, true, true, true, true, true, true, true, false]) (by kernel_rfl) (by kernel_rfl) ?_
      obtain ⟨w9, hw9⟩ : ∃ v, w8.alloc (.cells #[.complex .f64 (flt (ac + cn)) (flt (ah + hn)), .slice A9 nn c9, .bool false] 107) = v := ⟨_, rfl⟩
      have hb9 := below_new w8 (.cells #[.complex .f64 (flt (ac + cn)) (flt (ah + hn)), .slice A9 nn c9, .bool false] 107)
      have k9 := Blk.new w8 107 #[.complex .f64 (flt (ac + cn)) (flt (ah + hn)), .slice A9 nn c9, .bool false]
      obtain ⟨px, hpx⟩ : ∃ p, w8.heap.size = p := ⟨_, rfl⟩
      rw [hw9] at hb9 k9
      rw [hpx] at k9
      have hszx : w.heap.size ≤ px := by have := hF.size; have := Hb0.out.size; omega
      have hF := below_trans hF hF.size hb9
      refine wpOp_valueL (i := 12) (d := some 61) (w' := w9) (v := .pointer (some ⟨px, 0, none⟩)) rfl rfl (by kernel_rfl) (by go_simp) ⟨fun _ => hF, ?_⟩
      go_frame
      have hb09 := below_trans Hb0.out Hb0.out.size hF
      have hm9 := (HF.out.below hb09).map
      obtain ⟨wx, hrun, hmx, hgx, -⟩ := hm9.update_run (P := Try.prog) keyVx Try.underlying100 ⟨e3, e4⟩ (.pointer (some ⟨px, 0, none⟩))
      simp only [Vx.enc] at hrun
      refine F_one (i := 13) (s' := #[true, true, true, true, true, true, true, true, true, true, true, true, true, true]) (by kernel_rfl) (by kernel_rfl) (wpOp_skipL (i := 13) (w' := wx) rfl rfl (by kernel_rfl) (by go_simp) ⟨fun h => absurd h (by decide), ?_⟩)
      go_frame
      refine F_done (by kernel_rfl) ?_ _
      have ho9 := (ho8.lower (B' := B) (by have := hF.size; have := HB.out; have := Hb0.out.size; have := hb8.size; have h9 := below_trans Hb0.out Hb0.out.size (below_trans hwdF hwdF.size hb7); have := h9.size; omega)).below hb9
      have hnew := stepF_new (r := ⟨1, ri⟩) (e := ⟨e1, e2, e3, e4, cn⟩) Hx.out (fun q hq => by rw [show getF (⟨e1, e2, e3, e4, (cn : Int)⟩ : Ed).dst F = none from Hgy.out] at hq; cases hq) hjn (y' := ⟨px, A9, c9, ⟨⟨ac + cn, ah + hn⟩, nx⟩, false⟩) (by simp only; rw [Hst.out]) rfl
      have hput := HF.out.put (v := ⟨e3, e4⟩) (y := ⟨px, A9, c9, ⟨⟨ac + cn, ah + hn⟩, nx⟩, false⟩) hb09 hszx (by unfold PlW.cells; simp only; rw [hnn]; exact k9) (by unfold PlW.nv; simp only; rw [hnn]; exact ho9) HB.out hmx hgx
      have Hput := Lib.hid hput
      have Hnew := Lib.hid hnew
      clear hput hnew hmx hgx hrun ho9 hm9 hb09 hF hszx k9 hb9 hw9 hpx hnn ho8 hjn hb8 hn7 hr7 hex ho7 hb7 hwdF
      go_wp2
      go_end0
      exact ⟨rfl, _, Hnew.out, Hput.out.1, Hput.out.2⟩
  | some y =>
    obtain ⟨yp, yA, yc, ⟨⟨bc, bh⟩, yn⟩, yd⟩ := y
    have hyy := Hys.out _ hgy
    simp only at hyy
    rw [hgy] at hlq
    simp only [Bool.false_eq_true, if_false, Vx.enc, Option.map, Option.getD, PlW.val] at hlq
    obtain ⟨hyb, -, hyo⟩ := HF0.out.get hgy
    unfold PlW.cells at hyb
    simp only at hyb
    obtain ⟨d0, d1, d2⟩ := blk3 hyb
    have Hyy := Lib.hid hyy
    have Hgy := Lib.hid hgy
    rcases Nat.lt_trichotomy (ac + cn) bc with hlt | heq | hgt
    · have ho : FloatKind.f64.format.order (flt (ac + cn)) (flt bc) = some .lt := by
        rw [fltOrder _ _ (by have := Hxs.out; have := Hcn.out; omega) (by omega), Nat.compare_eq_lt.2 hlt]
      have Hlt := Lib.hid hlt
      clear hgy hyy hyb hyo hlt
      rcases hcase with ⟨q, rfl, hcase, hby⟩ | ⟨q, rfl, hcase, rfl⟩
      all_goals
        go_enter Try.func53, Try.ntmps53
        go_wp2
        go_quiet (fail)
        go_wp2
        go_quiet (fail)
        go_wp2
        clear hlk hlq s0 s1 s2 s3 a0 a1 a2 a3 a4 b0 b1 b2 d0 d1 d2 hcase fx hadd ho
        refine wp_region_F (F := fun W => Below w0.heap.size w0 W) (n := 13) (m := 14) (s := #[false, false, false, false, false, false, false, false, false, false, false, false, false, false]) (by kernel_rfl) (by kernel_rfl) (by kernel_rfl) ?_
        intro wd hwd
        have hF : Below w0.heap.size w0 wd := by rw [hwd.out]; exact Below.drew (below_drewN (Below.refl _ _) _)
        clear hwd
        have hwdF := hF
        refine F_take (i := 0) (d := some 49) (by kernel_rfl) (by kernel_rfl) (by decide) (s' := #[true, false, false, false, false, false, false, false, false, false, false, false, false, false]) (by kernel_rfl) rfl rfl (by kernel_rfl) (by kernel_rfl) (by kernel_rfl) (fun _ _ _ h => h) (Or.inl ⟨by kernel_rfl, fun W hW => by go_simp; try with_reducible rfl⟩) hF ?_
        go_frame
        refine F_take (i := 1) (d := some 50) (by kernel_rfl) (by kernel_rfl) (by decide) (s' := #[true, true, false, false, false, false, false, false, false, false, false, false, false, false]) (by kernel_rfl) rfl rfl (by kernel_rfl) (by kernel_rfl) (by kernel_rfl) (fun _ _ _ h => h) (Or.inl ⟨by kernel_rfl, fun W hW => by go_simp; try with_reducible rfl⟩) hF ?_
        go_frame
        refine F_take (i := 2) (d := some 51) (by kernel_rfl) (by kernel_rfl) (by decide) (s' := #[true, true, true, false, false, false, false, false, false, false, false, false, false, false]) (by kernel_rfl) rfl rfl (by kernel_rfl) (by kernel_rfl) (by kernel_rfl) (fun _ _ _ h => h) (Or.inl ⟨by kernel_rfl, fun W hW => by go_simp; try with_reducible rfl⟩) hF ?_
        go_frame
        refine F_take (i := 3) (d := some 52) (by kernel_rfl) (by kernel_rfl) (by decide) (s' := #[true, true, true, true, false, false, false, false, false, false, false, false, false, false]) (by kernel_rfl) rfl rfl (by kernel_rfl) (by kernel_rfl) (by kernel_rfl) (fun _ _ _ h => h) (Or.inl ⟨by kernel_rfl, fun W hW => by obtain ⟨s0, s1, s2, s3, -⟩ := (HKs.out.below hW HKs.out.lt).cells4; go_simp; try with_reducible rfl⟩) hF ?_
        go_frame
        refine F_take (i := 4) (d := some 53) (by kernel_rfl) (by kernel_rfl) (by decide) (s' := #[true, true, true, true, true, false, false, false, false, false, false, false, false, false]) (by kernel_rfl) rfl rfl (by kernel_rfl) (by kernel_rfl) (by kernel_rfl) (fun _ _ _ h => h) (Or.inl ⟨by kernel_rfl, fun W hW => by go_simp; try with_reducible rfl⟩) hF ?_
        go_frame
        refine F_take (i := 5) (d := some 54) (by kernel_rfl) (by kernel_rfl) (by decide) (s' := #[true, true, true, true, true, true, false, false, false, false, false, false, false, false]) (by kernel_rfl) rfl rfl (by kernel_rfl) (by kernel_rfl) (by kernel_rfl) (fun _ _ _ h => h) (Or.inl ⟨by kernel_rfl, fun W hW => by obtain ⟨a0, a1, a2, a3, a4, -⟩ := (HK0.out.below hW HK0.out.lt).cells5; go_simp; try with_reducible rfl⟩) hF ?_
        go_frame
        refine F_take (i := 6) (d := some 55) (by kernel_rfl) (by kernel_rfl) (by decide) (s' := #[true, true, true, true, true, true, true, false, false, false, false, false, false, false]) (by kernel_rfl) rfl rfl (by kernel_rfl) (by kernel_rfl) (by kernel_rfl) (fun _ _ _ h => h) (Or.inl ⟨by kernel_rfl, fun W hW => by go_simp; try with_reducible rfl⟩) hF ?_
        go_frame
        refine F_take (i := 7) (d := some 56) (by kernel_rfl) (by kernel_rfl) (by decide) (s' := #[true, true, true, true, true, true, true, true, false, false, false, false, false, false]) (by kernel_rfl) rfl rfl (by kernel_rfl) (by kernel_rfl) (by kernel_rfl) (fun _ _ _ h => h) (Or.inl ⟨by kernel_rfl, fun W hW => by go_simp; try with_reducible rfl⟩) hF ?_
        go_frame
        refine F_take (i := 8) (d := some 57) (by kernel_rfl) (by kernel_rfl) (by decide) (s' := #[true, true, true, true, true, true, true, true, true, false, false, false, false, false]) (by kernel_rfl) rfl rfl (by kernel_rfl) (by kernel_rfl) (by kernel_rfl) (fun _ _ _ h => h) (Or.inl ⟨by kernel_rfl, fun W hW => by obtain ⟨a0, a1, a2, a3, a4, -⟩ := (HK0.out.below hW HK0.out.lt).cells5; go_simp; try with_reducible rfl⟩) hF ?_
        go_frame
        refine F_one (i := 9) (s' := #[true, true, true, true, true, true, true, true, true, true, false, false, false, false]) (by kernel_rfl) (by kernel_rfl) (wpOp_enterL (i := 9) (d := some 58) (f := 75) (args := #[.pointer (some ⟨ps, 0, none⟩), .agg #[.int .i64 e1, .int .i64 e2, .int .i64 e3, .int .i64 e4, .int .i64 cn]]) rfl rfl (by kernel_rfl) (by go_simp) ((HH.out wd hF).mono ?_))
        rintro r w7 ⟨⟨v7, rfl, ho7⟩, hb7⟩
        obtain ⟨A7, c7, hv7⟩ := ho7.shape
        subst hv7
        have hF := below_trans hF hF.size hb7
        have hex := ext_len ⟨1, ri⟩ ⟨e1, e2, e3, e4, cn⟩ pn
        have hr7 := (OwnR.rows (C := 2) (cells := Hp.cells) (fun _ => rfl) ho7).2
        obtain ⟨n7, hn7⟩ : ∃ n, (extH ⟨1, ri⟩ ⟨e1, e2, e3, e4, cn⟩ pn).length = n := ⟨_, rfl⟩
        rw [hn7]
        refine ⟨_, rfl, fun _ => hF, ?_⟩
        go_frame
        refine F_one (i := 10) (s' := #[true, true, true, true, true, true, true, true, true, true, true, false, false, false]) (by kernel_rfl) (by kernel_rfl) (wpOp_enterL (i := 10) (d := some 59) (f := 74) (args := #[.slice none 0 0, .slice A7 n7 c7]) rfl rfl (by kernel_rfl) (by go_simp) ((joined_any none A7 0 c7 [] (extH ⟨1, ri⟩ ⟨e1, e2, e3, e4, cn⟩ pn) w7 0 n7 rfl hn7.symm (rowsH_nil _) hr7 (by simp) (by have := Hxs.out; omega)).mono ?_))
        rintro r w8 ⟨⟨v8, nx, rfl, ho8, hjn⟩, hb8⟩
        obtain ⟨A9, c9, hv8⟩ := ho8.shape
        subst hv8
        have hF := below_trans hF hF.size hb8
        obtain ⟨nn, hnn⟩ : ∃ n, nx.length = n := ⟨_, rfl⟩
        rw [hnn] at ho8 ⊢
        refine ⟨_, rfl, fun _ => hF, ?_⟩
        go_frame
        refine F_take (i := 11) (d := some 60) (by kernel_rfl) (by kernel_rfl) (by decide) (s' := #[true, true, true, true, true, true, true, true, true, true, true, true, false, false]) (by kernel_rfl) rfl rfl (by kernel_rfl) (by kernel_rfl) (by kernel_rfl) (fun _ _ _ h => h) (Or.inl ⟨by kernel_rfl, fun W hW => by go_simp; try with_reducible rfl⟩) hF ?_
        go_frame
        refine F_one (i := 12) (s' := #[true, true, true, true, true, true, true, true, true, true, true, true, true, false]) (by kernel_rfl) (by kernel_rfl) ?_
        obtain ⟨w9, hw9⟩ : ∃ v, w8.alloc (.cells #[.complex .f64 (flt (ac + cn)) (flt (ah + hn)), .slice A9 nn c9, .bool false] 107) = v := ⟨_, rfl⟩
        have hb9 := below_new w8 (.cells #[.complex .f64 (flt (ac + cn)) (flt (ah + hn)), .slice A9 nn c9, .bool false] 107)
        have k9 := Blk.new w8 107 #[.complex .f64 (flt (ac + cn)) (flt (ah + hn)), .slice A9 nn c9, .bool false]
        obtain ⟨px, hpx⟩ : ∃ p, w8.heap.size = p := ⟨_, rfl⟩
        rw [hw9] at hb9 k9
        rw [hpx] at k9
        have hszx : w.heap.size ≤ px := by have := hF.size; have := Hb0.out.size; omega
        have hF := below_trans hF hF.size hb9
        refine wpOp_valueL (i := 12) (d := some 61) (w' := w9) (v := .pointer (some ⟨px, 0, none⟩)) rfl rfl (by kernel_rfl) (by go_simp) ⟨fun _ => hF, ?_⟩
        go_frame
        have hb09 := below_trans Hb0.out Hb0.out.size hF
        have hm9 := (HF.out.below hb09).map
        obtain ⟨wx, hrun, hmx, hgx, -⟩ := hm9.update_run (P := Try.prog) keyVx Try.underlying100 ⟨e3, e4⟩ (.pointer (some ⟨px, 0, none⟩))
        simp only [Vx.enc] at hrun
        refine F_one (i := 13) (s' := #[true, true, true, true, true, true, true, true, true, true, true, true, true, true]) (by kernel_rfl) (by kernel_rfl) (wpOp_skipL (i := 13) (w' := wx) rfl rfl (by kernel_rfl) (by go_simp) ⟨fun h => absurd h (by decide), ?_⟩)
        go_frame
        refine F_done (by kernel_rfl) ?_ _
        have ho9 := (ho8.lower (B' := B) (by have := hF.size; have := HB.out; have := Hb0.out.size; have := hb8.size; have h9 := below_trans Hb0.out Hb0.out.size (below_trans hwdF hwdF.size hb7); have := h9.size; omega)).below hb9
        have hnew := stepF_new (r := ⟨1, ri⟩) (e := ⟨e1, e2, e3, e4, cn⟩) Hx.out (fun q hq => by rw [show getF (⟨e1, e2, e3, e4, (cn : Int)⟩ : Ed).dst F = some _ from Hgy.out] at hq; cases hq; exact Hlt.out) hjn (y' := ⟨px, A9, c9, ⟨⟨ac + cn, ah + hn⟩, nx⟩, false⟩) (by simp only; rw [Hst.out]) rfl
        have hput := HF.out.put (v := ⟨e3, e4⟩) (y := ⟨px, A9, c9, ⟨⟨ac + cn, ah + hn⟩, nx⟩, false⟩) hb09 hszx (by unfold PlW.cells; simp only; rw [hnn]; exact k9) (by unfold PlW.nv; simp only; rw [hnn]; exact ho9) HB.out hmx hgx
        have Hput := Lib.hid hput
        have Hnew := Lib.hid hnew
        clear hput hnew hmx hgx hrun ho9 hm9 hb09 hF hszx k9 hb9 hw9 hpx hnn ho8 hjn hb8 hn7 hr7 hex ho7 hb7 hwdF
        go_wp2
        go_end0
        exact ⟨rfl, _, Hnew.out, Hput.out.1, Hput.out.2⟩
    · have ho : FloatKind.f64.format.order (flt (ac + cn)) (flt bc) = some .eq := by
        rw [fltOrder _ _ (by have := Hxs.out; have := Hcn.out; omega) (by omega), Nat.compare_eq_eq.2 heq]
      have hmin := fun ts t w => minFlt_run (ah + hn) bh (by have := Hxs.out; have := Hn1.out; omega) (by omega) ts t w
      obtain ⟨mh, hmh⟩ : ∃ m, min (ah + hn) bh = m := ⟨_, rfl⟩
      rw [hmh] at hmin
      have Hmh := Lib.hid hmh
      have Heq := Lib.hid heq
      have Hyb := Lib.hid hyb
      have Hyo := Lib.hid hyo
      have HNp := Lib.hid (own_ne hyo hyb (by decide))
      have HNs := Lib.hid (blk_ne_map HKs.out HF0.out.map)
      have HNe := Lib.hid (blk_ne_map HK0.out HF0.out.map)
      have hsto := fun n => (show (store ⟨yp, 0, none⟩ (.complex .f64 (flt (ac + cn)) (flt mh))).run Try.prog (w0.drewN n) = .ok () ((w0.drewN n).setCell ⟨yp, 0, none⟩ (.complex .f64 (flt (ac + cn)) (flt mh))) from by
        rw [run_store Try.prog _ _ _ _ rfl, (hyb.drewN n).cell 0, (hyb.drewN n).frozen 0]
        rfl)
      clear hgy hyy hyb hyo hmh heq
      rcases hcase with ⟨q, rfl, hcase, hby⟩ | ⟨q, rfl, hcase, rfl⟩
      all_goals
        go_enter Try.func53, Try.ntmps53
        go_wp2
        go_quiet (fail)
        go_wp2
        obtain ⟨nq1, hq1⟩ : ∃ n, n = nq := ⟨_, rfl⟩
        subst hq1
        go_quiet (fail)
        go_wp2
        obtain ⟨nq2, hq2⟩ : ∃ n, nq1 + nq = n := ⟨_, rfl⟩
        rw [hq2]
        obtain ⟨w5, hw5⟩ : ∃ v, (w0.drewN nq2).setCell ⟨yp, 0, none⟩ (.complex .f64 (flt (ac + cn)) (flt mh)) = v := ⟨_, rfl⟩
        rw [hw5]
        have hf5 := (HF0.out.below (below_drewN (Below.refl _ _) nq2)).fill (w' := w5) (v := ⟨e3, e4⟩) (y := ⟨yp, yA, yc, ⟨⟨ac + cn, mh⟩, yn⟩, yd⟩) Hgy.out rfl (by rw [← hw5]; exact ((Hyb.out.drewN nq2).set_ 0 _).to (by simp [PlW.cells])) (by rw [← hw5]; exact OwnR.far (Hyo.out.below (below_drewN (Below.refl _ _) nq2)) HNp.out _) (by rw [← hw5]; exact grown_setC _ _ _ _)
        have hk5 := hf5.2.blk (HKs.out.drewN nq2) HNs.out (by decide)
        have he5 := hf5.2.blk (HK0.out.drewN nq2) HNe.out (by decide)
        clear hlk hlq s0 s1 s2 s3 a0 a1 a2 a3 a4 b0 b1 b2 d0 d1 d2 hcase fx hadd ho hmin hsto hq2
        have hg5 : getF (⟨e1, e2⟩ : Vx) (setF ⟨e3, e4⟩ ⟨yp, yA, yc, ⟨⟨ac + cn, mh⟩, yn⟩, yd⟩ F) = some ⟨p, A, c, ⟨⟨ac, ah⟩, pn⟩, pd⟩ := by
          rw [getF_set, if_neg Hne.out]
          exact Hx.out
        have hq5 : getF (⟨e3, e4⟩ : Vx) (setF ⟨e3, e4⟩ ⟨yp, yA, yc, ⟨⟨ac + cn, mh⟩, yn⟩, yd⟩ F) = some ⟨yp, yA, yc, ⟨⟨ac + cn, mh⟩, yn⟩, yd⟩ := by rw [getF_set, if_pos rfl]
        have hp5 := (hf5.1.get hq5).1
        have ho5 := (hf5.1.get hq5).2.2
        unfold PlW.cells at hp5
        unfold PlW.nv at ho5
        simp only at hp5 ho5
        have HH5 := Lib.hid (fun W (hW : Below w5.heap.size w5 W) => hops_any e1 e2 e3 e4 cn ri ps be bf _ B W (hk5.below hW hk5.lt) (hf5.1.below hW) pn (fun _ => ⟨_, hg5, rfl⟩) (by have := Hxs.out; omega))
        have HF5 := Lib.hid hf5.1
        have hwM : Mv B bf w w5 := ((Mv.of_below Hb0.out HB.out).trans (Mv.of_below (below_drewN (Below.refl _ _) nq2) (Nat.le_trans HB.out Hb0.out.size)) HB.out).trans hf5.2 HB.out
        have HM5 := Lib.hid hwM
        have HQ5 := Lib.hid hq5
        have HK5 := Lib.hid he5
        have HP5 := Lib.hid hp5
        have HO5 := Lib.hid ho5
        have HB5 := Lib.hid (show B ≤ w5.heap.size from Nat.le_trans HB.out hwM.below.size)
        obtain ⟨ny, hny⟩ : ∃ n, yn.length = n := ⟨_, rfl⟩
        rw [hny] at HP5
        clear hf5 hk5 he5 hg5 hq5 hp5 ho5 hwM hw5
        refine wp_region_F (F := fun W => Below w5.heap.size w5 W) (n := 11) (m := 12) (s := #[false, false, false, false, false, false, false, false, false, false, false, false]) (by kernel_rfl) (by kernel_rfl) (by kernel_rfl) ?_
        intro wd hwd
        have hF : Below w5.heap.size w5 wd := by rw [hwd.out]; exact (Below.refl _ _).drew
        clear hwd
        have hwdF := hF
        refine F_take (i := 0) (d := some 85) (by kernel_rfl) (by kernel_rfl) (by decide) (s' := #[true, false, false, false, false, false, false, false, false, false, false, false]) (by kernel_rfl) rfl rfl (by kernel_rfl) (by kernel_rfl) (by kernel_rfl) (fun _ _ _ h => h) (Or.inl ⟨by kernel_rfl, fun W hW => by go_simp; try with_reducible rfl⟩) hF ?_
        go_frame
        refine F_take (i := 1) (d := some 86) (by kernel_rfl) (by kernel_rfl) (by decide) (s' := #[true, true, false, false, false, false, false, false, false, false, false, false]) (by kernel_rfl) rfl rfl (by kernel_rfl) (by kernel_rfl) (by kernel_rfl) (fun _ _ _ h => h) (Or.inl ⟨by kernel_rfl, fun W hW => by go_simp; try with_reducible rfl⟩) hF ?_
        go_frame
        refine F_take (i := 2) (d := some 87) (by kernel_rfl) (by kernel_rfl) (by decide) (s' := #[true, true, true, false, false, false, false, false, false, false, false, false]) (by kernel_rfl) rfl rfl (by kernel_rfl) (by kernel_rfl) (by kernel_rfl) (fun _ _ _ h => h) (Or.inl ⟨by kernel_rfl, fun W hW => by go_simp; try with_reducible rfl⟩) hF ?_
        go_frame
        refine F_take (i := 3) (d := some 88) (by kernel_rfl) (by kernel_rfl) (by decide) (s' := #[true, true, true, true, false, false, false, false, false, false, false, false]) (by kernel_rfl) rfl rfl (by kernel_rfl) (by kernel_rfl) (by kernel_rfl) (fun _ _ _ h => h) (Or.inl ⟨by kernel_rfl, fun W hW => by go_simp; try with_reducible rfl⟩) hF ?_
        go_frame
        refine F_take (i := 4) (d := some 89) (by kernel_rfl) (by kernel_rfl) (by decide) (s' := #[true, true, true, true, true, false, false, false, false, false, false, false]) (by kernel_rfl) rfl rfl (by kernel_rfl) (by kernel_rfl) (by kernel_rfl) (fun _ _ _ h => h) (Or.inl ⟨by kernel_rfl, fun W hW => by obtain ⟨d0, d1, d2⟩ := blk3 (HP5.out.below hW HP5.out.lt); go_simp; try with_reducible rfl⟩) hF ?_
        go_frame
        refine F_take (i := 5) (d := some 90) (by kernel_rfl) (by kernel_rfl) (by decide) (s' := #[true, true, true, true, true, true, false, false, false, false, false, false]) (by kernel_rfl) rfl rfl (by kernel_rfl) (by kernel_rfl) (by kernel_rfl) (fun _ _ _ h => h) (Or.inl ⟨by kernel_rfl, fun W hW => by go_simp; try with_reducible rfl⟩) hF ?_
        go_frame
        refine F_take (i := 6) (d := some 91) (by kernel_rfl) (by kernel_rfl) (by decide) (s' := #[true, true, true, true, true, true, true, false, false, false, false, false]) (by kernel_rfl) rfl rfl (by kernel_rfl) (by kernel_rfl) (by kernel_rfl) (fun _ _ _ h => h) (Or.inl ⟨by kernel_rfl, fun W hW => by obtain ⟨a0, a1, a2, a3, a4, -⟩ := (HK5.out.below hW HK5.out.lt).cells5; go_simp; try with_reducible rfl⟩) hF ?_
        go_frame
        refine F_one (i := 7) (s' := #[true, true, true, true, true, true, true, true, false, false, false, false]) (by kernel_rfl) (by kernel_rfl) (wpOp_enterL (i := 7) (d := some 92) (f := 75) (args := #[.pointer (some ⟨ps, 0, none⟩), .agg #[.int .i64 e1, .int .i64 e2, .int .i64 e3, .int .i64 e4, .int .i64 cn]]) rfl rfl (by kernel_rfl) (by go_simp) ((HH5.out wd hF).mono ?_))
        rintro r w7 ⟨⟨v7, rfl, ho7⟩, hb7⟩
        obtain ⟨A7, c7, hv7⟩ := ho7.shape
        subst hv7
        have hF := below_trans hF hF.size hb7
        have hex := ext_len ⟨1, ri⟩ ⟨e1, e2, e3, e4, cn⟩ pn
        have hr7 := (OwnR.rows (C := 2) (cells := Hp.cells) (fun _ => rfl) ho7).2
        obtain ⟨n7, hn7⟩ : ∃ n, (extH ⟨1, ri⟩ ⟨e1, e2, e3, e4, cn⟩ pn).length = n := ⟨_, rfl⟩
        rw [hn7]
        have hry := ((OwnR.rows (C := 2) (cells := Hp.cells) (fun _ => rfl) (HO5.out.below hF)).2)
        refine ⟨_, rfl, fun _ => hF, ?_⟩
        go_frame
        refine F_one (i := 8) (s' := #[true, true, true, true, true, true, true, true, true, false, false, false]) (by kernel_rfl) (by kernel_rfl) (wpOp_enterL (i := 8) (d := some 93) (f := 74) (args := #[.slice yA ny yc, .slice A7 n7 c7]) rfl rfl (by kernel_rfl) (by go_simp) ((joined_any yA A7 yc c7 yn (extH ⟨1, ri⟩ ⟨e1, e2, e3, e4, cn⟩ pn) w7 ny n7 hny.symm hn7.symm hry hr7 (by have := Hyy.out; omega) (by have := Hxs.out; omega)).mono ?_))
        rintro r w8 ⟨⟨v8, nx, rfl, ho8, hjn⟩, hb8⟩
        obtain ⟨A9, c9, hv8⟩ := ho8.shape
        subst hv8
        have hF := below_trans hF hF.size hb8
        obtain ⟨nn, hnn⟩ : ∃ n, nx.length = n := ⟨_, rfl⟩
        rw [hnn] at ho8 ⊢
        clear hry
        refine ⟨_, rfl, fun _ => hF, ?_⟩
        go_frame
        refine F_take (i := 9) (d := some 94) (by kernel_rfl) (by kernel_rfl) (by decide) (s' := #[true, true, true, true, true, true, true, true, true, true, false, false]) (by kernel_rfl) rfl rfl (by kernel_rfl) (by kernel_rfl) (by kernel_rfl) (fun _ _ _ h => h) (Or.inl ⟨by kernel_rfl, fun W hW => by go_simp; try with_reducible rfl⟩) hF ?_
        go_frame
        refine F_take (i := 10) (d := some 95) (by kernel_rfl) (by kernel_rfl) (by decide) (s' := #[true, true, true, true, true, true, true, true, true, true, true, false]) (by kernel_rfl) rfl rfl (by kernel_rfl) (by kernel_rfl) (by kernel_rfl) (fun _ _ _ h => h) (Or.inl ⟨by kernel_rfl, fun W hW => by go_simp; try with_reducible rfl⟩) hF ?_
        go_frame
        have k8 := HP5.out.below hF HP5.out.lt
        have d1 := k8.cell 1
        have f1 := k8.frozen 1
        simp only [List.getElem?_toArray, List.getElem?_cons_zero, List.getElem?_cons_succ] at d1
        obtain ⟨wx, hwx⟩ : ∃ v, w8.setCell ⟨yp, 1, none⟩ (.slice A9 nn c9) = v := ⟨_, rfl⟩
        refine F_one (i := 11) (s' := #[true, true, true, true, true, true, true, true, true, true, true, true]) (by kernel_rfl) (by kernel_rfl) (wpOp_skipL (i := 11) (w' := wx) rfl rfl (by kernel_rfl) (by go_simp) ⟨fun h => absurd h (by decide), ?_⟩)
        go_frame
        clear d1 f1
        refine F_done (by kernel_rfl) ?_ _
        have hnew := stepF_eq (r := ⟨1, ri⟩) (e := ⟨e1, e2, e3, e4, cn⟩) (F' := setF ⟨e3, e4⟩ ⟨yp, A9, c9, ⟨⟨ac + cn, mh⟩, nx⟩, yd⟩ (setF ⟨e3, e4⟩ ⟨yp, yA, yc, ⟨⟨ac + cn, mh⟩, yn⟩, yd⟩ F)) Hx.out Hgy.out (by simpa using Heq.out.symm) hjn (y' := ⟨yp, A9, c9, ⟨⟨ac + cn, mh⟩, nx⟩, yd⟩) (by simp only; rw [Hhn.out, Hmh.out, Heq.out]) rfl (fun v => by
          rw [getF_set, getF_set]
          show _ = if v = ⟨e3, e4⟩ then _ else _
          split <;> rfl)
        have hfl := (HF5.out.below hF).fill (w' := wx) (v := ⟨e3, e4⟩) (y := ⟨yp, A9, c9, ⟨⟨ac + cn, mh⟩, nx⟩, yd⟩) HQ5.out rfl (by rw [← hwx]; exact (k8.set_ 1 _).to (by simp [PlW.cells, hnn])) (by rw [← hwx]; unfold PlW.nv; simp only; rw [hnn]; exact OwnR.far (ho8.lower (Nat.le_trans HB5.out (below_trans hwdF hwdF.size hb7).size)) (own_ne ho8 k8 (by decide)) _) (by rw [← hwx]; exact grown_setC _ _ _ _)
        have Hnew := Lib.hid hnew
        have Hfl := Lib.hid hfl.1
        have Hmv := Lib.hid ((HM5.out.trans (Mv.of_below hF HB5.out) HB.out).trans hfl.2 HB.out)
        clear hnew hfl hwx k8 ho8 hjn hb8 hn7 hr7 hex ho7 hb7 hwdF hF hnn hny
        go_wp2
        go_end0
        exact ⟨rfl, _, Hnew.out, Hfl.out, Hmv.out⟩
    · have ho : FloatKind.f64.format.order (flt (ac + cn)) (flt bc) = some .gt := by
        rw [fltOrder _ _ (by have := Hxs.out; have := Hcn.out; omega) (by omega), Nat.compare_eq_gt.2 hgt]
      have Hgt := Lib.hid hgt
      clear hgy hyy hyb hyo hgt
      rcases hcase with ⟨q, rfl, hcase, hby⟩ | ⟨q, rfl, hcase, rfl⟩
      all_goals
        go_enter Try.func53, Try.ntmps53
        go_wp2
        go_quiet (fail)
        go_wp2
        go_quiet (fail)
        go_wp2
        go_end0
        have hmv := (Mv.of_below (B := B) (bf := bf) Hb0.out HB.out)
        refine ⟨rfl, F, stepF_gt (e := ⟨e1, e2, e3, e4, cn⟩) Hx.out Hgy.out (by simpa using Hgt.out), (HF0.out.below (below_drewN (Below.refl _ _) _)), ?_⟩
        exact ⟨below_drewN hmv.below _, hmv.kept⟩

end Go.Proofs.Ytpfjgecdlilkcaa
