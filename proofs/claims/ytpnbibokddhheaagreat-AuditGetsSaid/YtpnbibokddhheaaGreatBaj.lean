/-
  Layer 21: one edge from a vertex that is done: the program's way.
-/
import Derived.Shelf.SlGeneric
import Derived.Shelf.SlSortCmp.NoneTotal
import Derived.Ground.SlsfProg
import Derived.Test.YtpnbibokddhheaaGreatProg
import Derived.Test.YtpnbibokddhheaaGreatBad
import Derived.Test.YtpnbibokddhheaaGreatBae
import Derived.Test.YtpnbibokddhheaaGreatBai
namespace Go.Proofs.YtpnbibokddhheaaGreat
open Go.RowKit

/-- what an edge does to what is found -/
structure StepF (r : Vx) (F F' : Fnd) (e : Ed) (p : Pl) : Prop where
  tab : StepT r (tabF F) (tabF F') e
  oth : ∀ v, v ≠ e.dst → getF v F' = getF v F
  dst : ∃ y', getF e.dst F' = some y' ∧ ((∃ y, getF e.dst F = some y ∧ y'.done = y.done) ∨ (y'.done = false ∧ ∀ q, getF e.dst F = some q → p.a.c + e.cost.toNat < q.pl.a.c))
section
variable {r : Vx} {F : Fnd} {e : Ed} {x y : PlW}
theorem tabF_some {v : Vx} (h : getF v F = some x) : tabF F v = some x.pl := by unfold tabF; rw [h]; rfl
theorem stepF_gt (hx : getF e.src F = some x) (hy : getF e.dst F = some y) (h : y.pl.a.c < x.pl.a.c + e.cost.toNat) : StepF r F F e x.pl :=
  ⟨⟨_, tabF_some hx, fun _ _ => rfl, .inl ⟨_, tabF_some hy, h, tabF_some hy⟩⟩, fun _ _ => rfl, ⟨y, hy, .inl ⟨y, hy, rfl⟩⟩⟩
theorem stepF_eq {F' : Fnd} (hx : getF e.src F = some x) (hy : getF e.dst F = some y) (h : y.pl.a.c = x.pl.a.c + e.cost.toNat) {n : List Hp} (hj : JoinH y.pl.next (extH r e x.pl.next) n) {y' : PlW} (h1 : y'.pl = ⟨⟨y.pl.a.c, min (x.pl.a.h + hopN e) y.pl.a.h⟩, n⟩) (h2 : y'.done = y.done) (hF' : ∀ v, getF v F' = if v = e.dst then some y' else getF v F) : StepF r F F' e x.pl := by
  have ht : ∀ v, tabF F' v = if v = e.dst then some y'.pl else tabF F v := by
    intro v
    unfold tabF
    rw [hF']
    split <;> rfl
  exact ⟨⟨_, tabF_some hx, fun v hv => by rw [ht, if_neg hv], .inr (.inl ⟨_, n, tabF_some hy, h, hj, by rw [ht, if_pos rfl, h1]⟩)⟩, fun v hv => by rw [hF', if_neg hv], ⟨y', by rw [hF', if_pos rfl], .inl ⟨y, hy, h2⟩⟩⟩
theorem stepF_new (hx : getF e.src F = some x) (h : ∀ q, getF e.dst F = some q → x.pl.a.c + e.cost.toNat < q.pl.a.c) {n : List Hp} (hj : JoinH [] (extH r e x.pl.next) n) {y' : PlW} (h1 : y'.pl = ⟨stepV x.pl.a e, n⟩) (h2 : y'.done = false) : StepF r F (setF e.dst y' F) e x.pl := by
  refine ⟨⟨_, tabF_some hx, fun v hv => by rw [tabF_set, if_neg hv], .inr (.inr ⟨n, fun q hq => ?_, hj, by rw [tabF_set, if_pos rfl, h1]⟩)⟩, fun v hv => by rw [getF_set, if_neg hv], ⟨y', by rw [getF_set, if_pos rfl], .inr ⟨h2, h⟩⟩⟩
  unfold tabF at hq
  obtain ⟨z, hz, rfl⟩ := Option.map_eq_some_iff.1 hq
  exact h z hz
end
theorem flt_one : flt 1 = 4607182418800017408 := by rw [flt_eq 1 (by omega)]; rfl
theorem own_ne {α : Type} {e t : TypeId} {C g B : Nat} {cells : α → List Value} {w : World} {v : Value} {L : List α} {cs : Array Value} (ho : OwnR e C cells w B v L) (hb : Blk w g t cs) (hne : e ≠ t) : v.ownBlock ≠ some g := by
  intro e'
  rcases ho.2 with ⟨g', -⟩ | ⟨g', cap, cur, h1, h2, h3, h4⟩
  · rw [g'] at e'; cases e'
  · rw [h1] at e'
    have e2 : g' = g := by injection e'
    rw [e2] at h3
    have h6 : w.heap[g]? = some (.cells cs t (0, 0)) := hb
    rw [h6] at h3
    injection h3 with h3
    injection h3 with _ h3
    exact hne h3.symm
theorem blk_ne_map {κ : Type} {enc : κ → Value} {w : World} {g b : Nat} {t : TypeId} {cs : Array Value} {L : List (κ × Value)} (hb : Blk w g t cs) (hm : MapAt enc w b L) : g ≠ b := by
  rintro rfl
  obtain ⟨es, clock, h5, -⟩ := hm
  have h6 : w.heap[g]? = some (.cells cs t (0, 0)) := hb
  rw [h6] at h5
  cases h5
theorem grown_setC (w : World) (g i : Nat) (u : Value) : w.grownBy (w.setCell ⟨g, i, none⟩ u) (some g) := ⟨rfl, rfl, rfl, by simp, fun k _ hk => heap_setCell_other w ⟨g, i, none⟩ k u (fun e => hk (by simp [e]))⟩
theorem rowsH_nil {w : World} {B : Nat} (A : Option Addr) : RowsH w B A [] := fun h => absurd h (by simp)
set_option maxHeartbeats 16000000 in
set_option maxRecDepth 100000 in
theorem step_any (e1 e2 e3 e4 ri : Int) (cn : Nat) (ps be bf : Nat) (F : Fnd) (B : Nat) (w : World) (hk : Blk w ps 130 #[.int .i64 1, .int .i64 ri, .map (some be), .map (some bf)]) (hF : FndAt w B bf F) (hB : B ≤ w.heap.size)
    (hne : (⟨e1, e2⟩ : Vx) ≠ ⟨e3, e4⟩) (hcn : cn ≤ 100) (x : PlW) (hx : getF ⟨e1, e2⟩ F = some x) (hxs : x.pl.a.c ≤ 100000 ∧ x.pl.a.h ≤ 1000 ∧ x.pl.next.length ≤ 2 ^ 16) (hys : ∀ y, getF ⟨e3, e4⟩ F = some y → y.pl.a.c ≤ 100000 ∧ y.pl.a.h ≤ 1000 ∧ y.pl.next.length ≤ 2 ^ 16) :
    Calls Tryz.prog 56 #[.pointer (some ⟨ps, 0, none⟩), .agg #[.int .i64 e1, .int .i64 e2, .int .i64 e3, .int .i64 e4, .int .i64 cn]] w fun r w' => r = .returned (.tuple #[]) ∧ ∃ F', StepF ⟨1, ri⟩ F F' ⟨e1, e2, e3, e4, cn⟩ x.pl ∧ FndAt w' B bf F' ∧ Mv B bf w w' := by
  obtain ⟨p, A, c, ⟨⟨ac, ah⟩, pn⟩, pd⟩ := x
  simp only at hxs
  have hb0 := below_new w (.cells #[.int .i64 e1, .int .i64 e2, .int .i64 e3, .int .i64 e4, .int .i64 cn] 133)
  have hk0 := Blk.new w 133 #[.int .i64 e1, .int .i64 e2, .int .i64 e3, .int .i64 e4, .int .i64 cn]
  obtain ⟨w0, hw0⟩ : ∃ w0, w.alloc (.cells #[.int .i64 e1, .int .i64 e2, .int .i64 e3, .int .i64 e4, .int .i64 cn] 133) = w0 := ⟨_, rfl⟩
  rw [hw0] at hb0 hk0
  have hks := hk.below hb0 hk.lt
  have hF0 := hF.below hb0
  obtain ⟨s0, s1, s2, s3, -⟩ := hks.cells4
  obtain ⟨a0, a1, a2, a3, a4, -⟩ := hk0.cells5
  obtain ⟨hpb, -, -⟩ := hF0.get hx
  unfold PlW.cells at hpb
  simp only at hpb
  obtain ⟨b0, b1, b2⟩ := blk3 hpb
  have fx := flt_int cn
  have hlk := fun n => (hF0.map.drewN n).look_run keyVx Tryz.underlying128 (zeroPl _) ⟨e1, e2⟩ false
  rw [show getL (⟨e1, e2⟩ : Vx) (valsF F) = some (.pointer (some ⟨p, 0, none⟩)) by rw [getL_vals, hx]; rfl] at hlk
  simp only [Bool.false_eq_true, if_false, Vx.enc, Option.getD] at hlk
  have hlq := fun n => (hF0.map.drewN n).look_run keyVx Tryz.underlying128 (zeroPl _) ⟨e3, e4⟩ false
  rw [getL_vals] at hlq
  obtain ⟨hb', hhb⟩ : ∃ hb', flt (hopN ⟨e1, e2, e3, e4, cn⟩) = hb' := ⟨_, rfl⟩
  have hadd := fun T w => cplxAdd T ac ah cn (hopN ⟨e1, e2, e3, e4, cn⟩) (by omega) (by unfold hopN; split <;> omega) w
  rw [hhb] at hadd
  obtain ⟨hn, hhn⟩ : ∃ hn, hopN ⟨e1, e2, e3, e4, cn⟩ = hn := ⟨_, rfl⟩
  rw [hhn] at hadd
  have hn1 : hn ≤ 1 := by rw [← hhn]; unfold hopN; split <;> omega
  have hby : ∀ T w, e3 = 2 → (binOp .add T (.complex .f64 (flt cn) 0) (.complex .f64 0 4607182418800017408)).run Tryz.prog w = .ok (.complex .f64 (flt cn) hb') w := by
    intro T w h
    have h1 := cplxAdd T cn 0 0 1 (by omega) (by omega) w
    rw [flt_zero0, flt_one, Nat.add_zero] at h1
    rw [h1, ← hhb]
    simp [hopN, h, flt_one]
  have hcase : (∃ q : Bool, q = true ∧ (e3 == 2) = q ∧ (∀ T w, (binOp .add T (.complex .f64 (flt cn) 0) (.complex .f64 0 4607182418800017408)).run Tryz.prog w = .ok (.complex .f64 (flt cn) hb') w)) ∨ (∃ q : Bool, q = false ∧ (e3 == 2) = q ∧ hb' = 0) := by
    by_cases h : e3 = 2
    · exact .inl ⟨true, rfl, by simp [h], fun T w => hby T w h⟩
    · refine .inr ⟨false, rfl, by simp [h], ?_⟩
      rw [← hhb]
      simp [hopN, h, flt_zero0]
  have hst : stepV ⟨ac, ah⟩ ⟨e1, e2, e3, e4, cn⟩ = ⟨ac + cn, ah + hn⟩ := by unfold stepV; rw [hhn]; rfl
  have Hb0 := Lib.hid hb0
  have HK0 := Lib.hid hk0
  have HKs := Lib.hid hks
  have HF0 := Lib.hid hF0
  have HF := Lib.hid hF
  have HB := Lib.hid hB
  have Hx := Lib.hid hx
  have Hxs := Lib.hid hxs
  have Hys := Lib.hid hys
  have Hne := Lib.hid hne
  have Hcn := Lib.hid hcn
  have Hhn := Lib.hid hhn
  have Hn1 := Lib.hid hn1
  have Hst := Lib.hid hst
  have HH := Lib.hid (fun W (hW : Below w0.heap.size w0 W) => hops_any e1 e2 e3 e4 cn ri ps be bf F B W (hks.below hW hks.lt) (hF0.below hW) pn (fun _ => ⟨_, hx, rfl⟩) (by omega))
  clear hk hF hB hne hx hxs hys hb0 hk0 hks hF0 hpb hhb hhn hcn hn1 hby hst
  cases hgy : getF (⟨e3, e4⟩ : Vx) F with
  | none =>
    rw [hgy] at hlq
    simp only [Bool.false_eq_true, if_false, Vx.enc, Option.map, Option.getD] at hlq
    have Hgy := Lib.hid hgy
    clear hgy
    rcases hcase with ⟨q, rfl, hcase, hby⟩ | ⟨q, rfl, hcase, rfl⟩
    all_goals
      go_enter Tryz.func56, Tryz.ntmps56
      go_wp2
      go_quiet (fail)
      go_wp2
      go_quiet (fail)
      go_wp2
      clear hlk hlq s0 s1 s2 s3 a0 a1 a2 a3 a4 b0 b1 b2 hcase fx hadd
      refine wp_region_F (F := fun W => Below w0.heap.size w0 W) (n := 13) (m := 14) (s := #[false, false, false, false, false, false, false, false, false, false, false, false, false, false]) (by kernel_rfl) (by kernel_rfl) (by kernel_rfl) ?_
      intro wd hwd
      have hF : Below w0.heap.size w0 wd := by rw [hwd.out]; exact Below.drew (below_drewN (Below.refl _ _) _)
      clear hwd
      have hwdF := hF
      refine F_take (i := 0) (d := some 49) (by kernel_rfl) (by kernel_rfl) (by decide) (s' := #[true, false, false, false, false, false, false, false, false, false, false, false, false, false]) (by kernel_rfl) rfl rfl (by kernel_rfl) (by kernel_rfl) (by kernel_rfl) (fun _ _ _ h => h) (Or.inl ⟨by kernel_rfl, fun W hW => by go_simp; try with_reducible rfl⟩) hF ?_
      go_frame
      refine F_take (i := 1) (d := some 50) (by kernel_rfl) (by kernel_rfl) (by decide) (s' := #[true, true, false, false, false, false, false, false, false, false, false, false, false, false]) (by kernel_rfl) rfl rfl (by kernel_rfl) (by kernel_rfl) (by kernel_rfl) (fun _ _ _ h => h) (Or.inl ⟨by kernel_rfl, fun W hW => by go_simp; try with_reducible rfl⟩) hF ?_
      go_frame
      refine F_take (i := 2) (d := some 51) (by kernel_rfl) (by kernel_rfl) (by decide) (s' := #[true, true, true, false, false, false, false, false, false, false, false, false, false, false]) (by kernel_rfl) rfl rfl (by kernel_rfl) (by kernel_rfl) (by kernel_rfl) (fun _ _ _ h => h) (Or.inl ⟨by kernel_rfl, fun W hW => by go_simp; try with_reducible rfl⟩) hF ?_
      go_frame
      refine F_take (i := 3) (d := some 52) (by kernel_rfl) (by kernel_rfl) (by decide) (s' := #[true, true, true, true, false, false, false, false, false, false, false, false, false, false]) (by kernel_rfl) rfl rfl (by kernel_rfl) (by kernel_rfl) (by kernel_rfl) (fun _ _ _ h => h) (Or.inl ⟨by kernel_rfl, fun W hW => by obtain ⟨s0, s1, s2, s3, -⟩ := (HKs.out.below hW HKs.out.lt).cells4; go_simp; try with_reducible rfl⟩) hF ?_
      go_frame
      refine F_take (i := 4) (d := some 53) (by kernel_rfl) (by kernel_rfl) (by decide) (s' := #[true, true, true, true, true, false, false, false, false, false, false, false, false, false]) (by kernel_rfl) rfl rfl (by kernel_rfl) (by kernel_rfl) (by kernel_rfl) (fun _ _ _ h => h) (Or.inl ⟨by kernel_rfl, fun W hW => by go_simp; try with_reducible rfl⟩) hF ?_
      go_frame
      refine F_take (i := 5) (d := some 54) (by kernel_rfl) (by kernel_rfl) (by decide) (s' := #[true, true, true, true, true, true, false, false, false, false, false, false, false, false]) (by kernel_rfl) rfl rfl (by kernel_rfl) (by kernel_rfl) (by kernel_rfl) (fun _ _ _ h => h) (Or.inl ⟨by kernel_rfl, fun W hW => by obtain ⟨a0, a1, a2, a3, a4, -⟩ := (HK0.out.below hW HK0.out.lt).cells5; go_simp; try with_reducible rfl⟩) hF ?_
      go_frame
      refine F_take (i := 6) (d := some 55) (by kernel_rfl) (by kernel_rfl) (by decide) (s' := #[true, true, true, true, true, true, true, false, false, false, false, false, false, false]) (by kernel_rfl) rfl rfl (by kernel_rfl) (by kernel_rfl) (by kernel_rfl) (fun _ _ _ h => h) (Or.inl ⟨by kernel_rfl, fun W hW => by go_simp; try with_reducible rfl⟩) hF ?_
      go_frame
      refine F_take (i := 7) (d := some 56) (by kernel_rfl) (by kernel_rfl) (by decide) (s' := #[true, true, true, true, true, true, true, true, false, false, false, false, false, false]) (by kernel_rfl) rfl rfl (by kernel_rfl) (by kernel_rfl) (by kernel_rfl) (fun _ _ _ h => h) (Or.inl ⟨by kernel_rfl, fun W hW => by go_simp; try with_reducible rfl⟩) hF ?_
      go_frame
      refine F_take (i := 8) (d := some 57) (by kernel_rfl) (by kernel_rfl) (by decide) (s' := #[true, true, true, true, true, true, true, true, true, false, false, false, false, false]) (by kernel_rfl) rfl rfl (by kernel_rfl) (by kernel_rfl) (by kernel_rfl) (fun _ _ _ h => h) (Or.inl ⟨by kernel_rfl, fun W hW => by obtain ⟨a0, a1, a2, a3, a4, -⟩ := (HK0.out.below hW HK0.out.lt).cells5; go_simp; try with_reducible rfl⟩) hF ?_
      go_frame
      refine F_one (i := 9) (s' := #[true, true, true, true, true, true, true, true, true, true, false, false, false, false]) (by kernel_rfl) (by kernel_rfl) (wpOp_enterL (i := 9) (d := some 58) (f := 98) (args := #[.pointer (some ⟨ps, 0, none⟩), .agg #[.int .i64 e1, .int .i64 e2, .int .i64 e3, .int .i64 e4, .int .i64 cn]]) rfl rfl (by kernel_rfl) (by go_simp) ((HH.out wd hF).mono ?_))
      rintro r w7 ⟨⟨v7, rfl, ho7⟩, hb7⟩
      obtain ⟨A7, c7, hv7⟩ := ho7.shape
      subst hv7
      have hF := below_trans hF hF.size hb7
      have hex := ext_len ⟨1, ri⟩ ⟨e1, e2, e3, e4, cn⟩ pn
      have hr7 := (OwnR.rows (C := 2) (cells := Hp.cells) (fun _ => rfl) ho7).2
      obtain ⟨n7, hn7⟩ : ∃ n, (extH ⟨1, ri⟩ ⟨e1, e2, e3, e4, cn⟩ pn).length = n := ⟨_, rfl⟩
      rw [hn7]
      refine ⟨_, rfl, fun _ => hF, ?_⟩
      go_frame
      refine F_one (i := 10) (s' := #[true, true, true, true, true, true, true, true, true, true, true, false, false, false]) (by kernel_rfl) (by kernel_rfl) (wpOp_enterL (i := 10) (d := some 59) (f := 97) (args := #[.slice none 0 0, .slice A7 n7 c7]) rfl rfl (by kernel_rfl) (by go_simp) ((joined_any none A7 0 c7 [] (extH ⟨1, ri⟩ ⟨e1, e2, e3, e4, cn⟩ pn) w7 0 n7 rfl hn7.symm (rowsH_nil _) hr7 (by simp) (by have := Hxs.out; omega)).mono ?_))
      rintro r w8 ⟨⟨v8, nx, rfl, ho8, hjn⟩, hb8⟩
      obtain ⟨A9, c9, hv8⟩ := ho8.shape
      subst hv8
      have hF := below_trans hF hF.size hb8
      obtain ⟨nn, hnn⟩ : ∃ n, nx.length = n := ⟨_, rfl⟩
      rw [hnn] at ho8 ⊢
      refine ⟨_, rfl, fun _ => hF, ?_⟩
      go_frame
      refine F_take (i := 11) (d := some 60) (by kernel_rfl) (by kernel_rfl) (by decide) (s' := #[true, true, true, true, true, true, true, true, true, true, true, true, false, false]) (by kernel_rfl) rfl rfl (by kernel_rfl) (by kernel_rfl) (by kernel_rfl) (fun _ _ _ h => h) (Or.inl ⟨by kernel_rfl, fun W hW => by go_simp; try with_reducible rfl⟩) hF ?_
      go_frame
      refine F_one (i := 12) (s' := #[true, true, true, true, true, true, true, true, true, true, true, true, true, false]) (by kernel_rfl) (by kernel_rfl) ?_
      obtain ⟨w9, hw9⟩ : ∃ v, w8.alloc (.cells #[.complex .f64 (flt (ac + cn)) (flt (ah + hn)), .slice A9 nn c9, .bool false] 138) = v := ⟨_, rfl⟩
      have hb9 := below_new w8 (.cells #[.complex .f64 (flt (ac + cn)) (flt (ah + hn)), .slice A9 nn c9, .bool false] 138)
      have k9 := Blk.new w8 138 #[.complex .f64 (flt (ac + cn)) (flt (ah + hn)), .slice A9 nn c9, .bool false]
      obtain ⟨px, hpx⟩ : ∃ p, w8.heap.size = p := ⟨_, rfl⟩
      rw [hw9] at hb9 k9
      rw [hpx] at k9
      have hszx : w.heap.size ≤ px := by have := hF.size; have := Hb0.out.size; omega
      have hF := below_trans hF hF.size hb9
      refine wpOp_valueL (i := 12) (d := some 61) (w' := w9) (v := .pointer (some ⟨px, 0, none⟩)) rfl rfl (by kernel_rfl) (by go_simp) ⟨fun _ => hF, ?_⟩
      go_frame
      have hb09 := below_trans Hb0.out Hb0.out.size hF
      have hm9 := (HF.out.below hb09).map
      obtain ⟨wx, hrun, hmx, hgx, -⟩ := hm9.update_run (P := Tryz.prog) keyVx Tryz.underlying128 ⟨e3, e4⟩ (.pointer (some ⟨px, 0, none⟩))
      simp only [Vx.enc] at hrun
      refine F_one (i := 13) (s' := #[true, true, true, true, true, true, true, true, true, true, true, true, true, true]) (by kernel_rfl) (by kernel_rfl) (wpOp_skipL (i := 13) (w' := wx) rfl rfl (by kernel_rfl) (by go_simp) ⟨fun h => absurd h (by decide), ?_⟩)
      go_frame
      refine F_done (by kernel_rfl) ?_ _
      have ho9 := (ho8.lower (B' := B) (by have := hF.size; have := HB.out; have := Hb0.out.size; have := hb8.size; have h9 := below_trans Hb0.out Hb0.out.size (below_trans hwdF hwdF.size hb7); have := h9.size; omega)).below hb9
      have hnew := stepF_new (r := ⟨1, ri⟩) (e := ⟨e1, e2, e3, e4, cn⟩) Hx.out (fun q hq => by rw [show getF (⟨e1, e2, e3, e4, (cn : Int)⟩ : Ed).dst F = none from Hgy.out] at hq; cases hq) hjn (y' := ⟨px, A9, c9, ⟨⟨ac + cn, ah + hn⟩, nx⟩, false⟩) (by simp only; rw [Hst.out]) rfl
      have hput := HF.out.put (v := ⟨e3, e4⟩) (y := ⟨px, A9, c9, ⟨⟨ac + cn, ah + hn⟩, nx⟩, false⟩) hb09 hszx (by unfold PlW.cells; simp only; rw [hnn]; exact k9) (by unfold PlW.nv; simp only; rw [hnn]; exact ho9) HB.out hmx hgx
      have Hput := Lib.hid hput
      have Hnew := Lib.hid hnew
      clear hput hnew hmx hgx hrun ho9 hm9 hb09 hF hszx k9 hb9 hw9 hpx hnn ho8 hjn hb8 hn7 hr7 hex ho7 hb7 hwdF
      go_wp2
      go_end0
      exact ⟨rfl, _, Hnew.out, Hput.out.1, Hput.out.2⟩
  | some y =>
    obtain ⟨yp, yA, yc, ⟨⟨bc, bh⟩, yn⟩, yd⟩ := y
    have hyy := Hys.out _ hgy
    simp only at hyy
    rw [hgy] at hlq
    simp only [Bool.false_eq_true, if_false, Vx.enc, Option.map, Option.getD, PlW.val] at hlq
    obtain ⟨hyb, -, hyo⟩ := HF0.out.get hgy
    unfold PlW.cells at hyb
    simp only at hyb
    obtain ⟨d0, d1, d2⟩ := blk3 hyb
    have Hyy := Lib.hid hyy
    have Hgy := Lib.hid hgy
    rcases Nat.lt_trichotomy (ac + cn) bc with hlt | heq | hgt
    · have ho : FloatKind.f64.format.order (flt (ac + cn)) (flt bc) = some .lt := by
        rw [fltOrder _ _ (by have := Hxs.out; have := Hcn.out; omega) (by omega), Nat.compare_eq_lt.2 hlt]
      have Hlt := Lib.hid hlt
      clear hgy hyy hyb hyo hlt
      rcases hcase with ⟨q, rfl, hcase, hby⟩ | ⟨q, rfl, hcase, rfl⟩
      all_goals
        go_enter Tryz.func56, Tryz.ntmps56
        go_wp2
        go_quiet (fail)
        go_wp2
        go_quiet (fail)
        go_wp2
        clear hlk hlq s0 s1 s2 s3 a0 a1 a2 a3 a4 b0 b1 b2 d0 d1 d2 hcase fx hadd ho
        refine wp_region_F (F := fun W => Below w0.heap.size w0 W) (n := 13) (m := 14) (s := #[false, false, false, false, false, false, false, false, false, false, false, false, false, false]) (by kernel_rfl) (by kernel_rfl) (by kernel_rfl) ?_
        intro wd hwd
        have hF : Below w0.heap.size w0 wd := by rw [hwd.out]; exact Below.drew (below_drewN (Below.refl _ _) _)
        clear hwd
        have hwdF := hF
        refine F_take (i := 0) (d := some 49) (by kernel_rfl) (by kernel_rfl) (by decide) (s' := #[true, false, false, false, false, false, false, false, false, false, false, false, false, false]) (by kernel_rfl) rfl rfl (by kernel_rfl) (by kernel_rfl) (by kernel_rfl) (fun _ _ _ h => h) (Or.inl ⟨by kernel_rfl, fun W hW => by go_simp; try with_reducible rfl⟩) hF ?_
        go_frame
        refine F_take (i := 1) (d := some 50) (by kernel_rfl) (by kernel_rfl) (by decide) (s' := #[true, true, false, false, false, false, false, false, false, false, false, false, false, false]) (by kernel_rfl) rfl rfl (by kernel_rfl) (by kernel_rfl) (by kernel_rfl) (fun _ _ _ h => h) (Or.inl ⟨by kernel_rfl, fun W hW => by go_simp; try with_reducible rfl⟩) hF ?_
        go_frame
        refine F_take (i := 2) (d := some 51) (by kernel_rfl) (by kernel_rfl) (by decide) (s' := #[true, true, true, false, false, false, false, false, false, false, false, false, false, false]) (by kernel_rfl) rfl rfl (by kernel_rfl) (by kernel_rfl) (by kernel_rfl) (fun _ _ _ h => h) (Or.inl ⟨by kernel_rfl, fun W hW => by go_simp; try with_reducible rfl⟩) hF ?_
        go_frame
        refine F_take (i := 3) (d := some 52) (by kernel_rfl) (by kernel_rfl) (by decide) (s' := #[true, true, true, true, false, false, false, false, false, false, false, false, false, false]) (by kernel_rfl) rfl rfl (by kernel_rfl) (by kernel_rfl) (by kernel_rfl) (fun _ _ _ h => h) (Or.inl ⟨by kernel_rfl, fun W hW => by obtain ⟨s0, s1, s2, s3, -⟩ := (HKs.out.below hW HKs.out.lt).cells4; go_simp; try with_reducible rfl⟩) hF ?_
        go_frame
        refine F_take (i := 4) (d := some 53) (by kernel_rfl) (by kernel_rfl) (by decide) (s' := #[true, true, true, true, true, false, false, false, false, false, false, false, false, false]) (by kernel_rfl) rfl rfl (by kernel_rfl) (by kernel_rfl) (by kernel_rfl) (fun _ _ _ h => h) (Or.inl ⟨by kernel_rfl, fun W hW => by go_simp; try with_reducible rfl⟩) hF ?_
        go_frame
        refine F_take (i := 5) (d := some 54) (by kernel_rfl) (by kernel_rfl) (by decide) (s' := #[true, true, true, true, true, true, false, false, false, false, false, false, false, false]) (by kernel_rfl) rfl rfl (by kernel_rfl) (by kernel_rfl) (by kernel_rfl) (fun _ _ _ h => h) (Or.inl ⟨by kernel_rfl, fun W hW => by obtain ⟨a0, a1, a2, a3, a4, -⟩ := (HK0.out.below hW HK0.out.lt).cells5; go_simp; try with_reducible rfl⟩) hF ?_
        go_frame
        refine F_take (i := 6) (d := some 55) (by kernel_rfl) (by kernel_rfl) (by decide) (s' := #[true, true, true, true, true, true, true, false, false, false, false, false, false, false]) (by kernel_rfl) rfl rfl (by kernel_rfl) (by kernel_rfl) (by kernel_rfl) (fun _ _ _ h => h) (Or.inl ⟨by kernel_rfl, fun W hW => by go_simp; try with_reducible rfl⟩) hF ?_
        go_frame
        refine F_take (i := 7) (d := some 56) (by kernel_rfl) (by kernel_rfl) (by decide) (s' := #[true, true, true, true, true, true, true, true, false, false, false, false, false, false]) (by kernel_rfl) rfl rfl (by kernel_rfl) (by kernel_rfl) (by kernel_rfl) (fun _ _ _ h => h) (Or.inl ⟨by kernel_rfl, fun W hW => by go_simp; try with_reducible rfl⟩) hF ?_
        go_frame
        refine F_take (i := 8) (d := some 57) (by kernel_rfl) (by kernel_rfl) (by decide) (s' := #[true, true, true, true, true, true, true, true, true, false, false, false, false, false]) (by kernel_rfl) rfl rfl (by kernel_rfl) (by kernel_rfl) (by kernel_rfl) (fun _ _ _ h => h) (Or.inl ⟨by kernel_rfl, fun W hW => by obtain ⟨a0, a1, a2, a3, a4, -⟩ := (HK0.out.below hW HK0.out.lt).cells5; go_simp; try with_reducible rfl⟩) hF ?_
        go_frame
        refine F_one (i := 9) (s' := #[true, true, true, true, true, true, true, true, true, true, false, false, false, false]) (by kernel_rfl) (by kernel_rfl) (wpOp_enterL (i := 9) (d := some 58) (f := 98) (args := #[.pointer (some ⟨ps, 0, none⟩), .agg #[.int .i64 e1, .int .i64 e2, .int .i64 e3, .int .i64 e4, .int .i64 cn]]) rfl rfl (by kernel_rfl) (by go_simp) ((HH.out wd hF).mono ?_))
        rintro r w7 ⟨⟨v7, rfl, ho7⟩, hb7⟩
        obtain ⟨A7, c7, hv7⟩ := ho7.shape
        subst hv7
        have hF := below_trans hF hF.size hb7
        have hex := ext_len ⟨1, ri⟩ ⟨e1, e2, e3, e4, cn⟩ pn
        have hr7 := (OwnR.rows (C := 2) (cells := Hp.cells) (fun _ => rfl) ho7).2
        obtain ⟨n7, hn7⟩ : ∃ n, (extH ⟨1, ri⟩ ⟨e1, e2, e3, e4, cn⟩ pn).length = n := ⟨_, rfl⟩
        rw [hn7]
        refine ⟨_, rfl, fun _ => hF, ?_⟩
        go_frame
        refine F_one (i := 10) (s' := #[true, true, true, true, true, true, true, true, true, true, true, false, false, false]) (by kernel_rfl) (by kernel_rfl) (wpOp_enterL (i := 10) (d := some 59) (f := 97) (args := #[.slice none 0 0, .slice A7 n7 c7]) rfl rfl (by kernel_rfl) (by go_simp) ((joined_any none A7 0 c7 [] (extH ⟨1, ri⟩ ⟨e1, e2, e3, e4, cn⟩ pn) w7 0 n7 rfl hn7.symm (rowsH_nil _) hr7 (by simp) (by have := Hxs.out; omega)).mono ?_))
        rintro r w8 ⟨⟨v8, nx, rfl, ho8, hjn⟩, hb8⟩
        obtain ⟨A9, c9, hv8⟩ := ho8.shape
        subst hv8
        have hF := below_trans hF hF.size hb8
        obtain ⟨nn, hnn⟩ : ∃ n, nx.length = n := ⟨_, rfl⟩
        rw [hnn] at ho8 ⊢
        refine ⟨_, rfl, fun _ => hF, ?_⟩
        go_frame
        refine F_take (i := 11) (d := some 60) (by kernel_rfl) (by kernel_rfl) (by decide) (s' := #[true, true, true, true, true, true, true, true, true, true, true, true, false, false]) (by kernel_rfl) rfl rfl (by kernel_rfl) (by kernel_rfl) (by kernel_rfl) (fun _ _ _ h => h) (Or.inl ⟨by kernel_rfl, fun W hW => by go_simp; try with_reducible rfl⟩) hF ?_
        go_frame
        refine F_one (i := 12) (s' := #[true, true, true, true, true, true, true, true, true, true, true, true, true, false]) (by kernel_rfl) (by kernel_rfl) ?_
        obtain ⟨w9, hw9⟩ : ∃ v, w8.alloc (.cells #[.complex .f64 (flt (ac + cn)) (flt (ah + hn)), .slice A9 nn c9, .bool false] 138) = v := ⟨_, rfl⟩
        have hb9 := below_new w8 (.cells #[.complex .f64 (flt (ac + cn)) (flt (ah + hn)), .slice A9 nn c9, .bool false] 138)
        have k9 := Blk.new w8 138 #[.complex .f64 (flt (ac + cn)) (flt (ah + hn)), .slice A9 nn c9, .bool false]
        obtain ⟨px, hpx⟩ : ∃ p, w8.heap.size = p := ⟨_, rfl⟩
        rw [hw9] at hb9 k9
        rw [hpx] at k9
        have hszx : w.heap.size ≤ px := by have := hF.size; have := Hb0.out.size; omega
        have hF := below_trans hF hF.size hb9
        refine wpOp_valueL (i := 12) (d := some 61) (w' := w9) (v := .pointer (some ⟨px, 0, none⟩)) rfl rfl (by kernel_rfl) (by go_simp) ⟨fun _ => hF, ?_⟩
        go_frame
        have hb09 := below_trans Hb0.out Hb0.out.size hF
        have hm9 := (HF.out.below hb09).map
        obtain ⟨wx, hrun, hmx, hgx, -⟩ := hm9.update_run (P := Tryz.prog) keyVx Tryz.underlying128 ⟨e3, e4⟩ (.pointer (some ⟨px, 0, none⟩))
        simp only [Vx.enc] at hrun
        refine F_one (i := 13) (s' := #[true, true, true, true, true, true, true, true, true, true, true, true, true, true]) (by kernel_rfl) (by kernel_rfl) (wpOp_skipL (i := 13) (w' := wx) rfl rfl (by kernel_rfl) (by go_simp) ⟨fun h => absurd h (by decide), ?_⟩)
        go_frame
        refine F_done (by kernel_rfl) ?_ _
        have ho9 := (ho8.lower (B' := B) (by have := hF.size; have := HB.out; have := Hb0.out.size; have := hb8.size; have h9 := below_trans Hb0.out Hb0.out.size (below_trans hwdF hwdF.size hb7); have := h9.size; omega)).below hb9
        have hnew := stepF_new (r := ⟨1, ri⟩) (e := ⟨e1, e2, e3, e4, cn⟩) Hx.out (fun q hq => by rw [show getF (⟨e1, e2, e3, e4, (cn : Int)⟩ : Ed).dst F = some _ from Hgy.out] at hq; cases hq; exact Hlt.out) hjn (y' := ⟨px, A9, c9, ⟨⟨ac + cn, ah + hn⟩, nx⟩, false⟩) (by simp only; rw [Hst.out]) rfl
        have hput := HF.out.put (v := ⟨e3, e4⟩) (y := ⟨px, A9, c9, ⟨⟨ac + cn, ah + hn⟩, nx⟩, false⟩) hb09 hszx (by unfold PlW.cells; simp only; rw [hnn]; exact k9) (by unfold PlW.nv; simp only; rw [hnn]; exact ho9) HB.out hmx hgx
        have Hput := Lib.hid hput
        have Hnew := Lib.hid hnew
        clear hput hnew hmx hgx hrun ho9 hm9 hb09 hF hszx k9 hb9 hw9 hpx hnn ho8 hjn hb8 hn7 hr7 hex ho7 hb7 hwdF
        go_wp2
        go_end0
        exact ⟨rfl, _, Hnew.out, Hput.out.1, Hput.out.2⟩
    · have ho : FloatKind.f64.format.order (flt (ac + cn)) (flt bc) = some .eq := by
        rw [fltOrder _ _ (by have := Hxs.out; have := Hcn.out; omega) (by omega), Nat.compare_eq_eq.2 heq]
      have hmin := fun ts t w => minFlt_run (ah + hn) bh (by have := Hxs.out; have := Hn1.out; omega) (by omega) ts t w
      obtain ⟨mh, hmh⟩ : ∃ m, min (ah + hn) bh = m := ⟨_, rfl⟩
      rw [hmh] at hmin
      have Hmh := Lib.hid hmh
      have Heq := Lib.hid heq
      have Hyb := Lib.hid hyb
      have Hyo := Lib.hid hyo
      have HNp := Lib.hid (own_ne hyo hyb (by decide))
      have HNs := Lib.hid (blk_ne_map HKs.out HF0.out.map)
      have HNe := Lib.hid (blk_ne_map HK0.out HF0.out.map)
      have hsto := fun n => (show (store ⟨yp, 0, none⟩ (.complex .f64 (flt (ac + cn)) (flt mh))).run Tryz.prog (w0.drewN n) = .ok () ((w0.drewN n).setCell ⟨yp, 0, none⟩ (.complex .f64 (flt (ac + cn)) (flt mh))) from by
        rw [run_store Tryz.prog _ _ _ _ rfl, (hyb.drewN n).cell 0, (hyb.drewN n).frozen 0]
        rfl)
      clear hgy hyy hyb hyo hmh heq
      rcases hcase with ⟨q, rfl, hcase, hby⟩ | ⟨q, rfl, hcase, rfl⟩
      all_goals
        go_enter Tryz.func56, Tryz.ntmps56
        go_wp2
        go_quiet (fail)
        go_wp2
        obtain ⟨nq1, hq1⟩ : ∃ n, n = nq := ⟨_, rfl⟩
        subst hq1
        go_quiet (fail)
        go_wp2
        obtain ⟨nq2, hq2⟩ : ∃ n, nq1 + nq = n := ⟨_, rfl⟩
        rw [hq2]
        obtain ⟨w5, hw5⟩ : ∃ v, (w0.drewN nq2).setCell ⟨yp, 0, none⟩ (.complex .f64 (flt (ac + cn)) (flt mh)) = v := ⟨_, rfl⟩
        rw [hw5]
        have hf5 := (HF0.out.below (below_drewN (Below.refl _ _) nq2)).fill (w' := w5) (v := ⟨e3, e4⟩) (y := ⟨yp, yA, yc, ⟨⟨ac + cn, mh⟩, yn⟩, yd⟩) Hgy.out rfl (by rw [← hw5]; exact ((Hyb.out.drewN nq2).set_ 0 _).to (by simp [PlW.cells])) (by rw [← hw5]; exact OwnR.far (Hyo.out.below (below_drewN (Below.refl _ _) nq2)) HNp.out _) (by rw [← hw5]; exact grown_setC _ _ _ _)
        have hk5 := hf5.2.blk (HKs.out.drewN nq2) HNs.out (by decide)
        have he5 := hf5.2.blk (HK0.out.drewN nq2) HNe.out (by decide)
        clear hlk hlq s0 s1 s2 s3 a0 a1 a2 a3 a4 b0 b1 b2 d0 d1 d2 hcase fx hadd ho hmin hsto hq2
        have hg5 : getF (⟨e1, e2⟩ : Vx) (setF ⟨e3, e4⟩ ⟨yp, yA, yc, ⟨⟨ac + cn, mh⟩, yn⟩, yd⟩ F) = some ⟨p, A, c, ⟨⟨ac, ah⟩, pn⟩, pd⟩ := by
          rw [getF_set, if_neg Hne.out]
          exact Hx.out
        have hq5 : getF (⟨e3, e4⟩ : Vx) (setF ⟨e3, e4⟩ ⟨yp, yA, yc, ⟨⟨ac + cn, mh⟩, yn⟩, yd⟩ F) = some ⟨yp, yA, yc, ⟨⟨ac + cn, mh⟩, yn⟩, yd⟩ := by rw [getF_set, if_pos rfl]
        have hp5 := (hf5.1.get hq5).1
        have ho5 := (hf5.1.get hq5).2.2
        unfold PlW.cells at hp5
        unfold PlW.nv at ho5
        simp only at hp5 ho5
        have HH5 := Lib.hid (fun W (hW : Below w5.heap.size w5 W) => hops_any e1 e2 e3 e4 cn ri ps be bf _ B W (hk5.below hW hk5.lt) (hf5.1.below hW) pn (fun _ => ⟨_, hg5, rfl⟩) (by have := Hxs.out; omega))
        have HF5 := Lib.hid hf5.1
        have hwM : Mv B bf w w5 := ((Mv.of_below Hb0.out HB.out).trans (Mv.of_below (below_drewN (Below.refl _ _) nq2) (Nat.le_trans HB.out Hb0.out.size)) HB.out).trans hf5.2 HB.out
        have HM5 := Lib.hid hwM
        have HQ5 := Lib.hid hq5
        have HK5 := Lib.hid he5
        have HP5 := Lib.hid hp5
        have HO5 := Lib.hid ho5
        have HB5 := Lib.hid (show B ≤ w5.heap.size from Nat.le_trans HB.out hwM.below.size)
        obtain ⟨ny, hny⟩ : ∃ n, yn.length = n := ⟨_, rfl⟩
        rw [hny] at HP5
        clear hf5 hk5 he5 hg5 hq5 hp5 ho5 hwM hw5
        refine wp_region_F (F := fun W => Below w5.heap.size w5 W) (n := 11) (m := 12) (s := #[false, false, false, false, false, false, false, false, false, false, false, false]) (by kernel_rfl) (by kernel_rfl) (by kernel_rfl) ?_
        intro wd hwd
        have hF : Below w5.heap.size w5 wd := by rw [hwd.out]; exact (Below.refl _ _).drew
        clear hwd
        have hwdF := hF
        refine F_take (i := 0) (d := some 85) (by kernel_rfl) (by kernel_rfl) (by decide) (s' := #[true, false, false, false, false, false, false, false, false, false, false, false]) (by kernel_rfl) rfl rfl (by kernel_rfl) (by kernel_rfl) (by kernel_rfl) (fun _ _ _ h => h) (Or.inl ⟨by kernel_rfl, fun W hW => by go_simp; try with_reducible rfl⟩) hF ?_
        go_frame
        refine F_take (i := 1) (d := some 86) (by kernel_rfl) (by kernel_rfl) (by decide) (s' := #[true, true, false, false, false, false, false, false, false, false, false, false]) (by kernel_rfl) rfl rfl (by kernel_rfl) (by kernel_rfl) (by kernel_rfl) (fun _ _ _ h => h) (Or.inl ⟨by kernel_rfl, fun W hW => by go_simp; try with_reducible rfl⟩) hF ?_
        go_frame
        refine F_take (i := 2) (d := some 87) (by kernel_rfl) (by kernel_rfl) (by decide) (s' := #[true, true, true, false, false, false, false, false, false, false, false, false]) (by kernel_rfl) rfl rfl (by kernel_rfl) (by kernel_rfl) (by kernel_rfl) (fun _ _ _ h => h) (Or.inl ⟨by kernel_rfl, fun W hW => by go_simp; try with_reducible rfl⟩) hF ?_
        go_frame
        refine F_take (i := 3) (d := some 88) (by kernel_rfl) (by kernel_rfl) (by decide) (s' := #[true, true, true, true, false, false, false, false, false, false, false, false]) (by kernel_rfl) rfl rfl (by kernel_rfl) (by kernel_rfl) (by kernel_rfl) (fun _ _ _ h => h) (Or.inl ⟨by kernel_rfl, fun W hW => by go_simp; try with_reducible rfl⟩) hF ?_
        go_frame
        refine F_take (i := 4) (d := some 89) (by kernel_rfl) (by kernel_rfl) (by decide) (s' := #[true, true, true, true, true, false, false, false, false, false, false, false]) (by kernel_rfl) rfl rfl (by kernel_rfl) (by kernel_rfl) (by kernel_rfl) (fun _ _ _ h => h) (Or.inl ⟨by kernel_rfl, fun W hW => by obtain ⟨d0, d1, d2⟩ := blk3 (HP5.out.below hW HP5.out.lt); go_simp; try with_reducible rfl⟩) hF ?_
        go_frame
        refine F_take (i := 5) (d := some 90) (by kernel_rfl) (by kernel_rfl) (by decide) (s' := #[true, true, true, true, true, true, false, false, false, false, false, false]) (by kernel_rfl) rfl rfl (by kernel_rfl) (by kernel_rfl) (by kernel_rfl) (fun _ _ _ h => h) (Or.inl ⟨by kernel_rfl, fun W hW => by go_simp; try with_reducible rfl⟩) hF ?_
        go_frame
        refine F_take (i := 6) (d := some 91) (by kernel_rfl) (by kernel_rfl) (by decide) (s' := #[true, true, true, true, true, true, true, false, false, false, false, false]) (by kernel_rfl) rfl rfl (by kernel_rfl) (by kernel_rfl) (by kernel_rfl) (fun _ _ _ h => h) (Or.inl ⟨by kernel_rfl, fun W hW => by obtain ⟨a0, a1, a2, a3, a4, -⟩ := (HK5.out.below hW HK5.out.lt).cells5; go_simp; try with_reducible rfl⟩) hF ?_
        go_frame
        refine F_one (i := 7) (s' := #[true, true, true, true, true, true, true, true, false, false, false, false]) (by kernel_rfl) (by kernel_rfl) (wpOp_enterL (i := 7) (d := some 92) (f := 98) (args := #[.pointer (some ⟨ps, 0, none⟩), .agg #[.int .i64 e1, .int .i64 e2, .int .i64 e3, .int .i64 e4, .int .i64 cn]]) rfl rfl (by kernel_rfl) (by go_simp) ((HH5.out wd hF).mono ?_))
        rintro r w7 ⟨⟨v7, rfl, ho7⟩, hb7⟩
        obtain ⟨A7, c7, hv7⟩ := ho7.shape
        subst hv7
        have hF := below_trans hF hF.size hb7
        have hex := ext_len ⟨1, ri⟩ ⟨e1, e2, e3, e4, cn⟩ pn
        have hr7 := (OwnR.rows (C := 2) (cells := Hp.cells) (fun _ => rfl) ho7).2
        obtain ⟨n7, hn7⟩ : ∃ n, (extH ⟨1, ri⟩ ⟨e1, e2, e3, e4, cn⟩ pn).length = n := ⟨_, rfl⟩
        rw [hn7]
        have hry := ((OwnR.rows (C := 2) (cells := Hp.cells) (fun _ => rfl) (HO5.out.below hF)).2)
        refine ⟨_, rfl, fun _ => hF, ?_⟩
        go_frame
        refine F_one (i := 8) (s' := #[true, true, true, true, true, true, true, true, true, false, false, false]) (by kernel_rfl) (by kernel_rfl) (wpOp_enterL (i := 8) (d := some 93) (f := 97) (args := #[.slice yA ny yc, .slice A7 n7 c7]) rfl rfl (by kernel_rfl) (by go_simp) ((joined_any yA A7 yc c7 yn (extH ⟨1, ri⟩ ⟨e1, e2, e3, e4, cn⟩ pn) w7 ny n7 hny.symm hn7.symm hry hr7 (by have := Hyy.out; omega) (by have := Hxs.out; omega)).mono ?_))
        rintro r w8 ⟨⟨v8, nx, rfl, ho8, hjn⟩, hb8⟩
        obtain ⟨A9, c9, hv8⟩ := ho8.shape
        subst hv8
        have hF := below_trans hF hF.size hb8
        obtain ⟨nn, hnn⟩ : ∃ n, nx.length = n := ⟨_, rfl⟩
        rw [hnn] at ho8 ⊢
        clear hry
        refine ⟨_, rfl, fun _ => hF, ?_⟩
        go_frame
        refine F_take (i := 9) (d := some 94) (by kernel_rfl) (by kernel_rfl) (by decide) (s' := #[true, true, true, true, true, true, true, true, true, true, false, false]) (by kernel_rfl) rfl rfl (by kernel_rfl) (by kernel_rfl) (by kernel_rfl) (fun _ _ _ h => h) (Or.inl ⟨by kernel_rfl, fun W hW => by go_simp; try with_reducible rfl⟩) hF ?_
        go_frame
        refine F_take (i := 10) (d := some 95) (by kernel_rfl) (by kernel_rfl) (by decide) (s' := #[true, true, true, true, true, true, true, true, true, true, true, false]) (by kernel_rfl) rfl rfl (by kernel_rfl) (by kernel_rfl) (by kernel_rfl) (fun _ _ _ h => h) (Or.inl ⟨by kernel_rfl, fun W hW => by go_simp; try with_reducible rfl⟩) hF ?_
        go_frame
        have k8 := HP5.out.below hF HP5.out.lt
        have d1 := k8.cell 1
        have f1 := k8.frozen 1
        simp only [List.getElem?_toArray, List.getElem?_cons_zero, List.getElem?_cons_succ] at d1
        obtain ⟨wx, hwx⟩ : ∃ v, w8.setCell ⟨yp, 1, none⟩ (.slice A9 nn c9) = v := ⟨_, rfl⟩
        refine F_one (i := 11) (s' := #[true, true, true, true, true, true, true, true, true, true, true, true]) (by kernel_rfl) (by kernel_rfl) (wpOp_skipL (i := 11) (w' := wx) rfl rfl (by kernel_rfl) (by go_simp) ⟨fun h => absurd h (by decide), ?_⟩)
        go_frame
        clear d1 f1
        refine F_done (by kernel_rfl) ?_ _
        have hnew := stepF_eq (r := ⟨1, ri⟩) (e := ⟨e1, e2, e3, e4, cn⟩) (F' := setF ⟨e3, e4⟩ ⟨yp, A9, c9, ⟨⟨ac + cn, mh⟩, nx⟩, yd⟩ (setF ⟨e3, e4⟩ ⟨yp, yA, yc, ⟨⟨ac + cn, mh⟩, yn⟩, yd⟩ F)) Hx.out Hgy.out (by simpa using Heq.out.symm) hjn (y' := ⟨yp, A9, c9, ⟨⟨ac + cn, mh⟩, nx⟩, yd⟩) (by simp only; rw [Hhn.out, Hmh.out, Heq.out]) rfl (fun v => by
          rw [getF_set, getF_set]
          show _ = if v = ⟨e3, e4⟩ then _ else _
          split <;> rfl)
        have hfl := (HF5.out.below hF).fill (w' := wx) (v := ⟨e3, e4⟩) (y := ⟨yp, A9, c9, ⟨⟨ac + cn, mh⟩, nx⟩, yd⟩) HQ5.out rfl (by rw [← hwx]; exact (k8.set_ 1 _).to (by simp [PlW.cells, hnn])) (by rw [← hwx]; unfold PlW.nv; simp only; rw [hnn]; exact OwnR.far (ho8.lower (Nat.le_trans HB5.out (below_trans hwdF hwdF.size hb7).size)) (own_ne ho8 k8 (by decide)) _) (by rw [← hwx]; exact grown_setC _ _ _ _)
        have Hnew := Lib.hid hnew
        have Hfl := Lib.hid hfl.1
        have Hmv := Lib.hid ((HM5.out.trans (Mv.of_below hF HB5.out) HB.out).trans hfl.2 HB.out)
        clear hnew hfl hwx k8 ho8 hjn hb8 hn7 hr7 hex ho7 hb7 hwdF hF hnn hny
        go_wp2
        go_end0
        exact ⟨rfl, _, Hnew.out, Hfl.out, Hmv.out⟩
    · have ho : FloatKind.f64.format.order (flt (ac + cn)) (flt bc) = some .gt := by
        rw [fltOrder _ _ (by have := Hxs.out; have := Hcn.out; omega) (by omega), Nat.compare_eq_gt.2 hgt]
      have Hgt := Lib.hid hgt
      clear hgy hyy hyb hyo hgt
      rcases hcase with ⟨q, rfl, hcase, hby⟩ | ⟨q, rfl, hcase, rfl⟩
      all_goals
        go_enter Tryz.func56, Tryz.ntmps56
        go_wp2
        go_quiet (fail)
        go_wp2
        go_quiet (fail)
        go_wp2
        go_end0
        have hmv := (Mv.of_below (B := B) (bf := bf) Hb0.out HB.out)
        refine ⟨rfl, F, stepF_gt (e := ⟨e1, e2, e3, e4, cn⟩) Hx.out Hgy.out (by simpa using Hgt.out), (HF0.out.below (below_drewN (Below.refl _ _) _)), ?_⟩
        exact ⟨below_drewN hmv.below _, hmv.kept⟩

end Go.Proofs.YtpnbibokddhheaaGreat

/-
  Layer 21: which one is looked at next: the program's way.
-/
namespace Go.Proofs.YtpnbibokddhheaaGreat
open Go.RowKit Go.Sort Go.Proofs

def aheadI (a b : Vx) (x y : Nat) : Int := orL [cmpI x y, cmpI b.kind a.kind, cmpI a.id b.id]
theorem ahead_le {a b : Vx} {x y : Nat} : aheadI a b x y < 0 ↔ x < y ∨ (x = y ∧ (b.kind < a.kind ∨ (b.kind = a.kind ∧ a.id < b.id))) := by
  unfold aheadI
  rcases cmpI_cases x y with ⟨h, e⟩ | ⟨h, h', e⟩ | ⟨h, h', e⟩ <;> rw [e] <;> rcases cmpI_cases b.kind a.kind with ⟨g, e2⟩ | ⟨g, g', e2⟩ | ⟨g, g', e2⟩ <;> rw [e2] <;> rcases cmpI_cases a.id b.id with ⟨k, e3⟩ | ⟨k, k', e3⟩ | ⟨k, k', e3⟩ <;> rw [e3] <;> simp [orL] <;> omega
theorem cmpF_q (x y : Nat) (hx : x < 2 ^ 53) (hy : y < 2 ^ 53) (W : World) (n : Nat) : Calls Tryz.prog 140 #[.float .f64 (flt x), .float .f64 (flt y)] (W.drewN n) fun r w' => r = .returned (.int .i64 (cmpI x y)) ∧ ∃ q, w' = W.drewN q :=
  (cmpF_s x y hx hy _).mono fun _ _ ⟨h1, h2⟩ => ⟨h1, n, h2.symm⟩
set_option maxHeartbeats 4000000 in
set_option maxRecDepth 100000 in
theorem ahead_any (a1 a2 b1 b2 : Int) (x xh y yh : Nat) (hx : x < 2 ^ 53) (hy : y < 2 ^ 53) (w : World) : Calls Tryz.prog 96 #[.agg #[.int .i64 a1, .int .i64 a2], .agg #[.int .i64 b1, .int .i64 b2], .complex .f64 (flt x) xh, .complex .f64 (flt y) yh] w fun r w' => r = .returned (.bool (decide (aheadI ⟨a1, a2⟩ ⟨b1, b2⟩ x y < 0))) ∧ Below w.heap.size w w' := by
  obtain ⟨w0, hW0⟩ : ∃ w0, (w.alloc (.cells #[.int .i64 a1, .int .i64 a2] 39)).alloc (.cells #[.int .i64 b1, .int .i64 b2] 39) = w0 := ⟨_, rfl⟩
  have hA : Blk w0 w.heap.size 39 #[.int .i64 a1, .int .i64 a2] := by rw [← hW0]; exact (Blk.new w _ _).alloc _
  have hB : Blk w0 (w.heap.size + 1) 39 #[.int .i64 b1, .int .i64 b2] := by rw [← hW0]; exact Blk.size (by simp)
  have Hg : Hid (Below w.heap.size w w0) := Lib.hid (by rw [← hW0]; exact ((Below.refl _ _).alloc (Nat.le_refl _) _).alloc (by simp) _)
  obtain ⟨a_0, a_1⟩ : _ ∧ _ := ⟨hA.cell 0, hA.cell 1⟩
  obtain ⟨b_0, b_1⟩ : _ ∧ _ := ⟨hB.cell 0, hB.cell 1⟩
  simp only [List.getElem?_toArray, List.getElem?_cons_zero, List.getElem?_cons_succ] at a_0 a_1 b_0 b_1
  have HC := Lib.hid (fun W n => cmpF_q x y hx hy W n)
  clear hA hB hx hy
  go_enter Tryz.func96, Tryz.ntmps96
  go_wp2_with fail
  refine wp_drew_tail 15 (by kernel_rfl) (by kernel_rfl) ?_
  simp only [List.take_succ_cons, List.take_zero, List.drop_succ_cons, List.drop_zero]
  repeat (go_big_quiet_step (first | exact HC.out _ _ | exact cmp_q _ _ _ _))
  refine wpQuiet_nil ?_
  rintro w3 ⟨dq, rfl⟩
  go_wp2_with (go_at_call 59; (with_reducible refine Calls.mono (or3_s _ _ _ _) ?_); rintro r w4 ⟨rfl, rfl⟩)
  go_ret
  exact ⟨rfl, below_trans (below_drewN Hg.out _) (below_drewN Hg.out _).size (below_new _ _)⟩

theorem valsF_split {R : Fnd} {pre post : List (Vx × Value)} {e : Vx × Value} (h : valsF R = pre ++ e :: post) : ∃ P v x Q, R = P ++ (v, x) :: Q ∧ pre = valsF P ∧ post = valsF Q ∧ e = (v, x.val) := by
  unfold valsF at h
  obtain ⟨P, q, rfl, h1, h2⟩ := List.map_eq_append_iff.1 h
  obtain ⟨⟨v, x⟩, Q, rfl, h3, h4⟩ := List.map_eq_cons_iff.1 h2
  exact ⟨P, v, x, Q, rfl, h1.symm, h4.symm, h3.symm⟩
theorem valsF_append (P Q : Fnd) : valsF P ++ valsF Q = valsF (P ++ Q) := by simp [valsF]
/-- the best of what was seen -/
def BestOf (D : Fnd) : Option (Vx × PlW) → Prop
  | none => ∀ e ∈ D, e.2.done = true
  | some b => b ∈ D ∧ b.2.done = false ∧ ∀ e ∈ D, e.2.done = false → rankV b.1 b.2.pl.a ≤ rankV e.1 e.2.pl.a
theorem BestOf.done {D : Fnd} {b : Option (Vx × PlW)} {v : Vx} {x : PlW} (h : BestOf D b) (hd : x.done = true) : BestOf (D ++ [(v, x)]) b := by
  cases b with
  | none =>
    intro e he
    rcases List.mem_append.1 he with he | he
    · exact h e he
    · rw [List.mem_singleton] at he; rw [he]; exact hd
  | some b =>
    obtain ⟨h1, h2, h3⟩ := h
    refine ⟨List.mem_append_left _ h1, h2, fun e he hed => ?_⟩
    rcases List.mem_append.1 he with he | he
    · exact h3 e he hed
    · rw [List.mem_singleton] at he; rw [he] at hed; rw [hd] at hed; cases hed
theorem BestOf.first {D : Fnd} {v : Vx} {x : PlW} (h : BestOf D none) (hd : x.done = false) : BestOf (D ++ [(v, x)]) (some (v, x)) := by
  refine ⟨by simp, hd, fun e he hed => ?_⟩
  rcases List.mem_append.1 he with he | he
  · rw [h e he] at hed; cases hed
  · rw [List.mem_singleton] at he; rw [he]; exact Nat.le_refl _
theorem rank_ahead {a b : Vx} {x y : Val2} (ha : a.kind = 1 ∨ a.kind = 2) (hb : b.kind = 1 ∨ b.kind = 2) : (aheadI a b x.c y.c < 0 → rankV a x ≤ rankV b y) ∧ (¬ aheadI a b x.c y.c < 0 → rankV b y ≤ rankV a x) := by
  rw [ahead_le]
  unfold rankV
  constructor
  · intro h
    split <;> split <;> omega
  · intro h
    split <;> split <;> omega
theorem BestOf.ahead {D : Fnd} {v : Vx} {x : PlW} {b : Vx × PlW} (h : BestOf D (some b)) (hd : x.done = false) (hr : rankV v x.pl.a ≤ rankV b.1 b.2.pl.a) : BestOf (D ++ [(v, x)]) (some (v, x)) := by
  obtain ⟨h1, h2, h3⟩ := h
  refine ⟨by simp, hd, fun e he hed => ?_⟩
  rcases List.mem_append.1 he with he | he
  · exact Nat.le_trans hr (h3 e he hed)
  · rw [List.mem_singleton] at he; rw [he]; exact Nat.le_refl _
theorem BestOf.behind {D : Fnd} {v : Vx} {x : PlW} {b : Vx × PlW} (h : BestOf D (some b)) (hr : rankV b.1 b.2.pl.a ≤ rankV v x.pl.a) : BestOf (D ++ [(v, x)]) (some b) := by
  obtain ⟨h1, h2, h3⟩ := h
  refine ⟨List.mem_append_left _ h1, h2, fun e he hed => ?_⟩
  rcases List.mem_append.1 he with he | he
  · exact h3 e he hed
  · rw [List.mem_singleton] at he; rw [he]; exact hr
theorem BestOf.perm {D D' : Fnd} {b : Option (Vx × PlW)} (h : BestOf D b) (hp : D.Perm D') : BestOf D' b := by
  cases b with
  | none => exact fun e he => h e (hp.mem_iff.2 he)
  | some b => exact ⟨hp.mem_iff.1 h.1, h.2.1, fun e he => h.2.2 e (hp.mem_iff.2 he)⟩
/-- the vertex of it; nothing: of no kind -/
def bestV : Option (Vx × PlW) → Vx
  | none => ⟨0, 0⟩
  | some b => b.1
theorem Blk.put2 {w : World} {g : Nat} {t : TypeId} {a b : Value} (h : Blk w g t #[a, b]) (a' b' : Value) : Blk ((w.setCell ⟨g, 0, none⟩ a').setCell ⟨g, 1, none⟩ b') g t #[a', b'] := ((h.set_ 0 a').set_ 1 b').to (by simp)
/-- what lies in memory while it is gone over -/
structure NearSt (w wr : World) (bf g2 g4 ri : Nat) (F D R : Fnd) (b : Option (Vx × PlW)) : Prop where
  rng : RangeAt Vx.enc wr bf ri (valsF F) (valsF R)
  perm : (D ++ R).Perm F
  best : BestOf D b
  res : Blk wr g2 39 #[.int .i64 0, .int .i64 0]
  cur : Blk wr g4 39 #[.int .i64 (bestV b).kind, .int .i64 (bestV b).id]
  bel : Below w.heap.size w wr
set_option maxHeartbeats 8000000 in
set_option maxRecDepth 100000 in
theorem nearest_any (ri0 : Int) (ps be bf : Nat) (F : Fnd) (B : Nat) (w : World) (hk : Blk w ps 130 #[.int .i64 1, .int .i64 ri0, .map (some be), .map (some bf)]) (hF : FndAt w B bf F) (hm : ∀ e ∈ F, mayV e.1 = true) (hsm : ∀ e ∈ F, e.2.pl.a.c ≤ 100000) :
    Calls Tryz.prog 55 #[.pointer (some ⟨ps, 0, none⟩)] w fun r w' => (∃ b, r = .returned (.tuple #[.agg #[.int .i64 (bestV b).kind, .int .i64 (bestV b).id], .bool b.isSome]) ∧ BestOf F b) ∧ Below w.heap.size w w' := by
  obtain ⟨w2, hw2⟩ : ∃ w2, (w.alloc (.cells #[.int .i64 0, .int .i64 0] 39)).alloc (.cells #[.int .i64 0, .int .i64 0] 39) = w2 := ⟨_, rfl⟩
  have hb2 : Below w.heap.size w w2 := by rw [← hw2]; exact ((Below.refl _ _).alloc (Nat.le_refl _) _).alloc (by simp) _
  have hk2 : Blk w2 w.heap.size 39 #[.int .i64 0, .int .i64 0] := by rw [← hw2]; exact (Blk.new w _ _).alloc _
  have hk4 : Blk w2 (w.heap.size + 1) 39 #[.int .i64 0, .int .i64 0] := by rw [← hw2]; exact Blk.size (by simp)
  have hs2 : w2.heap.size = w.heap.size + 2 := by rw [← hw2]; simp
  have HKs := Lib.hid hk
  have HF := Lib.hid hF
  have Hm := Lib.hid hm
  have Hsm := Lib.hid hsm
  have Hb2 := Lib.hid hb2
  have Hk2 := Lib.hid hk2
  have Hk4 := Lib.hid hk4
  have Hs2 := Lib.hid hs2
  have HM2 := Lib.hid (hF.below hb2).map
  obtain ⟨s0, s1, s2, s3, -⟩ := (hk.below hb2 hk.lt).cells4
  clear hk hF hm hsm hb2 hk2 hk4 hs2
  go_enter Tryz.func55, Tryz.ntmps55
  go_wp2_with (at_range; refine wpList_range_st _ rfl _ 128 rfl 39 135 Tryz.underlying128 rfl HM2.out ?_; intro w3 hr3 hb3 hs3; have HR3 := Lib.hid hr3; have Hb3 := Lib.hid hb3; clear hr3 hb3 hs3)
  have HS0 := Lib.hid (show NearSt w w3 bf w.heap.size (w.heap.size + 1) w2.heap.size F [] F none from ⟨HR3.out, by rw [List.nil_append], fun e he => (by cases he), Hk2.out.below Hb3.out Hk2.out.lt, Hk4.out.below Hb3.out Hk4.out.lt, below_trans Hb2.out Hb2.out.size Hb3.out⟩)
  clear s0 s1 s2 s3 hw2
  go_frame
  go_loopw [5] (fun is wr => ∃ D R b, is = .bool b.isSome ∧ NearSt w wr bf w.heap.size (w.heap.size + 1) w2.heap.size F D R b) (fun _ wr => wr.rangeLeft bf w2.heap.size)
  case atStart => exact ⟨[], F, none, rfl, HS0.out⟩
  case round =>
    obtain ⟨D, R, b, rfl, hst⟩ := hrel
    have HSt := Lib.hid hst
    clear hst HS0
    go_wp2_with (at_next; refine wpList_next_st _ rfl _ rfl keyVx.inj rfl HSt.out.rng ?_ ?_)
    · intro h0
      have hR0 : R = [] := by simpa [valsF] using h0
      subst hR0
      clear h0
      have hB := HSt.out.best.perm (D' := F) (by simpa using HSt.out.perm)
      have HB := Lib.hid hB
      obtain ⟨⟨bk, bi⟩, hbv⟩ : ∃ v, bestV b = v := ⟨_, rfl⟩
      have hc4 := HSt.out.cur
      rw [hbv] at hc4
      obtain ⟨c0, c1, -, -⟩ := hc4.cells2
      obtain ⟨r0, r1, rf0, rf1⟩ := HSt.out.res.cells2
      have Hbv := Lib.hid hbv
      simp only at c0 c1
      clear hB hc4 hbv
      go_wp2
      refine bodyPost_named (v := .tuple #[.agg #[.int .i64 bk, .int .i64 bi], .bool b.isSome]) (fun W => Blk W w.heap.size 39 #[.int .i64 bk, .int .i64 bi]) (Blk.put2 HSt.out.res (.int .i64 bk) (.int .i64 bi)) (fun W hB => by
        obtain ⟨e0, e1, -, -⟩ := hB.cells2
        simp [results, Tryz.results55, go_sem, e0, e1]) rfl ?_
      refine ⟨⟨b, by rw [Hbv.out], HB.out⟩, (HSt.out.bel.setCell (p := ⟨w.heap.size, 0, none⟩) (Nat.le_refl _) _).setCell (p := ⟨w.heap.size, 1, none⟩) (Nat.le_refl _) _⟩
    · intro pre e ev post w5 hsplit hrg5 hg5 hs5 hen
      obtain ⟨P, ⟨vk, vi⟩, x, Q, hR, rfl, rfl, he⟩ := valsF_split hsplit
      injection he with he1 he2
      subst he1 he2
      rw [valsF_append] at hrg5
      have hmeas : (valsF (P ++ Q)).length < (valsF R).length := by rw [hR]; simp [valsF]
      have hperm2 : (D ++ [((⟨vk, vi⟩ : Vx), x)] ++ (P ++ Q)).Perm F := by
        refine List.Perm.trans ?_ HSt.out.perm
        rw [hR, List.append_assoc]
        refine List.Perm.append_left D ?_
        rw [List.singleton_append]
        exact List.perm_middle.symm
      have hxF : ((⟨vk, vi⟩ : Vx), x) ∈ F := hperm2.mem_iff.1 (by simp)
      have hb5 : Below w.heap.size w w5 := HSt.out.bel.grown hg5 HSt.out.bel.size (fun m e => by injection e with e; have := Hb2.out.size; omega)
      have hlr : w2.heap.size < wr.heap.size := HSt.out.rng.lt
      have hr5 := HSt.out.res.grown hg5 (fun e => by injection e with e; have := Hs2.out; omega)
      have hc5 := HSt.out.cur.grown hg5 (fun e => by injection e with e; have := Hs2.out; omega)
      have hx5 := (HF.out.below hb5).blk _ hxF
      have Hxm := Lib.hid (Hm.out _ hxF)
      have Hxs := Lib.hid (Hsm.out _ hxF)
      have Hmeas := Lib.hid hmeas
      have Hperm2 := Lib.hid hperm2
      have HBst := Lib.hid HSt.out.best
      have hbF : ∀ e, b = some e → getF e.1 F = some e.2 ∧ e ∈ F := by
        intro e he
        subst he
        have h1 := HSt.out.best.1
        have h2 : e ∈ F := hperm2.mem_iff.1 (List.mem_append_left _ (List.mem_append_left _ h1))
        exact ⟨getF_of_mem HF.out.keys h2, h2⟩
      have HbF := Lib.hid hbF
      obtain ⟨p, A, c, ⟨⟨ac, ah⟩, pn⟩, pd⟩ := x
      unfold PlW.cells at hx5
      simp only at hx5
      unfold Vx.enc PlW.val at hen
      simp only at hen
      obtain ⟨w6, hw6⟩ : ∃ w6, w5.alloc (.cells #[.int .i64 vk, .int .i64 vi] 39) = w6 := ⟨_, rfl⟩
      have hk6 := Blk.new w5 39 #[.int .i64 vk, .int .i64 vi]
      have hb6 := below_new w5 (.cells #[.int .i64 vk, .int .i64 vi] 39)
      rw [hw6] at hk6 hb6
      have HR6 := Lib.hid (hrg5.below hb6 hrg5.map.lt hrg5.lt)
      have HB6 := Lib.hid (below_trans hb5 hb5.size hb6)
      have Hr6 := Lib.hid (hr5.below hb6 hr5.lt)
      have Hc6 := Lib.hid (hc5.below hb6 hc5.lt)
      have Hx6 := Lib.hid (hx5.1.below hb6 hx5.1.lt)
      have Hk6 := Lib.hid hk6
      obtain ⟨k0, k1, -, -⟩ := hk6.cells2
      obtain ⟨x0, x1, x2⟩ := blk3 Hx6.out
      have hkeep : ∀ b', BestOf (D ++ [((⟨vk, vi⟩ : Vx), (⟨p, A, c, ⟨⟨ac, ah⟩, pn⟩, pd⟩ : PlW))]) b' → bestV b' = bestV b → ∀ W, Below w6.heap.size w6 W → NearSt w W bf w.heap.size (w.heap.size + 1) w2.heap.size F (D ++ [((⟨vk, vi⟩ : Vx), (⟨p, A, c, ⟨⟨ac, ah⟩, pn⟩, pd⟩ : PlW))]) (P ++ Q) b' := by
        intro b' h1 h2 W hW
        exact ⟨HR6.out.below hW HR6.out.map.lt HR6.out.lt, Hperm2.out, h1, Hr6.out.below hW Hr6.out.lt, by rw [h2]; exact Hc6.out.below hW Hc6.out.lt, below_trans HB6.out HB6.out.size hW⟩
      have Hkeep := Lib.hid hkeep
      clear hsplit hrg5 hg5 hs5 hR hmeas hperm2 hxF hb5 hlr hr5 hc5 hx5 hbF hk6 hb6 hkeep
      cases pd with
      | true =>
        have HN := Lib.hid (Hkeep.out b (HBst.out.done rfl) rfl)
        go_wp2
        go_quiet (fail)
        go_wp2
        go_roundw
        case measure => rw [(HN.out _ (below_drewN (Below.refl _ _) _)).rng.left_eq, HSt.out.rng.left_eq]; exact Hmeas.out
        case rel => exact ⟨_, _, b, rfl, HN.out _ (below_drewN (Below.refl _ _) _)⟩
      | false =>
        have hput : ∀ b', b' = ((⟨vk, vi⟩ : Vx), (⟨p, A, c, ⟨⟨ac, ah⟩, pn⟩, false⟩ : PlW)) → BestOf (D ++ [((⟨vk, vi⟩ : Vx), (⟨p, A, c, ⟨⟨ac, ah⟩, pn⟩, false⟩ : PlW))]) (some b') → ∀ W, Below w6.heap.size w6 W → NearSt w ((W.setCell ⟨w.heap.size + 1, 0, none⟩ (.int .i64 vk)).setCell ⟨w.heap.size + 1, 1, none⟩ (.int .i64 vi)) bf w.heap.size (w.heap.size + 1) w2.heap.size F (D ++ [((⟨vk, vi⟩ : Vx), (⟨p, A, c, ⟨⟨ac, ah⟩, pn⟩, false⟩ : PlW))]) (P ++ Q) (some b') := by
          intro b' hb' h1 W hW
          have hr := HR6.out.below hW HR6.out.map.lt HR6.out.lt
          have hlt := HF.out.map.lt
          have e1 : bf ≠ w.heap.size + 1 := by omega
          have e2 : w2.heap.size ≠ w.heap.size + 1 := by have := Hs2.out; omega
          have hg1 := grown_setC W (w.heap.size + 1) 0 (.int .i64 vk)
          have hg2 := grown_setC (W.setCell ⟨w.heap.size + 1, 0, none⟩ (.int .i64 vk)) (w.heap.size + 1) 1 (.int .i64 vi)
          refine ⟨(hr.grown hg1 (fun e => e1 (by injection e)) (fun e => e2 (by injection e))).grown hg2 (fun e => e1 (by injection e)) (fun e => e2 (by injection e)), Hperm2.out, h1, ?_, ?_, ?_⟩
          · have h := Hr6.out.below hW Hr6.out.lt
            exact (h.far (p := ⟨w.heap.size + 1, 0, none⟩) (by simp only; omega) _).far (p := ⟨w.heap.size + 1, 1, none⟩) (by simp only; omega) _
          · subst hb'
            exact Blk.put2 (Hc6.out.below hW Hc6.out.lt) _ _
          · exact ((below_trans HB6.out HB6.out.size hW).setCell (p := ⟨w.heap.size + 1, 0, none⟩) (by simp only; omega) _).setCell (p := ⟨w.heap.size + 1, 1, none⟩) (by simp only; omega) _
        have Hput := Lib.hid hput
        clear hput
        cases b with
        | none =>
          have HN := Lib.hid (Hput.out _ rfl (HBst.out.first rfl))
          have hc6 := Hc6.out
          unfold bestV at hc6
          simp only at hc6
          obtain ⟨c0, c1, cf0, cf1⟩ := hc6.cells2
          clear hc6
          go_wp2
          go_quiet (fail)
          go_wp2
          go_roundw
          case measure => rw [(HN.out _ (below_drewN (Below.refl _ _) _)).rng.left_eq, HSt.out.rng.left_eq]; exact Hmeas.out
          case rel => exact ⟨_, _, _, rfl, HN.out _ (below_drewN (Below.refl _ _) _)⟩
        | some b =>
          obtain ⟨⟨bk, bi⟩, ⟨bp, bA, bcc, ⟨⟨bc, bh⟩, bn⟩, bd⟩⟩ := b
          have hc6 := Hc6.out
          unfold bestV at hc6
          simp only at hc6
          obtain ⟨c0, c1, cf0, cf1⟩ := hc6.cells2
          obtain ⟨hgb, hbm⟩ := HbF.out _ rfl
          simp only at hgb
          have hF6 := HF.out.below HB6.out
          have hbb := (hF6.get hgb).1
          unfold PlW.cells at hbb
          simp only at hbb
          obtain ⟨d0, d1, d2⟩ := blk3 hbb
          obtain ⟨s0, s1, s2, s3, -⟩ := (HKs.out.below HB6.out HKs.out.lt).cells4
          have hlk := fun n => (hF6.map.drewN n).look_run keyVx Tryz.underlying128 (zeroPl _) ⟨bk, bi⟩ false
          rw [show getL (⟨bk, bi⟩ : Vx) (valsF F) = some (.pointer (some ⟨bp, 0, none⟩)) by rw [getL_vals, hgb]; rfl] at hlk
          simp only [Bool.false_eq_true, if_false, Vx.enc, Option.getD] at hlk
          have hbms := Hsm.out _ hbm
          simp only at hbms
          have hxs := Hxs.out
          simp only at hxs
          have HA := Lib.hid (fun W => ahead_any vk vi bk bi ac (flt ah) bc (flt bh) (by omega) (by omega) W)
          have hkd : ∀ v, mayV v = true → v.kind = 1 ∨ v.kind = 2 := fun v h => by
            rcases mayV_iff.1 h with ⟨g, -⟩ | ⟨g, -⟩
            · exact .inl g
            · exact .inr g
          have Hrank := Lib.hid (rank_ahead (a := ⟨vk, vi⟩) (b := ⟨bk, bi⟩) (x := ⟨ac, ah⟩) (y := ⟨bc, bh⟩) (hkd _ Hxm.out) (hkd _ (Hm.out _ hbm)))
          clear hc6 hgb hbm hF6 hbb hbms hxs hkd
          go_wp2_with fail
          refine wp_drew_tail 24 (by kernel_rfl) (by kernel_rfl) ?_
          simp only [List.take_succ_cons, List.take_zero, List.drop_succ_cons, List.drop_zero]
          repeat (go_big_quiet_step (fail))
          refine wpQuiet_nil ?_
          rintro w7 ⟨dq, rfl⟩
          clear s0 s1 s2 s3 d0 d1 d2 x0 x1 x2 k0 k1 hlk c0 c1 cf0 cf1
          go_wp2_with fail
          with_reducible refine Calls.mono (HA.out _) ?_
          rintro r w8 ⟨rfl, hb8⟩
          have hb68 : Below w6.heap.size w6 w8 := (below_drewN (Below.refl _ _) dq).trans hb8
          have Hb68 := Lib.hid hb68
          have hk8 := Hk6.out.below hb68 Hk6.out.lt
          obtain ⟨k0, k1, -, -⟩ := hk8.cells2
          have hc8 := Hc6.out.below hb68 Hc6.out.lt
          unfold bestV at hc8
          simp only at hc8
          obtain ⟨c0, c1, cf0, cf1⟩ := hc8.cells2
          clear hb8 hb68 hk8 hc8
          by_cases hah : aheadI ⟨vk, vi⟩ ⟨bk, bi⟩ ac bc < 0
          · have HN := Lib.hid (Hput.out _ rfl (HBst.out.ahead rfl (Hrank.out.1 hah)))
            have hd : decide (aheadI ⟨vk, vi⟩ ⟨bk, bi⟩ ac bc < 0) = true := decide_eq_true hah
            clear hah
            go_wp2
            go_roundw
            case measure => rw [(HN.out _ Hb68.out).rng.left_eq, HSt.out.rng.left_eq]; exact Hmeas.out
            case rel => exact ⟨_, _, _, rfl, HN.out _ Hb68.out⟩
          · have HN := Lib.hid (Hkeep.out _ (HBst.out.behind (Hrank.out.2 (by omega))) rfl)
            have hd : decide (aheadI ⟨vk, vi⟩ ⟨bk, bi⟩ ac bc < 0) = false := decide_eq_false hah
            clear hah
            go_wp2
            go_roundw
            case measure => rw [(HN.out _ Hb68.out).rng.left_eq, HSt.out.rng.left_eq]; exact Hmeas.out
            case rel => exact ⟨_, _, _, rfl, HN.out _ Hb68.out⟩

end Go.Proofs.YtpnbibokddhheaaGreat

/-
  Layer 21: the edges by the vertices from which they go: rows of the call's own in a map of its own.
-/
namespace Go.Proofs.YtpnbibokddhheaaGreat
open Go.RowKit

abbrev EdR := Value × List Ed
abbrev EdG := List (Vx × EdR)
def edV (G : EdG) : List (Vx × Value) := G.map fun e => (e.1, e.2.1)
def getG (v : Vx) : EdG → Option EdR
  | [] => none
  | e :: G => if e.1 = v then some e.2 else getG v G
def setG (v : Vx) (x : EdR) : EdG → EdG
  | [] => [(v, x)]
  | e :: G => if e.1 = v then (v, x) :: G else e :: setG v x G
theorem getL_edV (v : Vx) : ∀ G : EdG, getL v (edV G) = (getG v G).map (·.1)
  | [] => rfl
  | e :: G => by
    have ih := getL_edV v G
    simp only [edV, List.map_cons] at ih ⊢
    unfold getL getG
    by_cases h : e.1 = v
    · rw [if_pos h, if_pos h]; rfl
    · rw [if_neg h, if_neg h]; exact ih
theorem setL_edV (v : Vx) (x : EdR) : ∀ G : EdG, setL v x.1 (edV G) = edV (setG v x G)
  | [] => rfl
  | e :: G => by
    have ih := setL_edV v x G
    simp only [edV, List.map_cons] at ih ⊢
    unfold setL setG
    by_cases h : e.1 = v
    · rw [if_pos h, if_pos h]; rfl
    · rw [if_neg h, if_neg h, ih]; rfl
theorem setL_twice {κ : Type} [DecidableEq κ] (k : κ) (a b : Value) : ∀ L : List (κ × Value), setL k a (setL k b L) = setL k a L
  | [] => by simp [setL]
  | e :: L => by
    have ih := setL_twice k a b L
    by_cases h : e.1 = k
    · simp [setL, h]
    · simp [setL, h, ih]
theorem getG_set (u v : Vx) (x : EdR) : ∀ G : EdG, getG u (setG v x G) = if u = v then some x else getG u G
  | [] => by
    unfold setG getG
    by_cases h : u = v
    · simp [h]
    · simp [h, Ne.symm h, getG]
  | e :: G => by
    have ih := getG_set u v x G
    unfold setG
    by_cases h1 : e.1 = v
    · rw [if_pos h1]
      by_cases h2 : u = v
      · simp [getG, h2]
      · have h3 : ¬ e.1 = u := fun e' => h2 (by rw [← e', h1])
        have h4 : ¬ v = u := fun e' => h2 e'.symm
        simp [getG, h2, h3, h4]
    · rw [if_neg h1]
      unfold getG
      by_cases h2 : e.1 = u
      · have h3 : ¬ u = v := fun e' => h1 (by rw [h2, e'])
        simp [h2, h3]
      · simp [h2, ih]
theorem getG_mem {v : Vx} {x : EdR} : ∀ {G : EdG}, getG v G = some x → (v, x) ∈ G
  | [], h => by cases h
  | e :: G, h => by
    unfold getG at h
    by_cases he : e.1 = v
    · rw [if_pos he] at h
      cases h
      subst he
      simp
    · rw [if_neg he] at h
      exact List.mem_cons_of_mem _ (getG_mem h)
theorem getG_of_mem {v : Vx} {x : EdR} : ∀ {G : EdG}, (G.map (·.1)).Nodup → (v, x) ∈ G → getG v G = some x
  | [], _, h => by simp at h
  | e :: G, hn, h => by
    simp only [List.map_cons, List.nodup_cons] at hn
    unfold getG
    rcases List.mem_cons.1 h with rfl | h
    · simp
    · have : e.1 ≠ v := fun he => hn.1 (by rw [he]; exact List.mem_map.2 ⟨_, h, rfl⟩)
      rw [if_neg this]
      exact getG_of_mem hn.2 h
theorem keysG (G : EdG) : (edV G).map (·.1) = G.map (·.1) := by
  unfold edV
  rw [List.map_map]
  rfl
theorem mem_setG {v : Vx} {x : EdR} {G : EdG} (hn : (G.map (·.1)).Nodup) {e : Vx × EdR} (he : e ∈ setG v x G) : e = (v, x) ∨ (e ∈ G ∧ e.1 ≠ v) := by
  have hk : ((setG v x G).map (·.1)).Nodup := by
    have := (setL_keys (k := v) (v := x.1) (L := edV G) (by rw [keysG]; exact hn)).1
    rw [setL_edV, keysG] at this
    exact this
  have h1 := getG_of_mem hk (v := e.1) (x := e.2) he
  rw [getG_set] at h1
  by_cases hv : e.1 = v
  · rw [if_pos hv] at h1
    cases h1
    exact .inl (Prod.ext hv rfl)
  · rw [if_neg hv] at h1
    exact .inr ⟨getG_mem h1, hv⟩
theorem own_ne_map {α κ : Type} {e : TypeId} {C b B : Nat} {cells : α → List Value} {enc : κ → Value} {w : World} {v : Value} {L : List α} {M : List (κ × Value)} (ho : OwnR e C cells w B v L) (hm : MapAt enc w b M) : v.ownBlock = none ∨ v.ownBlock ≠ some b := by
  rcases ho.2 with ⟨g', -⟩ | ⟨g', cap, cur, h1, h2, h3, h4⟩
  · rw [g']; exact .inl rfl
  · right
    rw [h1]
    intro e'
    have e2 : g' = b := by injection e'
    obtain ⟨es, clock, h5, -⟩ := hm
    rw [e2, h5] at h3
    cases h3
abbrev OwnE (w : World) (B : Nat) (v : Value) (L : List Ed) : Prop := OwnR 133 5 Ed.cells w B v L
structure EdgAt (w : World) (B be : Nat) (G : EdG) : Prop where
  map : MapAt Vx.enc w be (edV G)
  base : B ≤ be
  own : ∀ e ∈ G, OwnE w B e.2.1 e.2.2
  apart : ∀ e ∈ G, ∀ e' ∈ G, e.1 ≠ e'.1 → e.2.1.ownBlock = none ∨ e.2.1.ownBlock ≠ e'.2.1.ownBlock
/-- what they say: of the edges so far those that count, by where they begin -/
def EdgOf (E : List Ed) (G : EdG) : Prop := ∀ v, ((getG v G).map (·.2)).getD [] = E.filter fun e => cntE e && decide (e.src = v)
section
variable {w w' w1 w2 w3 : World} {B be : Nat} {G : EdG} {E : List Ed}
theorem EdgAt.keys (h : EdgAt w B be G) : (G.map (·.1)).Nodup := by
  have := h.map.nodup
  rw [keysG] at this
  exact this
theorem EdgAt.below (h : EdgAt w B be G) (hb : Below w.heap.size w w') : EdgAt w' B be G := ⟨h.map.below hb h.map.lt, h.base, fun e he => (h.own e he).below hb, h.apart⟩
/-- what turns but places and the map of them leaves the edges as they are -/
theorem EdgAt.mv {bf : Nat} {F : Fnd} (h : EdgAt w B be G) (hm : Mv B bf w w') (hne : be ≠ bf) (hf : MapAt Vx.enc w bf (valsF F)) : EdgAt w' B be G := ⟨hm.map h.map hne, h.base, fun e he => hm.own (h.own e he) (by decide) hf, h.apart⟩
theorem edgOf_nil : EdgOf [] [] := fun _v => rfl
theorem edgOf_skip (h : EdgOf E G) {e : Ed} (hc : cntE e = false) : EdgOf (E ++ [e]) G := fun v => by rw [h v, List.filter_append]; simp [hc]
theorem edgOf_put (h : EdgOf E G) {e : Ed} (hc : cntE e = true) {v' : Value} : EdgOf (E ++ [e]) (setG e.src (v', ((getG e.src G).map (·.2)).getD [] ++ [e]) G) := fun v => by
  rw [getG_set, List.filter_append]
  by_cases hv : v = e.src
  · subst hv
    rw [if_pos rfl, ← h e.src]
    simp [hc]
  · rw [if_neg hv, h v]
    simp [Ne.symm hv]
/-- one more edge in its row -/
theorem EdgAt.put (h : EdgAt w B be G) {k : Vx} {x0 : EdR} (hx0 : (getG k G).getD (.slice none 0 0, []) = x0) {st : Nat} (he : EntryAt Vx.enc w1 be (setL k x0.1 (edV G)) k st) (hg1 : w.grownBy w1 (some be)) {x : EdR} (ho : OwnE w2 B x.1 x.2) (hg2 : w1.grownBy w2 x0.1.ownBlock) (hor : x.1.ownBlock = x0.1.ownBlock ∨ x.1.ownBlock = some w1.heap.size)
    (hm : MapAt Vx.enc w3 be (setL k x.1 (setL k x0.1 (edV G)))) (hg3 : w2.grownBy w3 (some be)) (_hB : B ≤ w.heap.size) : EdgAt w3 B be (setG k x G) := by
  rw [setL_twice, setL_edV] at hm
  have hno : ∀ e ∈ G, e.1 ≠ k → e.2.1.ownBlock = none ∨ e.2.1.ownBlock ≠ x0.1.ownBlock := by
    intro e hm1 hne
    cases hg : getG k G with
    | none =>
      rw [hg] at hx0
      simp only [Option.getD] at hx0
      subst hx0
      cases hv : e.2.1.ownBlock with
      | none => exact .inl rfl
      | some b => exact .inr (by simp [Value.ownBlock])
    | some y =>
      rw [hg] at hx0
      simp only [Option.getD] at hx0
      subst hx0
      exact h.apart e hm1 _ (getG_mem hg) hne
  have hol : ∀ e ∈ G, e.1 ≠ k → OwnE w2 B e.2.1 e.2.2 := fun e hm1 hne => OwnR.kept (OwnR.kept (h.own e hm1) hg1 (own_ne_map (h.own e hm1) h.map)) hg2 (hno e hm1 hne)
  have hm2 := (he.grown hg2 (fun e => by
    rcases hv : x0.1.ownBlock with _ | b
    · rw [hv] at e; cases e
    · cases hg : getG k G with
      | none =>
        rw [hg] at hx0
        simp only [Option.getD] at hx0
        rw [← hx0] at hv
        cases hv
      | some y =>
        rw [hg] at hx0
        simp only [Option.getD] at hx0
        subst hx0
        rcases own_ne_map (h.own _ (getG_mem hg)) h.map with g | g
        · rw [g] at e; cases e
        · exact g e.symm)).map
  refine ⟨hm, h.base, ?_, ?_⟩
  · intro e hm1
    rcases mem_setG h.keys hm1 with rfl | ⟨hm1, hne⟩
    · exact OwnR.kept ho hg3 (own_ne_map ho hm2)
    · exact OwnR.kept (hol e hm1 hne) hg3 (own_ne_map (hol e hm1 hne) hm2)
  · intro e hm1 e' hm1' hee
    rcases mem_setG h.keys hm1 with rfl | ⟨hm1, hne⟩ <;> rcases mem_setG h.keys hm1' with rfl | ⟨hm1', hne'⟩
    · exact absurd rfl hee
    · rcases hor with e1 | e1
      · rcases hno e' hm1' hne' with g | g
        · cases hv : x.1.ownBlock with
          | none => exact .inl rfl
          | some b => right; rw [g]; simp
        · right
          simp only
          rw [e1]
          exact fun q => g q.symm
      · right
        simp only
        rw [e1]
        intro q
        have := ((h.own e' hm1').block _ q.symm).2
        have := hg1.size
        omega
    · rcases hor with e1 | e1
      · rcases hno e hm1 hne with g | g
        · exact .inl g
        · right; simp only; rw [e1]; exact g
      · right
        simp only
        rw [e1]
        intro q
        have := ((h.own e hm1).block _ q).2
        have := hg1.size
        omega
    · exact h.apart e hm1 e' hm1' hee
end

end Go.Proofs.YtpnbibokddhheaaGreat

/-
  Layer 21: the search's rounds, by what is found (places apart).
-/
namespace Go.Proofs.YtpnbibokddhheaaGreat
open Go.RowKit

structure DjSt (E : List Ed) (r : Vx) (F : Fnd) (O : List Vx) (Z : List Ed) : Prop where
  dij : Dij E r O Z (tabF F)
  dn : ∀ v x, getF v F = some x → (x.done = true ↔ v ∈ O)
  all : ∀ e ∈ E, cntE e = true → e.src ∈ O → e ∈ Z
/-- in the midst of the edges of u -/
structure DjIn (E : List Ed) (r : Vx) (F : Fnd) (O : List Vx) (Z : List Ed) (u : Vx) (p : Pl) : Prop where
  dij : Dij E r O Z (tabF F)
  dn : ∀ v x, getF v F = some x → (x.done = true ↔ v ∈ O)
  at_ : tabF F u = some p
  mem : u ∈ O
  last : ∀ v q, v ∈ O → tabF F v = some q → rankV v q.a ≤ rankV u p.a
  room : p.a.c + 100 ≤ 100 * O.length ∧ p.a.h + 1 ≤ O.length
section
variable {E : List Ed} {r u : Vx} {F F' : Fnd} {O : List Vx} {Z : List Ed} {p : Pl}
theorem tabF_get {v : Vx} {q : Pl} (h : tabF F v = some q) : ∃ x, getF v F = some x ∧ x.pl = q := by
  unfold tabF at h
  obtain ⟨x, hx, e⟩ := Option.map_eq_some_iff.1 h
  exact ⟨x, hx, e⟩
theorem DjSt.start (hr : mayV r = true) {x : PlW} (hx : x.pl = ⟨⟨0, 0⟩, []⟩) (hd : x.done = false) : DjSt E r (setF r x []) [] [] where
  dij := Dij.start hr fun v => by
    rw [tabF_set, hx]
    rfl
  dn := fun v y hy => by
    rw [getF_set] at hy
    by_cases hv : v = r
    · rw [if_pos hv] at hy
      cases hy
      simp [hd]
    · rw [if_neg hv] at hy
      cases hy
  all := fun e _ _ h => by cases h
theorem DjSt.may (h : DjSt E r F O Z) (hk : (F.map (·.1)).Nodup) : ∀ e ∈ F, mayV e.1 = true := fun e he => h.dij.may _ _ (tabF_some (getF_of_mem (v := e.1) (x := e.2) hk he))
theorem DjSt.low (h : DjSt E r F O Z) (hk : (F.map (·.1)).Nodup) : ∀ e ∈ F, e.2.pl.a.c ≤ 100000 := fun e he => by
  have := (h.dij.low (tabF_some (getF_of_mem (v := e.1) (x := e.2) hk he))).1
  omega
theorem DjIn.low (h : DjIn E r F O Z u p) (hr : r.kind = 1) {v : Vx} {x : PlW} (hx : getF v F = some x) : x.pl.a.c ≤ 100000 ∧ x.pl.a.h ≤ 1000 ∧ x.pl.next.length ≤ 2 ^ 16 := by
  have h1 := h.dij.low (tabF_some hx)
  have h2 := h.dij.few hr (tabF_some hx)
  omega
theorem tabF_done {x : PlW} (hu : getF u F = some x) (d : Bool) : tabF (setF u ⟨x.p, x.A, x.c, x.pl, d⟩ F) = tabF F := by
  funext v
  rw [tabF_set]
  by_cases hv : v = u
  · rw [if_pos hv, hv, tabF_some hu]
  · rw [if_neg hv]
theorem DjSt.pick (h : DjSt E r F O Z) (hk : (F.map (·.1)).Nodup) {x : PlW} (hb : BestOf F (some (u, x))) : DjIn E r (setF u ⟨x.p, x.A, x.c, x.pl, true⟩ F) (O ++ [u]) Z u x.pl := by
  obtain ⟨hm, hd, hmin⟩ := hb
  have hu : getF u F = some x := getF_of_mem hk hm
  have ht := tabF_done hu true
  have hno : u ∉ O := fun g => by
    have := (h.dn u x hu).2 g
    simp only at hd
    rw [hd] at this
    cases this
  have hsm := h.dij.small _ _ (tabF_some hu)
  have hpk := h.dij.pick (tabF_some hu) hno (fun v q hv hq => by
    obtain ⟨y, hy, rfl⟩ := tabF_get hq
    refine hmin (v, y) (getF_mem hy) ?_
    cases hyd : y.done with
    | false => simp only
    | true => exact absurd ((h.dn v y hy).1 hyd) hv)
  refine ⟨by rw [ht]; exact hpk, ?_, by rw [ht]; exact tabF_some hu, by simp, ?_, ?_⟩
  · intro v y hy
    rw [getF_set] at hy
    by_cases hv : v = u
    · rw [if_pos hv] at hy
      cases hy
      simp [hv]
    · rw [if_neg hv] at hy
      rw [h.dn v y hy, List.mem_append, List.mem_singleton]
      constructor
      · exact .inl
      · rintro (g | g)
        · exact g
        · exact absurd g hv
  · intro v q hv hq
    rw [ht] at hq
    rcases List.mem_append.1 hv with hv | hv
    · exact h.dij.order v q u x.pl hv hq hno (tabF_some hu)
    · rw [List.mem_singleton] at hv
      subst hv
      rw [tabF_some hu] at hq
      cases hq
      exact Nat.le_refl _
  · rw [List.length_append, List.length_singleton]
    omega
theorem DjIn.step (h : DjIn E r F O Z u p) {e : Ed} (he : e ∈ E) (hc : cntE e = true) (hs : e.src = u) (hr : r.kind = 1) (hst : StepF r F F' e p) : DjIn E r F' O (Z ++ [e]) u p := by
  obtain ⟨h1, h2, h3⟩ := h.dij.step h.at_ h.mem h.last h.room he hc hs hr hst.tab
  refine ⟨h1, ?_, h2, h.mem, fun v q hv hq => h.last v q hv (by rw [← h3 v hv]; exact hq), h.room⟩
  intro v x hx
  by_cases hv : v = e.dst
  · subst hv
    obtain ⟨y', hy', hcase⟩ := hst.dst
    rw [hx] at hy'
    cases hy'
    rcases hcase with ⟨y, hy, hd⟩ | ⟨hd, hlt⟩
    · rw [hd]; exact h.dn _ y hy
    · rw [hd]
      constructor
      · intro g; cases g
      · intro g
        exfalso
        obtain ⟨q, hq⟩ := h.dij.had _ g
        obtain ⟨y, hy, rfl⟩ := tabF_get hq
        have h4 := hlt y hy
        have h5 := h.last _ _ g hq
        have h6 := rank_step hc p.a
        rw [hs] at h6
        unfold rankV stepV at *
        simp only at h5 h6
        omega
  · rw [hst.oth v hv] at hx
    exact h.dn v x hx
theorem DjIn.ends (h : DjIn E r F O Z u p) {O' : List Vx} (hO : O = O' ++ [u]) (h1 : ∀ e ∈ E, cntE e = true → e.src ∈ O' → e ∈ Z) (h2 : ∀ e ∈ E, cntE e = true → e.src = u → e ∈ Z) : DjSt E r F O Z := by
  refine ⟨h.dij, h.dn, fun e he hc hm => ?_⟩
  rw [hO] at hm
  rcases List.mem_append.1 hm with hm | hm
  · exact h1 e he hc hm
  · rw [List.mem_singleton] at hm
    exact h2 e he hc hm
/-- all is done: what is found is the tree -/
theorem DjSt.tree (h : DjSt E r F O Z) (hk : (F.map (·.1)).Nodup) (hb : BestOf F none) {DD : Vx → Vx → Option Val2} (hD : Dists E DD) (hr : r.kind = 1) {L : List Nk} (hs : L.Pairwise fun x y => ltX x.v y.v) (hL : ∀ n, n ∈ L ↔ ∃ e ∈ F, n = ⟨e.1, e.2.pl.a, e.2.pl.next⟩) : TreeIs E DD r L := by
  have hall : ∀ v q, tabF F v = some q → v ∈ O := fun v q hq => by
    obtain ⟨x, hx, rfl⟩ := tabF_get hq
    exact (h.dn v x hx).1 (hb _ (getF_mem hx))
  refine tree_of_dij h.dij hall h.all hD hr hs ?_ ?_
  · intro n hn
    obtain ⟨e, he, rfl⟩ := (hL n).1 hn
    exact tabF_some (getF_of_mem (v := e.1) (x := e.2) hk he)
  · intro v q hq
    obtain ⟨x, hx, rfl⟩ := tabF_get hq
    exact ⟨⟨v, x.pl.a, x.pl.next⟩, (hL _).2 ⟨(v, x), getF_mem hx, rfl⟩, rfl⟩
end

end Go.Proofs.YtpnbibokddhheaaGreat

/-
  The library's slices.SortFunc, laid at this program: written by lay-plain.mjs of the kit.
-/
namespace Go.Proofs
open Go.Shelf
def Tryz.sortNode_ren : Go.Shelf.Ren := ⟨fun | 6 => 57 | 15 => 79 | 14 => 99 | 28 => 118 | 29 => 119 | 20 => 142 | 21 => 143 | 22 => 144 | 23 => 145 | 24 => 146 | 25 => 147 | 26 => 148 | 27 => 149 | 46 => 196 | 47 => 178 | 48 => 179 | 49 => 197 | 50 => 198 | 57 => 218 | n => n, fun | 22 => 85 | 24 => 90 | 25 => 146 | 3 => 3 | 39 => 92 | 0 => 0 | 53 => 213 | 55 => 215 | 4 => 4 | 46 => 207 | 45 => 206 | 50 => 123 | 5 => 5 | 9 => 9 | 66 => 260 | 70 => 264 | 76 => 285 | 77 => 235 | n => n, fun | n => n⟩
theorem Tryz.sortNode : Go.Proofs.SlLaysF0.n6 Tryz.prog Tryz.sortNode_ren := {
  mixed := by kernel_rfl
  f6 := ⟨Tryz.f57.name, by decide, Tryz.func57.trans (congrArg some (by kernel_rfl))⟩
  f14 := ⟨Tryz.f99.name, by decide, Tryz.func99.trans (congrArg some (by kernel_rfl))⟩
  f15 := Tryz.func79.trans (congrArg some (by kernel_rfl))
  f20 := ⟨Tryz.f142.name, by decide, Tryz.func142.trans (congrArg some (by kernel_rfl))⟩
  f21 := ⟨Tryz.f143.name, by decide, Tryz.func143.trans (congrArg some (by kernel_rfl))⟩
  f22 := ⟨Tryz.f144.name, by decide, Tryz.func144.trans (congrArg some (by kernel_rfl))⟩
  f23 := ⟨Tryz.f145.name, by decide, Tryz.func145.trans (congrArg some (by kernel_rfl))⟩
  f24 := ⟨Tryz.f146.name, by decide, Tryz.func146.trans (congrArg some (by kernel_rfl))⟩
  f25 := ⟨Tryz.f147.name, by decide, Tryz.func147.trans (congrArg some (by kernel_rfl))⟩
  f26 := ⟨Tryz.f148.name, by decide, Tryz.func148.trans (congrArg some (by kernel_rfl))⟩
  f27 := ⟨Tryz.f149.name, by decide, Tryz.func149.trans (congrArg some (by kernel_rfl))⟩
  f28 := Tryz.func118.trans (congrArg some (by kernel_rfl))
  f29 := Tryz.func119.trans (congrArg some (by kernel_rfl))
  f46 := ⟨Tryz.f196.name, by decide, Tryz.func196.trans (congrArg some (by kernel_rfl))⟩
  f47 := Tryz.func178.trans (congrArg some (by kernel_rfl))
  f48 := Tryz.func179.trans (congrArg some (by kernel_rfl))
  f49 := ⟨Tryz.f197.name, by decide, Tryz.func197.trans (congrArg some (by kernel_rfl))⟩
  f50 := ⟨Tryz.f198.name, by decide, Tryz.func198.trans (congrArg some (by kernel_rfl))⟩
  f57 := ⟨Tryz.f218.name, by decide, Tryz.func218.trans (congrArg some (by kernel_rfl))⟩
  t0 := Tryz.underlying0
  a0 := Tryz.isAgg0
  z0 := Tryz.sizeOf0
  v0 := Tryz.zeroValue0
  t3 := Tryz.underlying3
  a3 := Tryz.isAgg3
  z3 := Tryz.sizeOf3
  v3 := Tryz.zeroValue3
  t4 := Tryz.underlying4
  a4 := Tryz.isAgg4
  z4 := Tryz.sizeOf4
  v4 := Tryz.zeroValue4
  t5 := Tryz.underlying5
  a5 := Tryz.isAgg5
  z5 := Tryz.sizeOf5
  v5 := Tryz.zeroValue5
  t9 := Tryz.underlying9
  a9 := Tryz.isAgg9
  z9 := Tryz.sizeOf9
  v9 := Tryz.zeroValue9
  t22 := Tryz.underlying85
  a22 := Tryz.isAgg85
  z22 := Tryz.sizeOf85
  v22 := Tryz.zeroValue85
  t25 := Tryz.underlying146
  a25 := Tryz.isAgg146
  z25 := Tryz.sizeOf146
  v25 := Tryz.zeroValue146
  t39 := Tryz.underlying92
  a39 := Tryz.isAgg92
  z39 := Tryz.sizeOf92
  v39 := Tryz.zeroValue92
  t45 := Tryz.underlying206
  a45 := Tryz.isAgg206
  z45 := Tryz.sizeOf206
  v45 := Tryz.zeroValue206
  t46 := Tryz.underlying207
  a46 := Tryz.isAgg207
  z46 := Tryz.sizeOf207
  v46 := Tryz.zeroValue207
  t50 := Tryz.underlying123
  a50 := Tryz.isAgg123
  z50 := Tryz.sizeOf123
  v50 := Tryz.zeroValue123
  t53 := Tryz.underlying213
  a53 := Tryz.isAgg213
  z53 := Tryz.sizeOf213
  v53 := Tryz.zeroValue213
  t55 := Tryz.underlying215
  a55 := Tryz.isAgg215
  z55 := Tryz.sizeOf215
  v55 := Tryz.zeroValue215
  t66 := Tryz.underlying260
  a66 := Tryz.isAgg260
  z66 := Tryz.sizeOf260
  v66 := Tryz.zeroValue260
  t70 := Tryz.underlying264
  a70 := Tryz.isAgg264
  z70 := Tryz.sizeOf264
  v70 := Tryz.zeroValue264
  t76 := Tryz.underlying285
  a76 := Tryz.isAgg285
  z76 := Tryz.sizeOf285
  v76 := Tryz.zeroValue285
  t77 := Tryz.underlying235
  a77 := Tryz.isAgg235
  z77 := Tryz.sizeOf235
  v77 := Tryz.zeroValue235 }
end Go.Proofs

/-
  Layer 21: nodes in memory; how they are compared; sorted.
-/
namespace Go.Proofs.YtpnbibokddhheaaGreat
open Go.RowKit Go.Sort Go.Proofs

/-- a node as it lies in memory -/
structure NodeM where
  v : Vx
  a : Val2
  A : Option Addr
  c : Nat
  next : List Hp
def NodeM.nk (x : NodeM) : Nk := ⟨x.v, x.a, x.next⟩
def NodeM.nv (x : NodeM) : Value := .slice x.A x.next.length x.c
def NodeM.cells (x : NodeM) : List Value := [.int .i64 x.v.kind, .int .i64 x.v.id, .int .i64 x.a.c, .int .i64 x.a.h, .slice x.A x.next.length x.c]
theorem onesN (x : NodeM) : ∀ u ∈ NodeM.cells x, u.oneCell' = true := by
  intro u hu
  simp [NodeM.cells] at hu
  rcases hu with rfl | rfl | rfl | rfl | rfl <;> rfl
theorem infoN : (Tryz.prog.info? 90).map (fun i => (i.zero, i.size, i.bytes)) = some (some (.agg #[.int .i64 0, .int .i64 0, .int .i64 0, .int .i64 0, .slice none 0 0]), 5, 56) := by kernel_rfl
instance : Inhabited NodeM := ⟨⟨⟨0, 0⟩, ⟨0, 0⟩, none, 0, []⟩⟩
def cmpN (a b : NodeM) : Int := cmp2 a.v.kind a.v.id b.v.kind b.v.id
set_option maxHeartbeats 2000000 in
set_option maxRecDepth 100000 in
theorem nodeCmp_any (a b : NodeM) (w : World) : Calls Tryz.prog 58 #[.agg a.cells.toArray, .agg b.cells.toArray] w fun r w' => r = .returned (.int .i64 (cmpN a b)) ∧ ∃ q os', w' = grow (w.drewN q) os' := by
  obtain ⟨⟨a1, a2⟩, ⟨a3, a4⟩, aA, ac, an⟩ := a
  obtain ⟨⟨b1, b2⟩, ⟨b3, b4⟩, bA, bc, bn⟩ := b
  unfold cmpN NodeM.cells
  simp only
  obtain ⟨al, hal⟩ : ∃ n, an.length = n := ⟨_, rfl⟩
  obtain ⟨bl, hbl⟩ : ∃ n, bn.length = n := ⟨_, rfl⟩
  rw [hal, hbl]
  clear hal hbl
  obtain ⟨w0, hW0⟩ : ∃ w0, (w.alloc (.cells #[.int .i64 a1, .int .i64 a2, .int .i64 a3, .int .i64 a4, .slice aA al ac] 90)).alloc (.cells #[.int .i64 b1, .int .i64 b2, .int .i64 b3, .int .i64 b4, .slice bA bl bc] 90) = w0 := ⟨_, rfl⟩
  have hA : Blk w0 w.heap.size 90 #[.int .i64 a1, .int .i64 a2, .int .i64 a3, .int .i64 a4, .slice aA al ac] := by rw [← hW0]; exact (Blk.new w _ _).alloc _
  have hB : Blk w0 (w.heap.size + 1) 90 #[.int .i64 b1, .int .i64 b2, .int .i64 b3, .int .i64 b4, .slice bA bl bc] := by rw [← hW0]; exact Blk.size (by simp)
  have Hg : Hid (∃ os, w0 = grow w os) := Lib.hid ⟨_, by rw [← hW0, alloc_eq_grow, alloc_eq_grow, grow_grow]⟩
  obtain ⟨a_0, a_1⟩ : _ ∧ _ := ⟨hA.cell 0, hA.cell 1⟩
  obtain ⟨b_0, b_1⟩ : _ ∧ _ := ⟨hB.cell 0, hB.cell 1⟩
  simp only [List.getElem?_toArray, List.getElem?_cons_zero, List.getElem?_cons_succ] at a_0 a_1 b_0 b_1
  clear hA hB
  go_enter Tryz.func58, Tryz.ntmps58
  go_wp2_with fail
  refine wp_drew_tail 14 (by kernel_rfl) (by kernel_rfl) ?_
  simp only [List.take_succ_cons, List.take_zero, List.drop_succ_cons, List.drop_zero]
  repeat (go_big_quiet_step (exact cmp_q _ _ _ _))
  refine wpQuiet_nil ?_
  rintro w3 ⟨dq, rfl⟩
  go_wp2_with (go_at_call 59; (with_reducible refine Calls.mono (or2_s _ _ _) ?_); rintro r w4 ⟨rfl, rfl⟩)
  go_ret
  obtain ⟨os, hos⟩ := Hg.out
  refine ⟨rfl, dq, os.push (.cells #[.int .i64 (cmpI a1 b1), .int .i64 (cmpI a2 b2)] 3), ?_⟩
  subst hos
  simp [grow, World.alloc, World.drewN]
theorem cmpN_lt (a b : NodeM) : cmpN a b < 0 ↔ ltX a.v b.v := by
  unfold cmpN ltX
  rw [(cmp2_lt _ _ _ _).1]
theorem ltOf_N {a b : NodeM} : (ltOf cmpN a b = true ↔ ltX a.v b.v) ∧ (ltOf cmpN a b = false ↔ ¬ ltX a.v b.v) := by
  unfold ltOf
  rw [← cmpN_lt]
  simp
theorem swoN : SWO (ltOf cmpN) where
  irrefl := fun x => ltOf_N.2.2 (ltX_irr x.v)
  trans := fun x y z h1 h2 => by rw [ltOf_N.1] at *; unfold ltX at *; omega
  ntrans := fun x y z h1 h2 => by rw [ltOf_N.2] at *; unfold ltX at *; omega
theorem call_N (xs : Array Value) (w : World) : (callFunc 58 xs).run Tryz.prog w = .ok (.enter 58 xs) w := callOf Tryz.func58 rfl (by kernel_rfl) xs w
theorem sortNs (v : Value) (M : List NodeM) (B : Nat) (w : World) (hown : OwnR 90 5 NodeM.cells w B v M) (hlen : M.length ≤ 2 ^ 20) (ha : M.Pairwise fun x y => ltX x.v y.v ∨ ltX y.v x.v) :
    Calls Tryz.prog 57 #[v, .func (.func 58) #[] #[]] w fun r w' => r = .returned (.tuple #[]) ∧ (∃ N, OwnR 90 5 NodeM.cells w' B v N ∧ N.Perm M ∧ N.Pairwise fun x y => ltX x.v y.v) ∧ w.grownBy w' v.ownBlock := by
  have h := sort_row Tryz.sortNode (C := 5) Tryz.isAgg90 Tryz.sizeOf90 NodeM.cells (fun _ => rfl) onesN cmpN swoN 58 call_N (fun x y w => nodeCmp_any x y w) v M B w hown hlen
  change Calls Tryz.prog 57 _ _ _ at h
  refine h.mono ?_
  rintro r w' ⟨rfl, N, hN, hpN, hsN, hg⟩
  exact ⟨rfl, ⟨N, hN, hpN, sort_strict (R := fun x y : NodeM => ltX x.v y.v) hpN (hsN.imp fun {x y} h => ltOf_N.2.1 h) ha⟩, hg⟩

end Go.Proofs.YtpnbibokddhheaaGreat
