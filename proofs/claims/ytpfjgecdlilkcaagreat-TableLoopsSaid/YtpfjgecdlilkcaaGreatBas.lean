/-
  Layer 20: all edges: the document's way.
-/
import Derived.Test.YtpfjgecdlilkcaaGreatBah
import Derived.Test.YtpfjgecdlilkcaaGreatBai
import Derived.Test.YtpfjgecdlilkcaaGreatBar
namespace Go.Proofs.YtpfjgecdlilkcaaGreat
open Go.RowKit Go.Sort

theorem rng_more (a : Int) (n : Nat) : rng a (n + 1) = rng a n ++ [a + (n : Int)] := by
  unfold rng
  rw [List.range_succ, List.map_append, List.map_singleton]
theorem rng_len (a : Int) (n : Nat) : (rng a n).length = n := by simp [rng]
theorem flat_len {α β : Type} {m : Nat} (g : α → List β) : ∀ l : List α, (∀ x ∈ l, (g x).length ≤ m) → (l.flatMap g).length ≤ l.length * m
  | [], _ => Nat.zero_le _
  | x :: l, h => by
    have ih := flat_len g l fun y hy => h y (by simp [hy])
    have h2 := h x (by simp)
    rw [List.flatMap_cons, List.length_append, List.length_cons, Nat.add_mul, Nat.one_mul]
    omega
/-- the edges of routers below a number, and of one of them to networks below a number -/
def preA (f : Int → Int → Option Int) (i : Nat) : List Ed := (rng 1 i).flatMap fun r => (rng 0 64).filterMap (edgeA f r)
def preB (f : Int → Int → Option Int) (i : Nat) : List Ed := (rng 0 i).flatMap fun n => (rng 1 15).filterMap (edgeB f n)
theorem edges_pre (f : Int → Int → Option Int) : edgesC f = preA f 15 ++ preB f 64 := rfl
theorem preA_more (f : Int → Int → Option Int) (i : Nat) : preA f (i + 1) = preA f i ++ (rng 0 64).filterMap (edgeA f (1 + (i : Int))) := by
  unfold preA
  rw [rng_more 1 i, List.flatMap_append, List.flatMap_singleton]
theorem preB_more (f : Int → Int → Option Int) (i : Nat) : preB f (i + 1) = preB f i ++ (rng 1 15).filterMap (edgeB f (0 + (i : Int))) := by
  unfold preB
  rw [rng_more 0 i, List.flatMap_append, List.flatMap_singleton]
def optL {β : Type} : Option β → List β
  | none => []
  | some x => [x]
theorem fil_more {β : Type} (g : Int → Option β) (a : Int) (j : Nat) : (rng a (j + 1)).filterMap g = (rng a j).filterMap g ++ optL (g (a + (j : Int))) := by
  rw [rng_more, List.filterMap_append]
  cases h : g (a + (j : Int)) <;> simp [h, optL]
theorem fil_len {β : Type} (g : Int → Option β) (a : Int) (j : Nat) : ((rng a j).filterMap g).length ≤ j := Nat.le_trans (List.length_filterMap_le _ _) (by rw [rng_len]; exact Nat.le_refl _)
theorem preA_len (f : Int → Int → Option Int) (i : Nat) : (preA f i).length ≤ i * 64 := by
  have := flat_len (m := 64) (fun r => (rng 0 64).filterMap (edgeA f r)) (rng 1 i) (fun _ _ => fil_len _ _ _)
  rw [rng_len] at this
  exact this
theorem preB_len (f : Int → Int → Option Int) (i : Nat) : (preB f i).length ≤ i * 15 := by
  have := flat_len (m := 15) (fun n => (rng 1 15).filterMap (edgeB f n)) (rng 0 i) (fun _ _ => fil_len _ _ _)
  rw [rng_len] at this
  exact this
set_option maxHeartbeats 16000000 in
set_option maxRecDepth 100000 in
theorem refEdges_any (A : Option Addr) (cap : Nat) (l : List Lsa) (w : World) (hl : RowsAt 9 Lsa.cells w w.heap.size A l) (he : ∀ x ∈ l, RowsAt 4 Lnk.cells w w.heap.size x.ka x.links ∧ RowsAt 1 icell w w.heap.size x.ma x.members) (hlens : ∀ x ∈ l, x.links.length ≤ 1000 ∧ x.members.length ≤ 1000) (hm : l.length ≤ 2 ^ 16) (nn : Nat) (hnn : nn = l.length) :
    Calls Tryz.prog 23 #[.slice A nn cap] w fun r w' => (∃ v, r = .returned v ∧ OwnR 96 5 Ed.cells w' w.heap.size v (edgesV (l.map vX))) ∧ Below w.heap.size w w' := by
  have HCo := Lib.hid (refCounts_any A cap l w hl he hlens hm nn hnn)
  clear hl he hlens hnn
  go_enter Tryz.func23, Tryz.ntmps23
  go_wp2_with fail
  with_reducible refine Calls.mono HCo.out ?_
  rintro r w1 ⟨⟨v1, rfl, O, hx1, hO1⟩, hb1⟩
  obtain ⟨A1, c1, hv1⟩ := hx1.own.shape
  subst hv1
  have hOl : O.length ≤ 2 ^ 16 := by
    have h1 := congrArg List.length hO1
    have h2 := countsV_len (l.map vX)
    rw [List.length_map] at h1 h2
    omega
  have hcn : CntOk (O.map vX) := by rw [hO1]; exact countsV_ok _
  obtain ⟨f, hf⟩ : ∃ f, costC (O.map vX) = f := ⟨_, rfl⟩
  have hpos : ∀ r n c, f r n = some c → 1 ≤ c := fun r n c h => by rw [← hf] at h; exact (cand_bounds hcn (cost_is hcn h)).2.2.1
  have HPos := Lib.hid hpos
  have HC := Lib.hid (fun (r n : Int) W (hW : Below w1.heap.size w1 W) => refCost_any A1 c1 O r n W ((OwnR.rows (C := 9) (cells := Lsa.cells) (fun _ => rfl) (hx1.keep hW).own).2) (hx1.keep hW).rows hx1.lens hcn hOl O.length rfl)
  rw [hf] at HC
  have HE := Lib.hid (show edgesV (l.map vX) = preA f 15 ++ preB f 64 by unfold edgesV; rw [← hO1, hf, edges_pre])
  have Hb1 := Lib.hid hb1
  clear hx1 hO1 hcn hb1 hpos hf
  go_wp2
  go_loopw [4, 5] (fun v rr wr => ∃ i : Nat, rr = .int .i64 (1 + (i : Int)) ∧ i ≤ 15 ∧ OwnR 96 5 Ed.cells wr w1.heap.size v (preA f i) ∧ Below w1.heap.size w1 wr) (fun _ rr _ => 16 - (intOf rr).toNat)
  case atStart => exact ⟨0, rfl, by decide, OwnR.nil _ _, Below.refl _ _⟩
  case round =>
    obtain ⟨i, rfl, hi, hown, hb⟩ := hrel
    obtain ⟨A7, c7, hv7⟩ := hown.shape
    subst hv7
    have hpl := preA_len f i
    obtain ⟨P, hP⟩ : ∃ P, preA f i = P := ⟨_, rfl⟩
    rw [hP] at hown hpl ⊢
    have Hown := Lib.hid hown
    have Hb := Lib.hid hb
    by_cases hlt : i < 15
    · have h15 : 1 + (i : Int) ≤ 15 := by omega
      have Hmore := Lib.hid (show preA f (i + 1) = P ++ (rng 0 64).filterMap (edgeA f (1 + (i : Int))) by rw [preA_more, hP])
      have HPl := Lib.hid hpl
      clear hown hb hP
      go_wp2
      go_loopw [4, 6] (fun v n wr => ∃ j : Nat, n = .int .i64 (j : Int) ∧ j ≤ 64 ∧ OwnR 96 5 Ed.cells wr w1.heap.size v (P ++ (rng 0 j).filterMap (edgeA f (1 + (i : Int)))) ∧ Below w1.heap.size w1 wr) (fun _ n _ => 64 - (intOf n).toNat)
      case atStart => exact ⟨0, rfl, by decide, by simpa [rng] using Hown.out, Hb.out⟩
      case round =>
        obtain ⟨j, rfl, hj, hown, hb⟩ := hrel
        obtain ⟨A7, c7, hv7⟩ := hown.shape
        subst hv7
        have hql := fil_len (edgeA f (1 + (i : Int))) 0 j
        have hmj := fil_more (edgeA f (1 + (i : Int))) 0 j
        rw [Int.zero_add] at hmj
        have hll : (P ++ (rng 0 j).filterMap (edgeA f (1 + (i : Int)))).length ≤ 2000 := by rw [List.length_append]; have := HPl.out; omega
        obtain ⟨Q, hQ⟩ : ∃ Q, P ++ (rng 0 j).filterMap (edgeA f (1 + (i : Int))) = Q := ⟨_, rfl⟩
        have hmj2 : P ++ (rng 0 (j + 1)).filterMap (edgeA f (1 + (i : Int))) = Q ++ optL (edgeA f (1 + (i : Int)) (j : Int)) := by rw [hmj, ← hQ, List.append_assoc]
        rw [hQ] at hown hll ⊢
        have Hown2 := Lib.hid hown
        have Hb2 := Lib.hid hb
        have Hll := Lib.hid hll
        clear Hown Hb
        by_cases hlj : j < 64
        · have h64 : (j : Int) < 64 := by omega
          have HCa := Lib.hid (HC.out (1 + (i : Int)) (j : Int) _ hb)
          clear hown hb hQ hmj hql hll
          cases hfc : f (1 + (i : Int)) (j : Int) with
          | none =>
            have hed : edgeA f (1 + (i : Int)) (j : Int) = none := by unfold edgeA; rw [hfc]; rfl
            rw [hfc] at HCa
            rw [hed] at hmj2
            simp only [optL, List.append_nil] at hmj2
            have Hmj := Lib.hid hmj2
            clear hmj2 hfc hed
            go_wp2_with (go_at_call 54; (with_reducible refine Calls.mono HCa.out ?_); rintro r w3 ⟨rfl, hb3⟩; have HO3 := Lib.hid (Hown2.out.below hb3); have HB3 := Lib.hid (below_trans Hb2.out Hb2.out.size hb3); clear hb3; simp only [encO])
            go_roundw
            case measure => simp [intOf]; omega
            case rel => exact ⟨j + 1, by go_num, hlj, by rw [Hmj.out]; exact HO3.out, HB3.out⟩
          | some c =>
            have hed : edgeA f (1 + (i : Int)) (j : Int) = some ⟨1, 1 + (i : Int), 2, (j : Int), c⟩ := by unfold edgeA; rw [hfc]; rfl
            rw [hfc] at HCa
            rw [hed] at hmj2
            simp only [optL] at hmj2
            have hc1 := HPos.out _ _ _ hfc
            have Hmj := Lib.hid hmj2
            clear hmj2 hfc hed
            go_wp2_with (first
              | (go_at_call 54; (with_reducible refine Calls.mono HCa.out ?_); rintro r w3 ⟨rfl, hb3⟩; have HO3 := Lib.hid (Hown2.out.below hb3); have HB3 := Lib.hid (below_trans Hb2.out Hb2.out.size hb3); clear hb3; simp only [encO])
              | (at_builtin; (refine app_row (e := 96) Ed.cells (fun _ => rfl) (by decide) (bytes := 40) (by decide) infoE rfl Tryz.underlying58 onesE (by rfl) _ _ (by rfl) w1.heap.size _ Q (by rfl) (HO3.out.alloc _) w3.heap.size ⟨1, 1 + (i : Int), 2, (j : Int), c⟩ (by rfl) (Blk.new _ _ _) (by have := Hll.out; omega) (by have := HB3.out.size; simp; omega) ?_); intro v6 w6 hown6 hg6 hor6; have HO6 := Lib.hid hown6; have HB6 := Lib.hid (show Below w1.heap.size w1 w6 from (HB3.out.alloc HB3.out.size _).grown hg6 (by have := HB3.out.size; simp; omega) (fun m e => (HO3.out.block m e).1)); clear hown6 hg6 hor6))
            go_roundw
            case measure => simp [intOf]; omega
            case rel => exact ⟨j + 1, by go_num, hlj, by rw [Hmj.out]; exact HO6.out, HB6.out⟩
        · have hje : j = 64 := by omega
          subst hje
          rw [← Hmore.out] at hQ
          have HQ := Lib.hid hQ
          clear hown hb hQ hmj hmj2 hql hll HPl
          go_wp2
          go_roundw
          case measure => simp [intOf]; omega
          case rel => exact ⟨i + 1, by go_num, hlt, by rw [HQ.out]; exact Hown2.out, Hb2.out⟩
    · have hie : i = 15 := by omega
      subst hie
      rw [show (1 : Int) + ((15 : Nat) : Int) = 16 from by decide]
      have HPl := Lib.hid hpl
      have HP := Lib.hid hP
      clear hown hb hP hlt hi hpl
      go_wp2
      go_loopw [4, 8] (fun v rr wr => ∃ i : Nat, rr = .int .i64 (i : Int) ∧ i ≤ 64 ∧ OwnR 96 5 Ed.cells wr w1.heap.size v (P ++ preB f i) ∧ Below w1.heap.size w1 wr) (fun _ rr _ => 64 - (intOf rr).toNat)
      case atStart => exact ⟨0, rfl, by decide, by simpa [preB, rng] using Hown.out, Hb.out⟩
      case round =>
        obtain ⟨i, rfl, hi, hown, hb⟩ := hrel
        obtain ⟨A7, c7, hv7⟩ := hown.shape
        subst hv7
        have hpl := preB_len f i
        have hpl2 : (P ++ preB f i).length ≤ 2000 := by rw [List.length_append]; have := HPl.out; omega
        have hm2 := preB_more f i
        rw [Int.zero_add] at hm2
        obtain ⟨P2, hP2⟩ : ∃ P2, P ++ preB f i = P2 := ⟨_, rfl⟩
        have hm3 : P ++ preB f (i + 1) = P2 ++ (rng 1 15).filterMap (edgeB f (i : Int)) := by rw [hm2, ← hP2, List.append_assoc]
        rw [hP2] at hown hpl2 ⊢
        clear Hown Hb
        have Hown := Lib.hid hown
        have Hb := Lib.hid hb
        by_cases hlt : i < 64
        · have h64 : (i : Int) < 64 := by omega
          have Hmore := Lib.hid hm3
          have HPl2 := Lib.hid hpl2
          clear hown hb hP2 hm2 hm3 hpl hpl2
          go_wp2
          go_loopw [4, 9] (fun v n wr => ∃ j : Nat, n = .int .i64 (1 + (j : Int)) ∧ j ≤ 15 ∧ OwnR 96 5 Ed.cells wr w1.heap.size v (P2 ++ (rng 1 j).filterMap (edgeB f (i : Int))) ∧ Below w1.heap.size w1 wr) (fun _ n _ => 16 - (intOf n).toNat)
          case atStart => exact ⟨0, rfl, by decide, by simpa [rng] using Hown.out, Hb.out⟩
          case round =>
            obtain ⟨j, rfl, hj, hown, hb⟩ := hrel
            obtain ⟨A7, c7, hv7⟩ := hown.shape
            subst hv7
            have hql := fil_len (edgeB f (i : Int)) 1 j
            have hmj := fil_more (edgeB f (i : Int)) 1 j
            have hll : (P2 ++ (rng 1 j).filterMap (edgeB f (i : Int))).length ≤ 3000 := by rw [List.length_append]; have := HPl2.out; omega
            obtain ⟨Q, hQ⟩ : ∃ Q, P2 ++ (rng 1 j).filterMap (edgeB f (i : Int)) = Q := ⟨_, rfl⟩
            have hmj2 : P2 ++ (rng 1 (j + 1)).filterMap (edgeB f (i : Int)) = Q ++ optL (edgeB f (i : Int) (1 + (j : Int))) := by rw [hmj, ← hQ, List.append_assoc]
            rw [hQ] at hown hll ⊢
            have Hown2 := Lib.hid hown
            have Hb2 := Lib.hid hb
            have Hll := Lib.hid hll
            clear Hown Hb
            by_cases hlj : j < 15
            · have h15 : 1 + (j : Int) ≤ 15 := by omega
              have HCa := Lib.hid (HC.out (1 + (j : Int)) (i : Int) _ hb)
              clear hown hb hQ hmj hql hll
              cases hfc : f (1 + (j : Int)) (i : Int) with
              | none =>
                have hed : edgeB f (i : Int) (1 + (j : Int)) = none := by unfold edgeB; rw [hfc]; rfl
                rw [hfc] at HCa
                rw [hed] at hmj2
                simp only [optL, List.append_nil] at hmj2
                have Hmj := Lib.hid hmj2
                clear hmj2 hfc hed
                go_wp2_with (go_at_call 54; (with_reducible refine Calls.mono HCa.out ?_); rintro r w3 ⟨rfl, hb3⟩; have HO3 := Lib.hid (Hown2.out.below hb3); have HB3 := Lib.hid (below_trans Hb2.out Hb2.out.size hb3); clear hb3; simp only [encO])
                go_roundw
                case measure => simp [intOf]; omega
                case rel => exact ⟨j + 1, by go_num, hlj, by rw [Hmj.out]; exact HO3.out, HB3.out⟩
              | some c =>
                have hed : edgeB f (i : Int) (1 + (j : Int)) = some ⟨2, (i : Int), 1, 1 + (j : Int), 0⟩ := by unfold edgeB; rw [hfc]; rfl
                rw [hfc] at HCa
                rw [hed] at hmj2
                simp only [optL] at hmj2
                have hc1 := HPos.out _ _ _ hfc
                have Hmj := Lib.hid hmj2
                clear hmj2 hfc hed
                go_wp2_with (first
                  | (go_at_call 54; (with_reducible refine Calls.mono HCa.out ?_); rintro r w3 ⟨rfl, hb3⟩; have HO3 := Lib.hid (Hown2.out.below hb3); have HB3 := Lib.hid (below_trans Hb2.out Hb2.out.size hb3); clear hb3; simp only [encO])
                  | (at_builtin; (refine app_row (e := 96) Ed.cells (fun _ => rfl) (by decide) (bytes := 40) (by decide) infoE rfl Tryz.underlying58 onesE (by rfl) _ _ (by rfl) w1.heap.size _ Q (by rfl) (HO3.out.alloc _) w3.heap.size ⟨2, (i : Int), 1, 1 + (j : Int), 0⟩ (by rfl) (Blk.new _ _ _) (by have := Hll.out; omega) (by have := HB3.out.size; simp; omega) ?_); intro v6 w6 hown6 hg6 hor6; have HO6 := Lib.hid hown6; have HB6 := Lib.hid (show Below w1.heap.size w1 w6 from (HB3.out.alloc HB3.out.size _).grown hg6 (by have := HB3.out.size; simp; omega) (fun m e => (HO3.out.block m e).1)); clear hown6 hg6 hor6))
                go_roundw
                case measure => simp [intOf]; omega
                case rel => exact ⟨j + 1, by go_num, hlj, by rw [Hmj.out]; exact HO6.out, HB6.out⟩
            · have hje : j = 15 := by omega
              subst hje
              rw [← Hmore.out] at hQ
              have HQ := Lib.hid hQ
              clear hown hb hQ hmj hmj2 hql hll HPl2
              go_wp2
              go_roundw
              case measure => simp [intOf]; omega
              case rel => exact ⟨i + 1, by go_num, hlt, by rw [HQ.out]; exact Hown2.out, Hb2.out⟩
        · have hie : i = 64 := by omega
          subst hie
          have HP2 := Lib.hid hP2
          clear hown hb hP2 hlt hi hpl hpl2 hm2 hm3
          go_wp2
          go_ret
          refine ⟨⟨_, rfl, ?_⟩, below_trans Hb1.out Hb1.out.size Hb.out⟩
          rw [HE.out, HP.out, HP2.out]
          exact Hown.out.lower Hb1.out.size

end Go.Proofs.YtpfjgecdlilkcaaGreat

/-
  Layer 20: all leaves: the program's way.
-/
namespace Go.Proofs.YtpfjgecdlilkcaaGreat
open Go.RowKit Go.Sort Go.Proofs

theorem infoF : (Tryz.prog.info? 45).map (fun i => (i.zero, i.size, i.bytes)) = some (some (.agg #[.int .i64 0, .int .i64 0, .int .i64 0]), 3, 24) := by kernel_rfl
theorem blk4f {w : World} {g : Nat} {t : TypeId} {a b c d : Value} (h : Blk w g t #[a, b, c, d]) : w.cell? ⟨g, 0, none⟩ = some a ∧ w.cell? ⟨g, 1, none⟩ = some b ∧ w.cell? ⟨g, 2, none⟩ = some c ∧ w.cell? ⟨g, 3, none⟩ = some d := ⟨h.cell 0, h.cell 1, h.cell 2, h.cell 3⟩
/-- what lies in memory -/
structure LfSt (w wr : World) (bc : Nat) (v : Value) (O : List Lsa) (T : List (Int × Int × Int)) (M : List (Hp × Int)) : Prop where
  map : MapAt Hp.enc wr bc (intL M)
  cost : CostM wantF M T
  xs : XsAt wr (bc + 1) v O
  bel : Below w.heap.size w wr
theorem LfSt.keep {w wr wr' : World} {bc : Nat} {v : Value} {O : List Lsa} {T : List (Int × Int × Int)} {M : List (Hp × Int)} (h : LfSt w wr bc v O T M) (hb : Below wr.heap.size wr wr') : LfSt w wr' bc v O T M := ⟨h.map.below hb h.map.lt, h.cost, h.xs.keep hb, below_trans h.bel h.bel.size hb⟩
theorem shr4 (x : Int) : x >>> (4 : Nat) = x / 16 := by rw [Int.shiftRight_eq_div_pow]; rfl

set_option maxHeartbeats 16000000 in
set_option maxRecDepth 100000 in
theorem Leaves_any (A : Option Addr) (cap : Nat) (l : List Lsa) (w : World) (hl : RowsAt 9 Lsa.cells w w.heap.size A l) (he : ∀ x ∈ l, RowsAt 4 Lnk.cells w w.heap.size x.ka x.links ∧ RowsAt 1 icell w w.heap.size x.ma x.members) (hlens : ∀ x ∈ l, x.links.length ≤ 1000 ∧ x.members.length ≤ 1000) (hm : l.length ≤ 60) (nn : Nat) (hnn : nn = l.length) :
    Calls Tryz.prog 15 #[.slice A nn cap] w fun r w' => (∃ v, r = .returned v ∧ OwnR 45 3 Lf.cells w' w.heap.size v (leavesV (l.map vX))) ∧ Below w.heap.size w w' := by
  have hmm := @run_makeMap Tryz.prog
  obtain ⟨bc, hbc⟩ : ∃ bc, w.heap.size = bc := ⟨_, rfl⟩
  obtain ⟨wm, hwm⟩ : ∃ wm, w.alloc (.map #[] 0) = wm := ⟨_, rfl⟩
  have hbm := below_new w (.map #[] 0)
  have hmp : MapAt Hp.enc (w.alloc (.map #[] 0)) w.heap.size [] := MapAt.new w
  have hsm : (w.alloc (.map #[] 0)).heap.size = w.heap.size + 1 := by simp
  rw [hwm] at hbm hmp hsm
  rw [hbc] at hmp hsm
  have HCo := Lib.hid (Counts_any A cap l wm ((hl.below hbm).more hbm.size) (fun x hx => ⟨((he x hx).1.below hbm).more hbm.size, ((he x hx).2.below hbm).more hbm.size⟩) hlens (by omega) nn hnn)
  have Hmp := Lib.hid hmp
  have Hbm := Lib.hid hbm
  have Hsm := Lib.hid hsm
  have Hbc := Lib.hid hbc
  clear hl he hlens hnn hbm hmp hsm
  go_enter Tryz.func15, Tryz.ntmps15
  go_wp2_with fail
  clear hmm
  with_reducible refine Calls.mono HCo.out ?_
  rintro r w2 ⟨⟨v1, rfl, O, hx1, hO1⟩, hb1⟩
  obtain ⟨A1, c1, hv1⟩ := hx1.own.shape
  subst hv1
  have hOl : O.length ≤ 60 := by
    have h1 := congrArg List.length hO1
    have h2 := countsV_len (l.map vX)
    rw [List.length_map] at h1 h2
    omega
  have hcn : CntOk (O.map vX) := by rw [hO1]; exact countsV_ok _
  have HS0 := Lib.hid (show LfSt w w2 bc (.slice A1 O.length c1) O [] [] from ⟨Hmp.out.below hb1 Hmp.out.lt, costM_nil wantF_nil, hx1.lower (by rw [Hsm.out]; exact Nat.le_refl _), below_trans Hbm.out Hbm.out.size hb1⟩)
  have HO1 := Lib.hid hO1
  have Hcn := Lib.hid hcn
  clear hx1 hO1 hcn hb1 HCo
  go_wp2
  go_loopw [18] (fun i wr => ∃ (k : Nat) (M : List (Hp × Int)), i = .int .i64 k ∧ k ≤ O.length ∧ LfSt w wr bc (.slice A1 O.length c1) O (leafC ((O.map vX).take k)) M) (fun i _ => O.length - (intOf i).toNat)
  case atStart => exact ⟨0, [], rfl, Nat.zero_le _, HS0.out⟩
  case round =>
    obtain ⟨k, M, rfl, hk, hst⟩ := hrel
    clear HS0
    have HSt := Lib.hid hst
    by_cases hlt : k < O.length
    · obtain ⟨g, o, hA, -, x0, x1, x2, x3, x4, x5, x6, x7, x8⟩ := row_lsa9b (OwnR.rows (C := 9) (cells := Lsa.cells) (fun _ => rfl) hst.xs.own).2 k hlt
      have hkl : (k : Int) < (O.length : Int) := by omega
      have hmem := List.getElem_mem hlt
      have hln := hst.xs.lens O[k] (List.getElem_mem hlt)
      have hmore := leafC_more (O.map vX) (k := k) (by simpa using hlt)
      rw [List.getElem_map] at hmore
      have HA := Lib.hid hA
      rw [hA]
      have Hlt := Lib.hid hlt
      generalize O[k] = x at *
      obtain ⟨⟨y1, y2, y3, y4, y5, y6, y7⟩, ka, kc, ls, ma, mc, ms⟩ := x
      simp only at x0 x1 x2 x3 x4 x5 x6 x7 x8 hln
      change leafC ((O.map vX).take (k + 1)) = leafC ((O.map vX).take k) ++ leafX (⟨y1, y2, y3, y4, y5, y6, y7⟩, ls, ms) ls at hmore
      obtain ⟨nl, hnl⟩ : ∃ nl, ls.length = nl := ⟨_, rfl⟩
      obtain ⟨nm, hnm⟩ : ∃ nm, ms.length = nm := ⟨_, rfl⟩
      rw [hnl] at x7
      rw [hnm] at x8
      have Hmore := Lib.hid hmore
      have Hmem := Lib.hid hmem
      have Hnl := Lib.hid hnl
      obtain ⟨w6, hw6⟩ : ∃ w6, wr.alloc (.cells #[.int .i64 y1, .int .i64 y2, .int .i64 y3, .int .i64 y4, .int .i64 y5, .int .i64 y6, .int .i64 y7, .slice ka nl kc, .slice ma nm mc] 41) = w6 := ⟨_, rfl⟩
      obtain ⟨g6, hg6⟩ : ∃ g6, wr.heap.size = g6 := ⟨_, rfl⟩
      have hk6 := Blk.new wr 41 #[.int .i64 y1, .int .i64 y2, .int .i64 y3, .int .i64 y4, .int .i64 y5, .int .i64 y6, .int .i64 y7, .slice ka nl kc, .slice ma nm mc]
      have hb6 := below_new wr (.cells #[.int .i64 y1, .int .i64 y2, .int .i64 y3, .int .i64 y4, .int .i64 y5, .int .i64 y6, .int .i64 y7, .slice ka nl kc, .slice ma nm mc] 41)
      rw [hw6, hg6] at hk6
      rw [hw6] at hb6
      have HS6 := Lib.hid (hst.keep hb6)
      have HK6 := Lib.hid hk6
      have Hg6 := Lib.hid (show g6 ≠ bc from fun e => by have := hst.map.lt; omega)
      have hnl2 : (nl : Int) ≤ 1000 := by omega
      have hnl3 : nl ≤ 1000 := by omega
      obtain ⟨z0, z1, z2, z3, z4, z5, z6, z7, z8, zf⟩ := blk9 hk6
      clear hnl hnm hA hlt hk6 hb6 hk hst hln hmore hmem
      go_wp2
      clear z0 z1 z2 z3 z4 z5 z6 z7 z8 zf x0 x1 x2 x3 x4 x5 x6 x7 x8
      go_loopw [25] (fun i wq => ∃ (j : Nat) (M : List (Hp × Int)), i = .int .i64 j ∧ j ≤ nl ∧ LfSt w wq bc (.slice A1 O.length c1) O (leafC ((O.map vX).take k) ++ leafX (⟨y1, y2, y3, y4, y5, y6, y7⟩, ls, ms) (ls.take j)) M ∧ Blk wq g6 41 #[.int .i64 y1, .int .i64 y2, .int .i64 y3, .int .i64 y4, .int .i64 y5, .int .i64 y6, .int .i64 y7, .slice ka nl kc, .slice ma nm mc]) (fun i _ => nl - (intOf i).toNat)
      case atStart => exact ⟨0, M, rfl, Nat.zero_le _, by simpa [leafX, HA.out] using HS6.out, HK6.out⟩
      case round =>
        obtain ⟨j, M, rfl, hj, hsq, hkq⟩ := hrel
        clear HS6 HK6 HSt
        by_cases hjl : j < nl
        · have hjl2 : j < ls.length := by have := Hnl.out; omega
          obtain ⟨g', o', hA', -, v0, v1, v2, v3⟩ := row_lnk (hsq.xs.rows _ Hmem.out).1 j hjl2
          simp only at hA'
          have hjk : (j : Int) < (nl : Int) := by omega
          have hmq := leafX_more (⟨y1, y2, y3, y4, y5, y6, y7⟩, ls, ms) hjl2
          have HA' := Lib.hid hA'
          rw [hA']
          have Hjl := Lib.hid hjl
          simp only at v0 v1 v2 v3
          generalize ls[j]'hjl2 = y at *
          obtain ⟨e1, e2, e3, e4⟩ := y
          simp only at v0 v1 v2 v3 hmq
          obtain ⟨T, hT⟩ : ∃ T, leafC ((O.map vX).take k) ++ leafX (⟨y1, y2, y3, y4, y5, y6, y7⟩, ls, ms) (ls.take j) = T := ⟨_, rfl⟩
          have hmq2 : leafC ((O.map vX).take k) ++ leafX (⟨y1, y2, y3, y4, y5, y6, y7⟩, ls, ms) (ls.take (j + 1)) = T ++ if e1 = 3 then [(y4, e2 / 16, e4)] else [] := by rw [hmq, ← hT, List.append_assoc]
          rw [hT] at hsq
          have Hmq := Lib.hid hmq2
          obtain ⟨w8, hw8⟩ : ∃ w8, wr.alloc (.cells #[.int .i64 e1, .int .i64 e2, .int .i64 e3, .int .i64 e4] 53) = w8 := ⟨_, rfl⟩
          obtain ⟨g8, hg8⟩ : ∃ g8, wr.heap.size = g8 := ⟨_, rfl⟩
          have hk8 := Blk.new wr 53 #[.int .i64 e1, .int .i64 e2, .int .i64 e3, .int .i64 e4]
          have hb8 := below_new wr (.cells #[.int .i64 e1, .int .i64 e2, .int .i64 e3, .int .i64 e4] 53)
          rw [hw8, hg8] at hk8
          rw [hw8] at hb8
          have hs8 := hsq.keep hb8
          have hkk8 := hkq.below hb8 hkq.lt
          obtain ⟨w9, hw9⟩ : ∃ w9, w8.alloc (.cells #[.int .i64 (e2 / 16), .int .i64 y4] 50) = w9 := ⟨_, rfl⟩
          obtain ⟨g9, hg9⟩ : ∃ g9, w8.heap.size = g9 := ⟨_, rfl⟩
          have hk9 := Blk.new w8 50 #[.int .i64 (e2 / 16), .int .i64 y4]
          have hb9 := below_new w8 (.cells #[.int .i64 (e2 / 16), .int .i64 y4] 50)
          rw [hw9, hg9] at hk9
          rw [hw9] at hb9
          have HS9 := Lib.hid (hs8.keep hb9)
          have HK9 := Lib.hid (hkk8.below hb9 hkk8.lt)
          have hl9 := hk8.below hb9 hk8.lt
          obtain ⟨z0, z1, z2, z3, z4, z5, z6, z7, z8, zf⟩ := blk9 hkk8
          obtain ⟨q0, q1, q2, q3⟩ := blk4f hk8
          obtain ⟨r0, r1, r2, r3⟩ := blk4f hl9
          obtain ⟨p0, p1⟩ : _ ∧ _ := ⟨hk9.cell 0, hk9.cell 1⟩
          simp only [List.getElem?_toArray, List.getElem?_cons_zero, List.getElem?_cons_succ] at p0 p1
          have hlp := HS9.out.map.look_run keyHp Tryz.underlying82 (zeroI20 _) ⟨e2 / 16, y4⟩ true
          rw [HS9.out.cost.get] at hlp
          have hsh := shr4 e2
          clear hA' hjl hjl2 hmq hmq2 hT hsq hkq hk8 hb8 hs8 hkk8 hk9 hb9 hl9 hj
          cases hw : wantF ⟨e2 / 16, y4⟩ T with
          | none =>
            simp only [if_true, Hp.enc, hw, Option.map, Option.getD, Option.isSome] at hlp
            have Hw := Lib.hid hw
            clear hw
            by_cases h3 : e1 = 3
            · subst h3
              have hmq3 := Hmq.out
              rw [if_pos rfl] at hmq3
              have Hmq3 := Lib.hid hmq3
              clear hmq3
              go_wp2_with (at_mapUpdate; (refine wpList_update_st _ (by rfl) _ _ _ 82 (by rfl) 50 3 keyHp Tryz.underlying82 (by rfl) HS9.out.map ⟨e2 / 16, y4⟩ (by rfl) (.int .i64 e4) (by rfl) ?_); intro w10 hm10 hg10 hs10; rw [setL_int] at hm10; have HSn := Lib.hid (LfSt.mk hm10 (HS9.out.cost.set_ (wantF_snoc y4 (e2 / 16) e4 T) (.inl Hw.out)) (HS9.out.xs.iter hg10 (Nat.lt_succ_self _)) (HS9.out.bel.grown hg10 HS9.out.bel.size (fun m e => by injection e with e; rw [← e, Hbc.out]; exact Nat.le_refl _))); have HKn := Lib.hid (HK9.out.grown hg10 (fun e => Hg6.out (by injection e))); clear hm10 hg10 hs10)
              go_roundw
              case measure => have := Hjl.out; simp [intOf]; omega
              case rel => exact ⟨j + 1, _, by go_num, Hjl.out, by rw [Hmq3.out]; exact HSn.out, by have h := HKn.out; rw [HA'.out] at h; exact h⟩
            · have HSn := Lib.hid (show LfSt w w9 bc (.slice A1 O.length c1) O (leafC ((O.map vX).take k) ++ leafX (⟨y1, y2, y3, y4, y5, y6, y7⟩, ls, ms) (ls.take (j + 1))) M by
                rw [Hmq.out, if_neg h3, List.append_nil]; exact HS9.out)
              go_wp2
              go_roundw
              case measure => have := Hjl.out; simp [intOf]; omega
              case rel => exact ⟨j + 1, M, by go_num, Hjl.out, HSn.out, by have h := HK9.out; rw [HA'.out] at h; exact h⟩
          | some b =>
            simp only [if_true, Hp.enc, hw, Option.map, Option.getD, Option.isSome] at hlp
            have Hw := Lib.hid hw
            clear hw
            by_cases h3 : e1 = 3
            · subst h3
              have hmq3 := Hmq.out
              rw [if_pos rfl] at hmq3
              have Hmq3 := Lib.hid hmq3
              clear hmq3
              by_cases hlt4 : e4 < b
              · go_wp2_with (at_mapUpdate; (refine wpList_update_st _ (by rfl) _ _ _ 82 (by rfl) 50 3 keyHp Tryz.underlying82 (by rfl) HS9.out.map ⟨e2 / 16, y4⟩ (by rfl) (.int .i64 e4) (by rfl) ?_); intro w10 hm10 hg10 hs10; rw [setL_int] at hm10; have HSn := Lib.hid (LfSt.mk hm10 (HS9.out.cost.set_ (wantF_snoc y4 (e2 / 16) e4 T) (.inr ⟨b, Hw.out, hlt4⟩)) (HS9.out.xs.iter hg10 (Nat.lt_succ_self _)) (HS9.out.bel.grown hg10 HS9.out.bel.size (fun m e => by injection e with e; rw [← e, Hbc.out]; exact Nat.le_refl _))); have HKn := Lib.hid (HK9.out.grown hg10 (fun e => Hg6.out (by injection e))); clear hm10 hg10 hs10)
                go_roundw
                case measure => have := Hjl.out; simp [intOf]; omega
                case rel => exact ⟨j + 1, _, by go_num, Hjl.out, by rw [Hmq3.out]; exact HSn.out, by have h := HKn.out; rw [HA'.out] at h; exact h⟩
              · have HSn := Lib.hid (LfSt.mk HS9.out.map (HS9.out.cost.keep (wantF_snoc y4 (e2 / 16) e4 T) ⟨b, Hw.out, hlt4⟩) HS9.out.xs HS9.out.bel)
                go_wp2
                go_roundw
                case measure => have := Hjl.out; simp [intOf]; omega
                case rel => exact ⟨j + 1, M, by go_num, Hjl.out, by rw [Hmq3.out]; exact HSn.out, by have h := HK9.out; rw [HA'.out] at h; exact h⟩
            · have HSn := Lib.hid (show LfSt w w9 bc (.slice A1 O.length c1) O (leafC ((O.map vX).take k) ++ leafX (⟨y1, y2, y3, y4, y5, y6, y7⟩, ls, ms) (ls.take (j + 1))) M by
                rw [Hmq.out, if_neg h3, List.append_nil]; exact HS9.out)
              go_wp2
              go_roundw
              case measure => have := Hjl.out; simp [intOf]; omega
              case rel => exact ⟨j + 1, M, by go_num, Hjl.out, HSn.out, by have h := HK9.out; rw [HA'.out] at h; exact h⟩
        · have hje : j = nl := by omega
          subst hje
          have hls2 : ls.take ls.length = ls := List.take_length
          have hsq2 : LfSt w wr bc (.slice A1 O.length c1) O (leafC ((O.map vX).take (k + 1))) M := by
            rw [Hmore.out]
            rw [← Hnl.out, hls2] at hsq
            exact hsq
          have HSq := Lib.hid hsq2
          have hjk : ¬ (j : Int) < (j : Int) := by omega
          clear hjl hsq hkq hsq2 hls2 hj
          go_wp2
          go_roundw
          case measure => have := Hlt.out; simp [intOf]; omega
          case rel => exact ⟨k + 1, M, by go_num, Hlt.out, by have h := HSq.out; rw [HA.out] at h; exact h⟩
    · have hke : k = O.length := by omega
      subst hke
      have hkl : ¬ (O.length : Int) < (O.length : Int) := by omega
      have hst2 : LfSt w wr bc (.slice A1 O.length c1) O (leafC (O.map vX)) M := by
        have h := hst
        rw [show (O.map vX).take O.length = O.map vX from by rw [← List.length_map (f := vX), List.take_length]] at h
        exact h
      have HSE := Lib.hid hst2
      have hMl : M.length ≤ 60000 := by
        have h1 := hst2.cost.len
        have h2 := leafC_len (m := 1000) (O.map vX) (fun x hx => by
          obtain ⟨y, hy, rfl⟩ := List.mem_map.1 hx
          exact (hst2.xs.lens y hy).1)
        rw [List.length_map] at h2
        omega
      have hnd : (M.map (·.1)).Nodup := by rw [← intL_keys]; exact hst2.map.nodup
      have Hnd := Lib.hid hnd
      obtain ⟨ri, hri⟩ : ∃ ri, wr.heap.size = ri := ⟨_, rfl⟩
      have Hri := Lib.hid (show bc < ri by have := hst2.map.lt; omega)
      have Hri2 := Lib.hid hri
      clear hst hst2 hlt hk HSt hnd
      go_wp2_with (at_range; refine wpList_range_st _ rfl _ 82 rfl 50 3 Tryz.underlying82 rfl HSE.out.map ?_; intro w3 hr3 hb3 hs3; rw [Hri2.out] at hr3; have HR3 := Lib.hid hr3; have Hb3 := Lib.hid (below_trans HSE.out.bel HSE.out.bel.size hb3); have Hs3 := Lib.hid (show w3.heap.size = ri + 1 by rw [hs3, Hri2.out]); clear hr3 hb3 hs3)
      go_loopw [11] (fun v wr => ∃ D R, RangeAt Hp.enc wr bc ri (intL M) (intL R) ∧ (D ++ R).Perm M ∧ OwnR 45 3 Lf.cells wr (ri + 1) v (D.map one) ∧ Below w.heap.size w wr ∧ ri + 1 ≤ wr.heap.size) (fun _ wr => wr.rangeLeft bc ri)
      case atStart => exact ⟨[], M, HR3.out, by rw [List.nil_append], OwnR.nil _ _, Hb3.out, by rw [Hs3.out]; exact Nat.le_refl _⟩
      case round =>
        obtain ⟨D, R, hrg, hperm, hown, hb, hsz⟩ := hrel
        obtain ⟨A7, c7, hv7⟩ := hown.shape
        subst hv7
        have hDl : D.length ≤ 60000 := by
          have h1 := hperm.length_eq
          rw [List.length_append] at h1
          omega
        have hEl : (D.map one).length ≤ 60000 := by rw [List.length_map]; omega
        have Hel := Lib.hid hEl
        obtain ⟨nE, hnE⟩ : ∃ nE, (D.map one).length = nE := ⟨_, rfl⟩
        rw [hnE] at hown ⊢
        have HnE := Lib.hid hnE
        have Hrg := Lib.hid hrg
        have Hperm := Lib.hid hperm
        have Hown := Lib.hid hown
        have Hb := Lib.hid hb
        have Hsz := Lib.hid hsz
        clear hrg hperm hown hb hsz HR3 Hb3 hEl hnE
        go_wp2_with (at_next; refine wpList_next_st _ rfl _ rfl keyHp.inj rfl Hrg.out ?_ ?_)
        · intro h0
          have hR0 : R = [] := by simpa [intL] using h0
          subst hR0
          clear h0
          have hperm := Hperm.out
          rw [List.append_nil] at hperm
          have hnd : (D.map (·.1)).Nodup := ((hperm.map _).nodup_iff).2 Hnd.out
          have HS := Lib.hid (fun W hO => sortFs (.slice A7 nE c7) (D.map one) (ri + 1) W hO (by have := Hel.out; omega) (leaves_apart hnd))
          have Hp := Lib.hid hperm
          clear hperm hnd
          go_wp2_with (go_at_call 30; (with_reducible refine Calls.mono (HS.out _ Hown.out) ?_); rintro r w4 ⟨rfl, ⟨N, hown4, hpN, hsN⟩, hg4⟩; have HO4 := Lib.hid hown4; have HN := Lib.hid (leaves_laid Hcn.out HSE.out.cost Hnd.out Hp.out hpN hsN); have Hg4 := Lib.hid hg4; clear hown4 hg4 hpN hsN)
          obtain ⟨A8, c8, hv8⟩ := HO4.out.shape
          go_ret
          have hE : leavesV (l.map vX) = N := by rw [HN.out]; unfold leavesV; rw [HO1.out]
          refine ⟨⟨_, rfl, ?_⟩, ?_⟩
          · rw [hE]
            exact HO4.out.lower (by have := Hri.out; have := Hbc.out; omega)
          · have h1 := Hb.out
            exact h1.grown Hg4.out h1.size (fun m e => by have := (Hown.out.block m e).1; have := Hri.out; have := Hbc.out; omega)
        · intro pre e ev post w5 hsplit hrg5 hg5 hs5 hen
          obtain ⟨P, ⟨⟨a, b⟩, ct⟩, Q, hR, rfl, rfl, he⟩ := intL_split hsplit
          injection he with he1 he2
          subst he1 he2
          rw [intL_append] at hrg5
          have hmeas : (intL (P ++ Q)).length < (intL R).length := by rw [hR]; simp [intL]
          have hperm2 : (D ++ [((⟨a, b⟩ : Hp), ct)] ++ (P ++ Q)).Perm M := by
            refine List.Perm.trans ?_ Hperm.out
            rw [hR, List.append_assoc]
            refine List.Perm.append_left D ?_
            rw [List.singleton_append]
            exact List.perm_middle.symm
          have Hmeas := Lib.hid hmeas
          have Hperm2 := Lib.hid hperm2
          have Hrg5 := Lib.hid hrg5
          have Hb5 := Lib.hid (show Below w.heap.size w w5 from Hb.out.grown hg5 Hb.out.size (fun m e => by injection e with e; have := Hri.out; have := Hbc.out; omega))
          have Hown5 := Lib.hid (Hown.out.kept hg5 (by
            cases hv : (Value.slice A7 nE c7).ownBlock with
            | none => exact .inl rfl
            | some m => right; intro e; injection e with e; have := (Hown.out.block m hv).1; omega))
          have Hs5 := Lib.hid (show ri + 1 ≤ w5.heap.size by rw [hs5]; exact Hsz.out)
          clear hsplit hrg5 hg5 hs5 hR hmeas hperm2
          unfold Hp.enc at hen
          simp only at hen
          obtain ⟨w6, hw6⟩ : ∃ w6, w5.alloc (.cells #[.int .i64 a, .int .i64 b] 50) = w6 := ⟨_, rfl⟩
          obtain ⟨g6, hg6⟩ : ∃ g6, w5.heap.size = g6 := ⟨_, rfl⟩
          have hk6 := Blk.new w5 50 #[.int .i64 a, .int .i64 b]
          have hb6 := below_new w5 (.cells #[.int .i64 a, .int .i64 b] 50)
          rw [hw6, hg6] at hk6
          rw [hw6] at hb6
          obtain ⟨p0, p1⟩ : _ ∧ _ := ⟨hk6.cell 0, hk6.cell 1⟩
          simp only [List.getElem?_toArray, List.getElem?_cons_zero, List.getElem?_cons_succ] at p0 p1
          have hb7 := below_new w6 (.cells #[.int .i64 b, .int .i64 a, .int .i64 ct] 45)
          have hb67 := below_trans hb6 hb6.size hb7
          have HB7 := Lib.hid (below_trans Hb5.out Hb5.out.size hb67)
          have HO7 := Lib.hid (Hown5.out.below hb67)
          have HR7 := Lib.hid (Hrg5.out.below hb67 Hrg5.out.map.lt Hrg5.out.lt)
          have HS7 := Lib.hid (show ri + 1 ≤ (w6.alloc (.cells #[.int .i64 b, .int .i64 a, .int .i64 ct] 45)).heap.size from Nat.le_trans Hs5.out hb67.size)
          clear hk6 hb6 hb7 hb67
          go_wp2_with (at_builtin; (refine app_row (e := 45) Lf.cells (fun _ => rfl) (by decide) (bytes := 24) (by decide) infoF rfl Tryz.underlying42 onesF (by rfl) _ _ (by rfl) (ri + 1) _ (D.map one) (by rfl) HO7.out w6.heap.size ⟨b, a, ct⟩ (by rfl) (Blk.new _ _ _) (by have h1 := Hel.out; omega) HS7.out ?_); intro v8 w8 hown8 hg8 hor8; have HO8 := Lib.hid (show OwnR 45 3 Lf.cells w8 (ri + 1) v8 ((D ++ [((⟨a, b⟩ : Hp), ct)]).map one) by rw [List.map_append, List.map_singleton]; exact hown8); have Hg8 := Lib.hid hg8; clear hown8 hg8 hor8)
          have hne : ∀ m, (Value.slice A7 nE c7).ownBlock = some m → ri + 1 ≤ m := fun m hm => (Hown.out.block m hm).1
          have HR8 := Lib.hid (HR7.out.grown Hg8.out (fun e => by have := hne _ e.symm; have := Hri.out; omega) (fun e => by have := hne _ e.symm; omega))
          have HB8 := Lib.hid (show Below w.heap.size w w8 from HB7.out.grown Hg8.out HB7.out.size (fun m hm => by have := hne m hm; have := Hri.out; have := Hbc.out; omega))
          have HS8 := Lib.hid (Nat.le_trans HS7.out Hg8.out.size)
          clear hne
          go_wp2
          go_roundw
          case measure => rw [HR8.out.left_eq, Hrg.out.left_eq]; exact Hmeas.out
          case rel => exact ⟨D ++ [((⟨a, b⟩ : Hp), ct)], P ++ Q, HR8.out, Hperm2.out, HO8.out, HB8.out, HS8.out⟩

end Go.Proofs.YtpfjgecdlilkcaaGreat

/-
  Layer 20: all leaves: the document's way.
-/
namespace Go.Proofs.YtpfjgecdlilkcaaGreat
open Go.RowKit Go.Sort

def linkF (n : Int) (ys : List Lnk) : List Int := ys.filterMap fun y => if y.kind = 3 ∧ y.id / 16 = n then some y.cost else none
def refF (r n : Int) (T : List VX) : List Int := T.flatMap fun x => if x.1.adv = r then linkF n x.2.1 else []
theorem linkF_more (n : Int) {ys : List Lnk} {j : Nat} (hj : j < ys.length) : linkF n (ys.take (j + 1)) = linkF n (ys.take j) ++ if ys[j].kind = 3 ∧ ys[j].id / 16 = n then [ys[j].cost] else [] := by
  unfold linkF
  rw [List.take_succ_eq_append_getElem hj, List.filterMap_append]
  congr 1
  by_cases h : ys[j].kind = 3 ∧ ys[j].id / 16 = n <;> simp [h]
theorem refF_more (r n : Int) {T : List VX} {k : Nat} (hk : k < T.length) : refF r n (T.take (k + 1)) = refF r n (T.take k) ++ if T[k].1.adv = r then linkF n T[k].2.1 else [] := by
  unfold refF
  rw [List.take_succ_eq_append_getElem hk, List.flatMap_append, List.flatMap_singleton]
theorem refF_best (C : List VX) (r n : Int) : bestL (refF r n C) = leafCost C r n := by
  refine bestL_ext fun c => ?_
  rw [mem_leaf]
  unfold refF linkF
  rw [List.mem_flatMap]
  constructor
  · rintro ⟨x, hx, hm⟩
    split at hm
    · rename_i h1
      rw [List.mem_filterMap] at hm
      obtain ⟨y, hy, he⟩ := hm
      split at he
      · rename_i h2
        injection he with he
        exact ⟨x, hx, y, hy, h1, h2.1, h2.2, he⟩
      · cases he
    · cases hm
  · rintro ⟨x, hx, y, hy, g1, g2, g3, g4⟩
    refine ⟨x, hx, ?_⟩
    rw [if_pos g1, List.mem_filterMap]
    exact ⟨y, hy, by rw [if_pos ⟨g2, g3⟩, g4]⟩
def preF (f : Int → Int → Option Int) (i : Nat) : List Lf := (rng 1 i).flatMap fun r => (rng 0 4).filterMap (leafA f r)
theorem leaves_pre (f : Int → Int → Option Int) : leavesC f = preF f 15 := rfl
theorem preF_more (f : Int → Int → Option Int) (i : Nat) : preF f (i + 1) = preF f i ++ (rng 0 4).filterMap (leafA f (1 + (i : Int))) := by
  unfold preF
  rw [rng_more 1 i, List.flatMap_append, List.flatMap_singleton]
theorem preF_len (f : Int → Int → Option Int) (i : Nat) : (preF f i).length ≤ i * 4 := by
  have := flat_len (m := 4) (fun r => (rng 0 4).filterMap (leafA f r)) (rng 1 i) (fun _ _ => fil_len _ _ _)
  rw [rng_len] at this
  exact this
theorem tdiv16 (x : Int) (h : 0 ≤ x) : Int.tdiv x 16 = x / 16 := Int.tdiv_eq_ediv_of_nonneg h

set_option maxHeartbeats 16000000 in
set_option maxRecDepth 100000 in
theorem refLeaves_any (A : Option Addr) (cap : Nat) (l : List Lsa) (w : World) (hl : RowsAt 9 Lsa.cells w w.heap.size A l) (he : ∀ x ∈ l, RowsAt 4 Lnk.cells w w.heap.size x.ka x.links ∧ RowsAt 1 icell w w.heap.size x.ma x.members) (hlens : ∀ x ∈ l, x.links.length ≤ 1000 ∧ x.members.length ≤ 1000) (hm : l.length ≤ 2 ^ 16) (nn : Nat) (hnn : nn = l.length) :
    Calls Tryz.prog 24 #[.slice A nn cap] w fun r w' => (∃ v, r = .returned v ∧ OwnR 45 3 Lf.cells w' w.heap.size v (leavesV (l.map vX))) ∧ Below w.heap.size w w' := by
  have HCo := Lib.hid (refCounts_any A cap l w hl he hlens hm nn hnn)
  clear hl he hlens hnn
  go_enter Tryz.func24, Tryz.ntmps24
  go_wp2_with fail
  with_reducible refine Calls.mono HCo.out ?_
  rintro r w1 ⟨⟨v1, rfl, O, hx1, hO1⟩, hb1⟩
  obtain ⟨A1, c1, hv1⟩ := hx1.own.shape
  subst hv1
  have hOl : O.length ≤ 2 ^ 16 := by
    have h1 := congrArg List.length hO1
    have h2 := countsV_len (l.map vX)
    rw [List.length_map] at h1 h2
    omega
  have hcn : CntOk (O.map vX) := by rw [hO1]; exact countsV_ok _
  have hOi : (O.length : Int) ≤ 65536 := by omega
  have HX1 := Lib.hid hx1
  have Hcn := Lib.hid hcn
  have HE := Lib.hid (show leavesV (l.map vX) = preF (leafCost (O.map vX)) 15 by unfold leavesV; rw [← hO1, leaves_pre])
  have Hb1 := Lib.hid hb1
  clear hx1 hO1 hcn hb1
  go_wp2
  go_loopw [4, 5] (fun v rr wr => ∃ i : Nat, rr = .int .i64 (1 + (i : Int)) ∧ i ≤ 15 ∧ OwnR 45 3 Lf.cells wr w1.heap.size v (preF (leafCost (O.map vX)) i) ∧ Below w1.heap.size w1 wr) (fun _ rr _ => 16 - (intOf rr).toNat)
  case atStart => exact ⟨0, rfl, by decide, OwnR.nil _ _, Below.refl _ _⟩
  case round =>
    obtain ⟨i, rfl, hi, hown, hb⟩ := hrel
    obtain ⟨A7, c7, hv7⟩ := hown.shape
    subst hv7
    have hpl := preF_len (leafCost (O.map vX)) i
    obtain ⟨P, hP⟩ : ∃ P, preF (leafCost (O.map vX)) i = P := ⟨_, rfl⟩
    rw [hP] at hown hpl ⊢
    have Hown := Lib.hid hown
    have Hb := Lib.hid hb
    by_cases hlt : i < 15
    · obtain ⟨r0, hr0⟩ : ∃ r0, 1 + (i : Int) = r0 := ⟨_, rfl⟩
      have h15 : r0 ≤ 15 := by omega
      have h1r : 1 ≤ r0 := by omega
      have hmp := preF_more (leafCost (O.map vX)) i
      rw [hP, hr0] at hmp
      have Hmore := Lib.hid hmp
      have HPl := Lib.hid hpl
      have Hr0 := Lib.hid hr0
      have Hlt := Lib.hid hlt
      rw [hr0]
      clear hown hb hP hmp hr0 hlt hi hpl
      go_wp2
      go_loopw [4, 6] (fun v n wr => ∃ j : Nat, n = .int .i64 (j : Int) ∧ j ≤ 4 ∧ OwnR 45 3 Lf.cells wr w1.heap.size v (P ++ (rng 0 j).filterMap (leafA (leafCost (O.map vX)) r0)) ∧ Below w1.heap.size w1 wr) (fun _ n _ => 4 - (intOf n).toNat)
      case atStart => exact ⟨0, rfl, by decide, by simpa [rng] using Hown.out, Hb.out⟩
      case round =>
        obtain ⟨j, rfl, hj, hown, hb⟩ := hrel
        obtain ⟨A7, c7, hv7⟩ := hown.shape
        subst hv7
        have hql := fil_len (leafA (leafCost (O.map vX)) r0) 0 j
        have hmj := fil_more (leafA (leafCost (O.map vX)) r0) 0 j
        rw [Int.zero_add] at hmj
        have hll : (P ++ (rng 0 j).filterMap (leafA (leafCost (O.map vX)) r0)).length ≤ 2000 := by rw [List.length_append]; have := HPl.out; have := Hlt.out; omega
        obtain ⟨Q, hQ⟩ : ∃ Q, P ++ (rng 0 j).filterMap (leafA (leafCost (O.map vX)) r0) = Q := ⟨_, rfl⟩
        have hmj2 : P ++ (rng 0 (j + 1)).filterMap (leafA (leafCost (O.map vX)) r0) = Q ++ optL (leafA (leafCost (O.map vX)) r0 (j : Int)) := by rw [hmj, ← hQ, List.append_assoc]
        rw [hQ] at hown hll ⊢
        have Hown2 := Lib.hid hown
        have Hb2 := Lib.hid hb
        have Hll := Lib.hid hll
        clear Hown Hb
        by_cases hlj : j < 4
        · have h64 : (j : Int) < 4 := by omega
          obtain ⟨n0, hn0⟩ : ∃ n0, (j : Int) = n0 := ⟨_, rfl⟩
          rw [hn0] at hmj2 h64 ⊢
          have h0n : 0 ≤ n0 := by omega
          have Hn0 := Lib.hid hn0
          have Hmj := Lib.hid hmj2
          have Hlj := Lib.hid hlj
          clear hown hb hQ hmj hql hll hmj2 hn0 hlj hj
          go_wp2
          go_loopw [7, 8] (fun bv q wr => ∃ q' : Nat, q = .int .i64 (q' : Int) ∧ q' ≤ O.length ∧ BestAt bv (refF r0 n0 ((O.map vX).take q')) ∧ OwnR 45 3 Lf.cells wr w1.heap.size (.slice A7 Q.length c7) Q ∧ Below w1.heap.size w1 wr) (fun _ q _ => O.length - (intOf q).toNat)
          case atStart => exact ⟨0, rfl, Nat.zero_le _, BestAt.nil, Hown2.out, Hb2.out⟩
          case round =>
            obtain ⟨q, rfl, hq, hbs, hown, hb⟩ := hrel
            obtain ⟨bb, rfl⟩ := hbs.shape
            clear Hown2 Hb2
            have HBs := Lib.hid hbs
            have Hown2 := Lib.hid hown
            have Hb2 := Lib.hid hb
            by_cases hql : q < O.length
            · have hqk : (q : Int) < (O.length : Int) := by omega
              have hmq := refF_more r0 n0 (T := O.map vX) (k := q) (by simpa using hql)
              rw [List.getElem_map] at hmq
              have hmem := List.getElem_mem hql
              obtain ⟨gA, oA, hA0, -⟩ := row_lsa9b (OwnR.rows (C := 9) (cells := Lsa.cells) (fun _ => rfl) HX1.out.own).2 q hql
              have HA0 := Lib.hid hA0
              rw [hA0]
              clear hA0
              generalize hx : O[q] = x at *
              have HX := Lib.hid hx
              have Hmem := Lib.hid hmem
              have Hql := Lib.hid hql
              obtain ⟨⟨y1, y2, y3, y4, y5, y6, y7⟩, ka, kc, ls, ma, mc, ms⟩ := x
              change refF r0 n0 ((O.map vX).take (q + 1)) = refF r0 n0 ((O.map vX).take q) ++ (if y4 = r0 then linkF n0 ls else []) at hmq
              obtain ⟨nl, hnl⟩ : ∃ nl, ls.length = nl := ⟨_, rfl⟩
              have hnl3 : nl ≤ 1000 := by have := (HX1.out.lens _ hmem).1; simp only at this; omega
              have hnl2 : (nl : Int) ≤ 1000 := by omega
              have Hnl := Lib.hid hnl
              have Hcnt := Lib.hid (Hcn.out.each _ (List.mem_map_of_mem hmem))
              obtain ⟨S, hS⟩ : ∃ S, refF r0 n0 ((O.map vX).take q) = S := ⟨_, rfl⟩
              rw [hS] at hbs hmq
              have Hmq := Lib.hid hmq
              have HBs2 := Lib.hid hbs
              clear hx hmem hnl hS hbs hown hb hmq hq HBs
              by_cases h4 : y4 = r0
              · have hmq2 := Hmq.out
                rw [if_pos h4] at hmq2
                have Hmq2 := Lib.hid hmq2
                have H4 := Lib.hid h4
                clear hmq2 h4
                go_wp2
                go_loopw [7, 9] (fun bv s wr => ∃ s' : Nat, s = .int .i64 (s' : Int) ∧ s' ≤ nl ∧ BestAt bv (S ++ linkF n0 (ls.take s')) ∧ OwnR 45 3 Lf.cells wr w1.heap.size (.slice A7 Q.length c7) Q ∧ Below w1.heap.size w1 wr) (fun _ s _ => nl - (intOf s).toNat)
                case atStart => exact ⟨0, rfl, Nat.zero_le _, by simpa [linkF] using HBs2.out, Hown2.out, Hb2.out⟩
                case round =>
                  obtain ⟨s, rfl, hs, hbs, hown, hb⟩ := hrel
                  obtain ⟨bb, rfl⟩ := hbs.shape
                  clear Hown2 Hb2 HBs2
                  have HBs := Lib.hid hbs
                  have Hown2 := Lib.hid hown
                  have Hb2 := Lib.hid hb
                  obtain ⟨g3, o3, hA3, -, x0, x1, x2, x3, x4, x5, x6, x7, x8⟩ := row_lsaX (OwnR.rows (C := 9) (cells := Lsa.cells) (fun _ => rfl) (HX1.out.keep hb).own).2 q Hql.out HX.out
                  simp only at x0 x1 x2 x3 x4 x5 x6 x7 x8
                  rw [Hnl.out] at x7
                  have hA3' := hA3.symm.trans HA0.out
                  injection hA3' with hA3'
                  injection hA3' with e1' e2'
                  subst e1' e2'
                  by_cases hsl : s < nl
                  · have hsl2 : s < ls.length := by have := Hnl.out; omega
                    obtain ⟨g', o', hA', -, t0, t1, t2, t3⟩ := row_lnk ((HX1.out.keep hb).rows _ Hmem.out).1 s hsl2
                    simp only at hA'
                    have hsk : (s : Int) < (nl : Int) := by omega
                    have hmj := linkF_more n0 hsl2
                    have hyl := cnt_links Hcnt.out (y := ls[s]'hsl2) (List.getElem_mem hsl2)
                    rw [hA'] at x7
                    have Hsl := Lib.hid hsl
                    simp only at t0 t1 t2 t3
                    generalize ls[s]'hsl2 = y at *
                    obtain ⟨e1, e2, e3, e4⟩ := y
                    simp only at t0 t1 t2 t3 hmj hyl
                    have hmj2 : S ++ linkF n0 (ls.take (s + 1)) = S ++ linkF n0 (ls.take s) ++ (if e1 = 3 ∧ e2 / 16 = n0 then [e4] else []) := by rw [hmj, List.append_assoc]
                    have Hmj2 := Lib.hid hmj2
                    have hno : ¬ (e1 = 3 ∧ e2 / 16 = n0) → BestAt (.int .i64 bb) (S ++ linkF n0 (ls.take (s + 1))) := fun P => by rw [hmj2, if_neg P, List.append_nil]; exact hbs
                    have Hno2 := Lib.hid hno
                    have hbc := best_cases hbs hyl.2.2.2.1
                    have Hal := Lib.hid (fun o => hb.alloc hb.size o)
                    have Hoa := Lib.hid (fun o => hown.alloc o)
                    have htd := tdiv16 e2 hyl.2.2.1.1
                    have hwt : wrap64 (Int.tdiv e2 16) = Int.tdiv e2 16 := by unfold wrap64; rw [htd]; have := hyl.2.2.1; omega
                    have h4 := H4.out
                    clear hA3 hA' hsl hsl2 hmj hmj2 hno hbs hown hb hs hyl HBs
                    by_cases f1 : e1 = 3
                    · by_cases f2 : e2 / 16 = n0
                      · have hmj3 := Hmj2.out
                        rw [if_pos ⟨f1, f2⟩] at hmj3
                        have Hmj3 := Lib.hid hmj3
                        have htd2 : Int.tdiv e2 16 = n0 := by rw [htd, f2]
                        clear hmj3 htd f2
                        subst f1
                        rcases hbc with ⟨c1, hB⟩ | ⟨c1, c2, hB⟩ | ⟨c1, c2, hB⟩
                        all_goals
                          have HB := Lib.hid hB
                          clear hB
                          go_wp2
                          go_roundw
                          case measure => have := Hsl.out; simp [intOf]; omega
                          case rel => exact ⟨s + 1, by go_num, Hsl.out, by rw [Hmj3.out]; exact HB.out, Hoa.out _, Hal.out _⟩
                      · have HN := Lib.hid (Hno2.out (fun P => f2 P.2))
                        have htd2 : ¬ Int.tdiv e2 16 = n0 := by rw [htd]; exact f2
                        have htd3 : (Int.tdiv e2 16 == n0) = false := by simpa using htd2
                        clear hbc htd f2
                        subst f1
                        go_wp2
                        go_roundw
                        case measure => have := Hsl.out; simp [intOf]; omega
                        case rel => exact ⟨s + 1, by go_num, Hsl.out, HN.out, Hoa.out _, Hal.out _⟩
                    · have HN := Lib.hid (Hno2.out (fun P => f1 P.1))
                      clear hbc htd
                      go_wp2
                      go_roundw
                      case measure => have := Hsl.out; simp [intOf]; omega
                      case rel => exact ⟨s + 1, by go_num, Hsl.out, HN.out, Hoa.out _, Hal.out _⟩
                  · have hse : s = nl := by omega
                    subst hse
                    have hls2 : ls.take ls.length = ls := List.take_length
                    have hbs2 : BestAt (.int .i64 bb) (refF r0 n0 ((O.map vX).take (q + 1))) := by
                      rw [Hmq2.out]
                      rw [← Hnl.out, hls2] at hbs
                      exact hbs
                    have HBs3 := Lib.hid hbs2
                    have hsk : ¬ (s : Int) < (s : Int) := by omega
                    clear hA3 hsl hbs hown hb hbs2 hls2 hs HBs
                    go_wp2
                    go_roundw
                    case measure => have := Hql.out; simp [intOf]; omega
                    case rel => exact ⟨q + 1, by go_num, Hql.out, HBs3.out, Hown2.out, Hb2.out⟩
              · have hmq2 := Hmq.out
                rw [if_neg h4, List.append_nil] at hmq2
                have Hmq2 := Lib.hid hmq2
                have H4 := Lib.hid h4
                clear hmq2 h4
                go_wp2
                go_loopw [7, 9] (fun bv s wr => bv = .int .i64 bb ∧ s = .int .i64 0 ∧ OwnR 45 3 Lf.cells wr w1.heap.size (.slice A7 Q.length c7) Q ∧ Below w1.heap.size w1 wr) (fun _ _ _ => 0)
                case atStart => exact ⟨rfl, rfl, Hown2.out, Hb2.out⟩
                case round =>
                  obtain ⟨rfl, rfl, hown, hb⟩ := hrel
                  clear Hown2 Hb2
                  have Hown2 := Lib.hid hown
                  have Hb2 := Lib.hid hb
                  obtain ⟨g3, o3, hA3, -, x0, x1, x2, x3, x4, x5, x6, x7, x8⟩ := row_lsaX (OwnR.rows (C := 9) (cells := Lsa.cells) (fun _ => rfl) (HX1.out.keep hb).own).2 q Hql.out HX.out
                  simp only at x0 x1 x2 x3 x4 x5 x6 x7 x8
                  rw [Hnl.out] at x7
                  have hA3' := hA3.symm.trans HA0.out
                  injection hA3' with hA3'
                  injection hA3' with e1' e2'
                  subst e1' e2'
                  have h4 := H4.out
                  clear hA3 hown hb
                  by_cases hn0 : nl = 0
                  · subst hn0
                    go_wp2
                    go_roundw
                    case measure => have := Hql.out; simp [intOf]; omega
                    case rel => exact ⟨q + 1, by go_num, Hql.out, by rw [Hmq2.out]; exact HBs2.out, Hown2.out, Hb2.out⟩
                  · have hp : (0 : Int) < (nl : Int) := by omega
                    go_wp2
                    go_roundw
                    case measure => have := Hql.out; simp [intOf]; omega
                    case rel => exact ⟨q + 1, by go_num, Hql.out, by rw [Hmq2.out]; exact HBs2.out, Hown2.out, Hb2.out⟩
            · have hqe : q = O.length := by omega
              subst hqe
              have hqk : ¬ (O.length : Int) < (O.length : Int) := by omega
              have hv := hbs.val
              rw [show (O.map vX).take O.length = O.map vX from by rw [← List.length_map (f := vX), List.take_length], refF_best] at hv
              injection hv with _ hv
              have hmj2 := Hmj.out
              clear hql hbs hown hb hq HBs
              cases hfc : leafCost (O.map vX) r0 n0 with
              | none =>
                have hed : leafA (leafCost (O.map vX)) r0 n0 = none := by unfold leafA; rw [hfc]; rfl
                rw [hed] at hmj2
                simp only [optL, List.append_nil] at hmj2
                rw [hfc] at hv
                simp only [encO] at hv
                have Hmj3 := Lib.hid hmj2
                subst hv
                clear hmj2 hfc hed
                go_wp2
                go_roundw
                case measure => rw [← Hn0.out]; have := Hlj.out; simp [intOf]; omega
                case rel => exact ⟨j + 1, by rw [← Hn0.out]; go_num, Hlj.out, by rw [Hmj3.out]; exact Hown2.out, Hb2.out⟩
              | some c =>
                have hed : leafA (leafCost (O.map vX)) r0 n0 = some ⟨r0, n0, c⟩ := by unfold leafA; rw [hfc]; rfl
                rw [hed] at hmj2
                simp only [optL] at hmj2
                have hc1 := (leaf_bounds Hcn.out (leaf_is hfc)).2.2.1
                rw [hfc] at hv
                simp only [encO] at hv
                have Hmj3 := Lib.hid hmj2
                subst hv
                clear hmj2 hfc hed
                go_wp2_with (at_builtin; (refine app_row (e := 45) Lf.cells (fun _ => rfl) (by decide) (bytes := 24) (by decide) infoF rfl Tryz.underlying42 onesF (by rfl) _ _ (by rfl) w1.heap.size _ Q (by rfl) (Hown2.out.alloc _) wr.heap.size ⟨r0, n0, bb⟩ (by rfl) (Blk.new _ _ _) (by have := Hll.out; omega) (by have := Hb2.out.size; simp; omega) ?_); intro v6 w6 hown6 hg6 hor6; have HO6 := Lib.hid hown6; have HB6 := Lib.hid (show Below w1.heap.size w1 w6 from (Hb2.out.alloc Hb2.out.size _).grown hg6 (by have := Hb2.out.size; simp; omega) (fun m e => (Hown2.out.block m e).1)); clear hown6 hg6 hor6)
                go_roundw
                case measure => rw [← Hn0.out]; have := Hlj.out; simp [intOf]; omega
                case rel => exact ⟨j + 1, by rw [← Hn0.out]; go_num, Hlj.out, by rw [Hmj3.out]; exact HO6.out, HB6.out⟩
        · have hje : j = 4 := by omega
          subst hje
          rw [← Hmore.out] at hQ
          have HQ := Lib.hid hQ
          clear hown hb hQ hmj hmj2 hql hll HPl
          go_wp2
          go_roundw
          case measure => rw [← Hr0.out]; have := Hlt.out; simp [intOf]; omega
          case rel => exact ⟨i + 1, by rw [← Hr0.out]; go_num, Hlt.out, by rw [HQ.out]; exact Hown2.out, Hb2.out⟩
    · have hie : i = 15 := by omega
      subst hie
      have HP := Lib.hid hP
      clear hown hb hP hlt hi hpl
      go_wp2
      go_ret
      refine ⟨⟨_, rfl, ?_⟩, below_trans Hb1.out Hb1.out.size Hb.out⟩
      rw [HE.out, HP.out]
      exact Hown.out.lower Hb1.out.size

end Go.Proofs.YtpfjgecdlilkcaaGreat
