/-
  Layer 20: all edges: the document's way.
-/
import Derived.Test.YtpfjgecdlilkcaaBai
import Derived.Test.YtpfjgecdlilkcaaBaq
namespace Go.Proofs.Ytpfjgecdlilkcaa
open Go.RowKit Go.Sort

theorem rng_more (a : Int) (n : Nat) : rng a (n + 1) = rng a n ++ [a + (n : Int)] := by
  unfold rng
  rw [List.range_succ, List.map_append, List.map_singleton]
theorem rng_len (a : Int) (n : Nat) : (rng a n).length = n := by simp [rng]
theorem flat_len {α β : Type} {m : Nat} (g : α → List β) : ∀ l : List α, (∀ x ∈ l, (g x).length ≤ m) → (l.flatMap g).length ≤ l.length * m
  | [], _ => Nat.zero_le _
  | x :: l, h => by
    have ih := flat_len g l fun y hy => h y (by simp [hy])
    have h2 := h x (by simp)
    rw [List.flatMap_cons, List.length_append, List.length_cons, Nat.add_mul, Nat.one_mul]
    omega
/-- the edges of routers below a number, and of one of them to networks below a number -/
def preA (f : Int → Int → Option Int) (i : Nat) : List Ed := (rng 1 i).flatMap fun r => (rng 0 64).filterMap (edgeA f r)
def preB (f : Int → Int → Option Int) (i : Nat) : List Ed := (rng 0 i).flatMap fun n => (rng 1 15).filterMap (edgeB f n)
theorem edges_pre (f : Int → Int → Option Int) : edgesC f = preA f 15 ++ preB f 64 := rfl
theorem preA_more (f : Int → Int → Option Int) (i : Nat) : preA f (i + 1) = preA f i ++ (rng 0 64).filterMap (edgeA f (1 + (i : Int))) := by
  unfold preA
  rw [rng_more 1 i, List.flatMap_append, List.flatMap_singleton]
theorem preB_more (f : Int → Int → Option Int) (i : Nat) : preB f (i + 1) = preB f i ++ (rng 1 15).filterMap (edgeB f (0 + (i : Int))) := by
  unfold preB
  rw [rng_more 0 i, List.flatMap_append, List.flatMap_singleton]
def optL {β : Type} : Option β → List β
  | none => []
  | some x => [x]
theorem fil_more {β : Type} (g : Int → Option β) (a : Int) (j : Nat) : (rng a (j + 1)).filterMap g = (rng a j).filterMap g ++ optL (g (a + (j : Int))) := by
  rw [rng_more, List.filterMap_append]
  cases h : g (a + (j : Int)) <;> simp [h, optL]
theorem fil_len {β : Type} (g : Int → Option β) (a : Int) (j : Nat) : ((rng a j).filterMap g).length ≤ j := Nat.le_trans (List.length_filterMap_le _ _) (by rw [rng_len]; exact Nat.le_refl _)
theorem preA_len (f : Int → Int → Option Int) (i : Nat) : (preA f i).length ≤ i * 64 := by
  have := flat_len (m := 64) (fun r => (rng 0 64).filterMap (edgeA f r)) (rng 1 i) (fun _ _ => fil_len _ _ _)
  rw [rng_len] at this
  exact this
theorem preB_len (f : Int → Int → Option Int) (i : Nat) : (preB f i).length ≤ i * 15 := by
  have := flat_len (m := 15) (fun n => (rng 1 15).filterMap (edgeB f n)) (rng 0 i) (fun _ _ => fil_len _ _ _)
  rw [rng_len] at this
  exact this
set_option maxHeartbeats 16000000 in
set_option maxRecDepth 100000 in
theorem refEdges_any (A : Option Addr) (cap : Nat) (l : List Lsa) (w : World) (hl : RowsAt 9 Lsa.cells w w.heap.size A l) (he : ∀ x ∈ l, RowsAt 4 Lnk.cells w w.heap.size x.ka x.links ∧ RowsAt 1 icell w w.heap.size x.ma x.members) (hlens : ∀ x ∈ l, x.links.length ≤ 1000 ∧ x.members.length ≤ 1000) (hm : l.length ≤ 2 ^ 16) (nn : Nat) (hnn : nn = l.length) :
    Calls Try.prog 22 #[.slice A nn cap] w fun r w' => (∃ v, r = .returned v ∧ OwnR 42 5 Ed.cells w' w.heap.size v (edgesV (l.map vX))) ∧ Below w.heap.size w w' := by
  have HCo := Lib.hid (refCounts_any A cap l w hl he hlens hm nn hnn)
  clear hl he hlens hnn
  go_enter Try.func22, Try.ntmps22
  go_wp2_with fail
  with_reducible refine Calls.mono HCo.out ?_
  rintro r w1 ⟨⟨v1, rfl, O, hx1, hO1⟩, hb1⟩
  obtain ⟨A1, c1, hv1⟩ := hx1.own.shape
  subst hv1
  have hOl : O.length ≤ 2 ^ 16 := by
    have h1 := congrArg List.length hO1
    have h2 := countsV_len (l.map vX)
    rw [List.length_map] at h1 h2
    omega
  have hcn : CntOk (O.map vX) := by rw [hO1]; exact countsV_ok _
  obtain ⟨f, hf⟩ : ∃ f, costC (O.map vX) = f := ⟨_, rfl⟩
  have hpos : ∀ r n c, f r n = some c → 1 ≤ c := fun r n c h => by rw [← hf] at h; exact (cand_bounds hcn (cost_is hcn h)).2.2.1
  have HPos := Lib.hid hpos
  have HC := Lib.hid (fun (r n : Int) W (hW : Below w1.heap.size w1 W) => refCost_any A1 c1 O r n W ((OwnR.rows (C := 9) (cells := Lsa.cells) (fun _ => rfl) (hx1.keep hW).own).2) (hx1.keep hW).rows hx1.lens hcn hOl O.length rfl)
  rw [hf] at HC
  have HE := Lib.hid (show edgesV (l.map vX) = preA f 15 ++ preB f 64 by unfold edgesV; rw [← hO1, hf, edges_pre])
  have Hb1 := Lib.hid hb1
  clear hx1 hO1 hcn hb1 hpos hf
  go_wp2
  go_loopw [4, 5] (fun v rr wr => ∃ i : Nat, rr = .int .i64 (1 + (i : Int)) ∧ i ≤ 15 ∧ OwnR 42 5 Ed.cells wr w1.heap.size v (preA f i) ∧ Below w1.heap.size w1 wr) (fun _ rr _ => 16 - (intOf rr).toNat)
  case atStart => exact ⟨0, rfl, by decide, OwnR.nil _ _, Below.refl _ _⟩
  case round =>
    obtain ⟨i, rfl, hi, hown, hb⟩ := hrel
    obtain ⟨A7, c7, hv7⟩ := hown.shape
    subst hv7
    have hpl := preA_len f i
    obtain ⟨P, hP⟩ : ∃ P, preA f i = P := ⟨_, rfl⟩
    rw [hP] at hown hpl ⊢
    have Hown := Lib.hid hown
    have Hb := Lib.hid hb
    by_cases hlt : i < 15
    · have h15 : 1 + (i : Int) ≤ 15 := by omega
      have Hmore := Lib.hid (show preA f (i + 1) = P ++ (rng 0 64).filterMap (edgeA f (1 + (i : Int))) by rw [preA_more, hP])
      have HPl := Lib.hid hpl
      clear hown hb hP
      go_wp2
      go_loopw [4, 6] (fun v n wr => ∃ j : Nat, n = .int .i64 (j : Int) ∧ j ≤ 64 ∧ OwnR 42 5 Ed.cells wr w1.heap.size v (P ++ (rng 0 j).filterMap (edgeA f (1 + (i : Int)))) ∧ Below w1.heap.size w1 wr) (fun _ n _ => 64 - (intOf n).toNat)
      case atStart => exact ⟨0, rfl, by decide, by simpa [rng] using Hown.out, Hb.out⟩
      case round =>
        obtain ⟨j, rfl, hj, hown, hb⟩ := hrel
        obtain ⟨A7, c7, hv7⟩ := hown.shape
        subst hv7
        have hql := fil_len (edgeA f (1 + (i : Int))) 0 j
        have hmj := fil_more (edgeA f (1 + (i : Int))) 0 j
        rw [Int.zero_add] at hmj
        have hll : (P ++ (rng 0 j).filterMap (edgeA f (1 + (i : Int)))).length ≤ 2000 := by rw [List.length_append]; have := HPl.out; omega
        obtain ⟨Q, hQ⟩ : ∃ Q, P ++ (rng 0 j).filterMap (edgeA f (1 + (i : Int))) = Q := ⟨_, rfl⟩
        have hmj2 : P ++ (rng 0 (j + 1)).filterMap (edgeA f (1 + (i : Int))) = Q ++ optL (edgeA f (1 + (i : Int)) (j : Int)) := by rw [hmj, ← hQ, List.append_assoc]
        rw [hQ] at hown hll ⊢
        have Hown2 := Lib.hid hown
        have Hb2 := Lib.hid hb
        have Hll := Lib.hid hll
        clear Hown Hb
        by_cases hlj : j < 64
        · have h64 : (j : Int) < 64 := by omega
          have HCa := Lib.hid (HC.out (1 + (i : Int)) (j : Int) _ hb)
          clear hown hb hQ hmj hql hll
          cases hfc : f (1 + (i : Int)) (j : Int) with
          | none =>
            have hed : edgeA f (1 + (i : Int)) (j : Int) = none := by unfold edgeA; rw [hfc]; rfl
            rw [hfc] at HCa
            rw [hed] at hmj2
            simp only [optL, List.append_nil] at hmj2
            have Hmj := Lib.hid hmj2
            clear hmj2 hfc hed
            go_wp2_with (go_at_call 46; (with_reducible refine Calls.mono HCa.out ?_); rintro r w3 ⟨rfl, hb3⟩; have HO3 := Lib.hid (Hown2.out.below hb3); have HB3 := Lib.hid (below_trans Hb2.out Hb2.out.size hb3); clear hb3; simp only [encO])
            go_roundw
            case measure => simp [intOf]; omega
            case rel => exact ⟨j + 1, by go_num, hlj, by rw [Hmj.out]; exact HO3.out, HB3.out⟩
          | some c =>
            have hed : edgeA f (1 + (i : Int)) (j : Int) = some ⟨1, 1 + (i : Int), 2, (j : Int), c⟩ := by unfold edgeA; rw [hfc]; rfl
            rw [hfc] at HCa
            rw [hed] at hmj2
            simp only [optL] at hmj2
            have hc1 := HPos.out _ _ _ hfc
            have Hmj := Lib.hid hmj2
            clear hmj2 hfc hed
            go_wp2_with (first
              | (go_at_call 46; (with_reducible refine Calls.mono HCa.out ?_); rintro r w3 ⟨rfl, hb3⟩; have HO3 := Lib.hid (Hown2.out.below hb3); have HB3 := Lib.hid (below_trans Hb2.out Hb2.out.size hb3); clear hb3; simp only [encO])
              | (at_builtin; (refine app_row (e := 42) Ed.cells (fun _ => rfl) (by decide) (bytes := 40) (by decide) infoE rfl Try.underlying32 onesE (by rfl) _ _ (by rfl) w1.heap.size _ Q (by rfl) (HO3.out.alloc _) w3.heap.size ⟨1, 1 + (i : Int), 2, (j : Int), c⟩ (by rfl) (Blk.new _ _ _) (by have := Hll.out; omega) (by have := HB3.out.size; simp; omega) ?_); intro v6 w6 hown6 hg6 hor6; have HO6 := Lib.hid hown6; have HB6 := Lib.hid (show Below w1.heap.size w1 w6 from (HB3.out.alloc HB3.out.size _).grown hg6 (by have := HB3.out.size; simp; omega) (fun m e => (HO3.out.block m e).1)); clear hown6 hg6 hor6))
            go_roundw
            case measure => simp [intOf]; omega
            case rel => exact ⟨j + 1, by go_num, hlj, by rw [Hmj.out]; exact HO6.out, HB6.out⟩
        · have hje : j = 64 := by omega
          subst hje
          rw [← Hmore.out] at hQ
          have HQ := Lib.hid hQ
          clear hown hb hQ hmj hmj2 hql hll HPl
          go_wp2
          go_roundw
          case measure => simp [intOf]; omega
          case rel => exact ⟨i + 1, by go_num, hlt, by rw [HQ.out]; exact Hown2.out, Hb2.out⟩
    · have hie : i = 15 := by omega
      subst hie
      rw [show (1 : Int) + ((15 : Nat) : Int) = 16 from by decide]
      have HPl := Lib.hid hpl
      have HP := Lib.hid hP
      clear hown hb hP hlt hi hpl
      go_wp2
      go_loopw [4, 8] (fun v rr wr => ∃ i : Nat, rr = .int .i64 (i : Int) ∧ i ≤ 64 ∧ OwnR 42 5 Ed.cells wr w1.heap.size v (P ++ preB f i) ∧ Below w1.heap.size w1 wr) (fun _ rr _ => 64 - (intOf rr).toNat)
      case atStart => exact ⟨0, rfl, by decide, by simpa [preB, rng] using Hown.out, Hb.out⟩
      case round =>
        obtain ⟨i, rfl, hi, hown, hb⟩ := hrel
        obtain ⟨A7, c7, hv7⟩ := hown.shape
        subst hv7
        have hpl := preB_len f i
        have hpl2 : (P ++ preB f i).length ≤ 2000 := by rw [List.length_append]; have := HPl.out; omega
        have hm2 := preB_more f i
        rw [Int.zero_add] at hm2
        obtain ⟨P2, hP2⟩ : ∃ P2, P ++ preB f i = P2 := ⟨_, rfl⟩
        have hm3 : P ++ preB f (i + 1) = P2 ++ (rng 1 15).filterMap (edgeB f (i : Int)) := by rw [hm2, ← hP2, List.append_assoc]
        rw [hP2] at hown hpl2 ⊢
        clear Hown Hb
        have Hown := Lib.hid hown
        have Hb := Lib.hid hb
        by_cases hlt : i < 64
        · have h64 : (i : Int) < 64 := by omega
          have Hmore := Lib.hid hm3
          have HPl2 := Lib.hid hpl2
          clear hown hb hP2 hm2 hm3 hpl hpl2
          go_wp2
          go_loopw [4, 9] (fun v n wr => ∃ j : Nat, n = .int .i64 (1 + (j : Int)) ∧ j ≤ 15 ∧ OwnR 42 5 Ed.cells wr w1.heap.size v (P2 ++ (rng 1 j).filterMap (edgeB f (i : Int))) ∧ Below w1.heap.size w1 wr) (fun _ n _ => 16 - (intOf n).toNat)
          case atStart => exact ⟨0, rfl, by decide, by simpa [rng] using Hown.out, Hb.out⟩
          case round =>
            obtain ⟨j, rfl, hj, hown, hb⟩ := hrel
            obtain ⟨A7, c7, hv7⟩ := hown.shape
            subst hv7
            have hql := fil_len (edgeB f (i : Int)) 1 j
            have hmj := fil_more (edgeB f (i : Int)) 1 j
            have hll : (P2 ++ (rng 1 j).filterMap (edgeB f (i : Int))).length ≤ 3000 := by rw [List.length_append]; have := HPl2.out; omega
            obtain ⟨Q, hQ⟩ : ∃ Q, P2 ++ (rng 1 j).filterMap (edgeB f (i : Int)) = Q := ⟨_, rfl⟩
            have hmj2 : P2 ++ (rng 1 (j + 1)).filterMap (edgeB f (i : Int)) = Q ++ optL (edgeB f (i : Int) (1 + (j : Int))) := by rw [hmj, ← hQ, List.append_assoc]
            rw [hQ] at hown hll ⊢
            have Hown2 := Lib.hid hown
            have Hb2 := Lib.hid hb
            have Hll := Lib.hid hll
            clear Hown Hb
            by_cases hlj : j < 15
            · have h15 : 1 + (j : Int) ≤ 15 := by omega
              have HCa := Lib.hid (HC.out (1 + (j : Int)) (i : Int) _ hb)
              clear hown hb hQ hmj hql hll
              cases hfc : f (1 + (j : Int)) (i : Int) with
              | none =>
                have hed : edgeB f (i : Int) (1 + (j : Int)) = none := by unfold edgeB; rw [hfc]; rfl
                rw [hfc] at HCa
                rw [hed] at hmj2
                simp only [optL, List.append_nil] at hmj2
                have Hmj := Lib.hid hmj2
                clear hmj2 hfc hed
                go_wp2_with (go_at_call 46; (with_reducible refine Calls.mono HCa.out ?_); rintro r w3 ⟨rfl, hb3⟩; have HO3 := Lib.hid (Hown2.out.below hb3); have HB3 := Lib.hid (below_trans Hb2.out Hb2.out.size hb3); clear hb3; simp only [encO])
                go_roundw
                case measure => simp [intOf]; omega
                case rel => exact ⟨j + 1, by go_num, hlj, by rw [Hmj.out]; exact HO3.out, HB3.out⟩
              | some c =>
                have hed : edgeB f (i : Int) (1 + (j : Int)) = some ⟨2, (i : Int), 1, 1 + (j : Int), 0⟩ := by unfold edgeB; rw [hfc]; rfl
                rw [hfc] at HCa
                rw [hed] at hmj2
                simp only [optL] at hmj2
                have hc1 := HPos.out _ _ _ hfc
                have Hmj := Lib.hid hmj2
                clear hmj2 hfc hed
                go_wp2_with (first
                  | (go_at_call 46; (with_reducible refine Calls.mono HCa.out ?_); rintro r w3 ⟨rfl, hb3⟩; have HO3 := Lib.hid (Hown2.out.below hb3); have HB3 := Lib.hid (below_trans Hb2.out Hb2.out.size hb3); clear hb3; simp only [encO])
                  | (at_builtin; (refine app_row (e := 42) Ed.cells (fun _ => rfl) (by decide) (bytes := 40) (by decide) infoE rfl Try.underlying32 onesE (by rfl) _ _ (by rfl) w1.heap.size _ Q (by rfl) (HO3.out.alloc _) w3.heap.size ⟨2, (i : Int), 1, 1 + (j : Int), 0⟩ (by rfl) (Blk.new _ _ _) (by have := Hll.out; omega) (by have := HB3.out.size; simp; omega) ?_); intro v6 w6 hown6 hg6 hor6; have HO6 := Lib.hid hown6; have HB6 := Lib.hid (show Below w1.heap.size w1 w6 from (HB3.out.alloc HB3.out.size _).grown hg6 (by have := HB3.out.size; simp; omega) (fun m e => (HO3.out.block m e).1)); clear hown6 hg6 hor6))
                go_roundw
                case measure => simp [intOf]; omega
                case rel => exact ⟨j + 1, by go_num, hlj, by rw [Hmj.out]; exact HO6.out, HB6.out⟩
            · have hje : j = 15 := by omega
              subst hje
              rw [← Hmore.out] at hQ
              have HQ := Lib.hid hQ
              clear hown hb hQ hmj hmj2 hql hll HPl2
              go_wp2
              go_roundw
              case measure => simp [intOf]; omega
              case rel => exact ⟨i + 1, by go_num, hlt, by rw [HQ.out]; exact Hown2.out, Hb2.out⟩
        · have hie : i = 64 := by omega
          subst hie
          have HP2 := Lib.hid hP2
          clear hown hb hP2 hlt hi hpl hpl2 hm2 hm3
          go_wp2
          go_ret
          refine ⟨⟨_, rfl, ?_⟩, below_trans Hb1.out Hb1.out.size Hb.out⟩
          rw [HE.out, HP.out, HP2.out]
          exact Hown.out.lower Hb1.out.size

end Go.Proofs.Ytpfjgecdlilkcaa
