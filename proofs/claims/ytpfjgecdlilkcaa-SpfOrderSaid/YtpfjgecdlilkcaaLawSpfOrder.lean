/-
  The law SpfOrder: its walk.
-/
import Derived.Test.YtpfjgecdlilkcaaSpWakes
import Derived.Test.YtpfjgecdlilkcaaSpSame
namespace Go.Proofs.Ytpfjgecdlilkcaa
open Go.RowKit

theorem tmod15' (a : Nat) : Int.tmod (a : Int) 15 = ((a % 15 : Nat) : Int) := by
  rw [Int.tmod_eq_emod_of_nonneg (by omega)]
  exact_mod_cast rfl
theorem NodesAt.below {w w' : World} {B : Nat} {v : Value} {N : List NodeM} (h : NodesAt w B v N) (hb : Below w.heap.size w w') : NodesAt w' B v N := ⟨h.row.below hb, fun x hx => (h.each x hx).below hb⟩
/-- what is appended to edges leaves nodes as they are -/
theorem NodesAt.edges {w w' : World} {B B' : Nat} {v v' : Value} {N : List NodeM} {L : List Ed} (h : NodesAt w B v N) (ho : OwnE w B' v' L) (hg : w.grownBy w' v'.ownBlock) : NodesAt w' B v N :=
  ⟨h.row.kept hg (own_two h.row ho (by decide)), fun x hx => (h.each x hx).kept hg (own_two (h.each x hx) ho (by decide))⟩
theorem NodesAt.ins {w : World} {B : Nat} {A : Option Addr} {n c : Nat} {N : List NodeM} (h : NodesAt w B (.slice A n c) N) (hl : ∀ x ∈ N, x.next.length ≤ 2 ^ 16) : NodesIn w w.heap.size A N := h.reads (Below.refl _ _) hl
/-- edges in another order, and one twice -/
def ownEd (E : List Ed) : List Ed := E.reverse ++ (E[0]?).toList
theorem mem_ownEd {E : List Ed} {e : Ed} : e ∈ ownEd E ↔ e ∈ E := by
  unfold ownEd
  rw [List.mem_append, List.mem_reverse]
  constructor
  · rintro (h | h)
    · exact h
    · cases hE : E[0]? with
      | none => rw [hE] at h; cases h
      | some x =>
        rw [hE] at h
        simp at h
        rw [h]
        exact List.mem_of_getElem? hE
  · exact .inl
set_option maxHeartbeats 16000000 in
set_option maxRecDepth 100000 in
theorem spfOrder_any (a : Nat) (ha : a ≤ 255) (A : Option Addr) (cap : Nat) (E : List Ed) (e1 e2 e3 e4 e5 : Int) (w : World) (hl : RowsAt 5 Ed.cells w w.heap.size A E) (hm : E.length ≤ maxLen) :
    Calls Try.prog 10 #[.int .u8 a, .slice A E.length cap, .agg #[.int .i64 e1, .int .i64 e2, .int .i64 e3, .int .i64 e4, .int .i64 e5]] w fun r w' => r = .returned (.bool true) ∧ Below w.heap.size w w' := by
  have HE := Lib.hid hl
  obtain ⟨DD, hD⟩ := dists_are E
  have HD := Lib.hid hD
  unfold maxLen at hm
  have hai : (a : Int) ≤ 255 := by omega
  have hrem := tmod15' a
  obtain ⟨kk, hkk⟩ : ∃ kk, a % 15 = kk := ⟨_, rfl⟩
  have hkk15 : kk < 15 := by rw [← hkk]; omega
  rw [hkk] at hrem
  obtain ⟨w0, hw0⟩ : ∃ w0, w.alloc (.cells #[.int .i64 e1, .int .i64 e2, .int .i64 e3, .int .i64 e4, .int .i64 e5] 42) = w0 := ⟨_, rfl⟩
  have hb0 := below_new w (.cells #[.int .i64 e1, .int .i64 e2, .int .i64 e3, .int .i64 e4, .int .i64 e5] 42)
  have hk0 := Blk.new w 42 #[.int .i64 e1, .int .i64 e2, .int .i64 e3, .int .i64 e4, .int .i64 e5]
  rw [hw0] at hb0 hk0
  have Hb0 := Lib.hid hb0
  have Hk0 := Lib.hid hk0
  clear hl hD hkk ha hb0 hk0
  go_enter Try.func10, Try.ntmps10
  go_wp2_with fail
  with_reducible refine Calls.mono (wakes21 _) ?_
  rintro r w1 ⟨rfl, hb1⟩
  have Hb1 := Lib.hid (below_trans Hb0.out Hb0.out.size hb1)
  have Hk1 := Lib.hid (Hk0.out.below hb1 Hk0.out.lt)
  clear hb1 hw0
  by_cases h100 : (100 : Int) < (E.length : Int)
  · go_wp2
    go_ret
    exact ⟨rfl, Hb1.out⟩
  · have hE100 : E.length ≤ 100 := by omega
    have HE100 := Lib.hid hE100
    have hEi : (E.length : Int) ≤ 100 := by omega
    have hki : (kk : Int) < 15 := by omega
    obtain ⟨id, hidd⟩ : ∃ i : Int, (1 : Int) + (kk : Int) = i := ⟨_, rfl⟩
    have hm0 : mayV ⟨1, id⟩ = true := mayV_iff.2 (.inl ⟨rfl, by simp only; omega, by simp only; omega⟩)
    have Hm0 := Lib.hid hm0
    clear hm0 hE100
    go_wp2
    go_loopw [8, 28] (fun v i wr => ∃ k : Nat, i = .int .i64 k ∧ k ≤ E.length ∧ OwnE wr w1.heap.size v (E.take k).reverse ∧ Below w1.heap.size w1 wr) (fun _ i _ => E.length - (intOf i).toNat)
    case atStart => exact ⟨0, rfl, Nat.zero_le _, OwnR.nil _ _, Below.refl _ _⟩
    case round =>
      obtain ⟨k, rfl, hk, hown, hb⟩ := hrel
      obtain ⟨A7, c7, hv7⟩ := hown.shape
      subst hv7
      obtain ⟨Q, hQ⟩ : ∃ Q, (E.take k).reverse = Q := ⟨_, rfl⟩
      have hQl : Q.length ≤ 100 := by rw [← hQ, List.length_reverse, List.length_take]; have := HE100.out; omega
      rw [hQ] at hown ⊢
      obtain ⟨nQ, hnQ⟩ : ∃ n, Q.length = n := ⟨_, rfl⟩
      rw [hnQ] at hown ⊢
      have Hown := Lib.hid hown
      have Hb := Lib.hid hb
      have HnQ := Lib.hid hnQ
      have HQl := Lib.hid hQl
      by_cases hlt : k < E.length
      · have hkl : (k : Int) < (E.length : Int) := by omega
        obtain ⟨g', o', hA', -, x0, x1, x2, x3, x4⟩ := row_ed ((HE.out.below (below_trans Hb1.out Hb1.out.size hb)).more (below_trans Hb1.out Hb1.out.size hb).size) k hlt
        have HA' := Lib.hid hA'
        rw [hA']
        have hmore : (E.take (k + 1)).reverse = [E[k]] ++ Q := by
          rw [List.take_succ_eq_append_getElem hlt, List.reverse_append, hQ]
          rfl
        have Hlt := Lib.hid hlt
        generalize E[k] = x at *
        obtain ⟨f1, f2, f3, f4, f5⟩ := x
        simp only at x0 x1 x2 x3 x4
        have Hmore := Lib.hid hmore
        have hb6 := below_new wr (.cells #[.int .i64 f1, .int .i64 f2, .int .i64 f3, .int .i64 f4, .int .i64 f5] 42)
        have hk6 := Blk.new wr 42 #[.int .i64 f1, .int .i64 f2, .int .i64 f3, .int .i64 f4, .int .i64 f5]
        obtain ⟨w6, hw6⟩ : ∃ w6, wr.alloc (.cells #[.int .i64 f1, .int .i64 f2, .int .i64 f3, .int .i64 f4, .int .i64 f5] 42) = w6 := ⟨_, rfl⟩
        rw [hw6] at hb6 hk6
        have Hb6 := Lib.hid (below_trans hb hb.size hb6)
        have Ho6 := Lib.hid (hown.below hb6)
        obtain ⟨z0, z1, z2, z3, z4, -⟩ := hk6.cells5
        have hb7 := below_new w6 (.cells #[.int .i64 f1, .int .i64 f2, .int .i64 f3, .int .i64 f4, .int .i64 f5] 42)
        have Hlit := Lib.hid (OwnR.lit (e := 42) (C := 5) (cells := Ed.cells) (fun _ => rfl) (B := w1.heap.size) (L := [⟨f1, f2, f3, f4, f5⟩]) (n := 1) (Blk.new w6 42 #[.int .i64 f1, .int .i64 f2, .int .i64 f3, .int .i64 f4, .int .i64 f5]) (by have := Hb6.out.size; exact this) rfl (by decide) (by unfold maxLen; omega))
        have Hr7 := Lib.hid (OwnR.rows (C := 5) (cells := Ed.cells) (fun _ => rfl) (Ho6.out.below hb7)).2
        have Hb7 := Lib.hid (below_trans Hb6.out Hb6.out.size hb7)
        clear hown hb hQ hQl hnQ hlt hk hmore hb6 hk6 hb7 hA'
        go_wp2_with (at_builtin; (refine app_rows (e := 42) Ed.cells (fun _ => rfl) (by decide) (bytes := 40) (by decide) infoE rfl Try.underlying32 onesE (by rfl) _ _ (by rfl) w1.heap.size _ [⟨f1, f2, f3, f4, f5⟩] (by rfl) Hlit.out A7 c7 nQ Q HnQ.out.symm (by rfl) Hr7.out (by have := HQl.out; simp; omega) Hb7.out.size ?_); intro v9 w9 hown9 hg9 hor9; have HO9 := Lib.hid hown9; have HB9 := Lib.hid (Hb7.out.grown hg9 Hb7.out.size (fun m e => (Hlit.out.block m e).1)); clear hown9 hg9 hor9)
        go_roundw
        case measure => have := Hlt.out; simp [intOf]; omega
        case rel => exact ⟨k + 1, by go_num, Hlt.out, by rw [Hmore.out]; exact HO9.out, HB9.out⟩
      · have hke : k = E.length := by omega
        subst hke
        have hkk2 : ¬ (E.length : Int) < (E.length : Int) := by omega
        rw [List.take_length] at hQ
        have HQ := Lib.hid hQ
        clear hown hb hQ hQl hnQ hlt hk
        obtain ⟨DD2, hD2⟩ := dists_are (ownEd E)
        obtain ⟨DD3, hD3⟩ := dists_are (ownEd E ++ [⟨e1, e2, e3, e4, e5⟩])
        have HD2 := Lib.hid hD2
        have HD3 := Lib.hid hD3
        have hol : (ownEd E).length ≤ 101 := by
          unfold ownEd
          rw [List.length_append, List.length_reverse]
          have h1 : (E[0]?).toList.length ≤ 1 := by cases E[0]? <;> simp
          have := HE100.out
          omega
        have Hol := Lib.hid hol
        have hway : (E.length = 0 ∧ ownEd E = Q) ∨ (∃ h : 0 < E.length, ownEd E = Q ++ [E[0]'h]) := by
          rcases Nat.eq_zero_or_pos E.length with h | h
          · left
            refine ⟨h, ?_⟩
            have hE0 : E = [] := List.eq_nil_of_length_eq_zero h
            rw [← HQ.out, hE0]
            rfl
          · right
            refine ⟨h, ?_⟩
            unfold ownEd
            rw [HQ.out, List.getElem?_eq_getElem h]
            rfl
        have HT1 := Lib.hid (fun W (hW : Below w1.heap.size w1 W) => Tree_any id A cap E W ((HE.out.below (below_trans Hb1.out Hb1.out.size hW)).more (below_trans Hb1.out Hb1.out.size hW).size) (by have := HE100.out; omega) E.length rfl DD HD.out)
        have HT2 := Lib.hid (fun (A8 : Option Addr) (n8 c8 : Nat) W (hO : OwnE W w1.heap.size (.slice A8 n8 c8) (ownEd E)) => Tree_any id A8 c8 (ownEd E) W (OwnR.rows (C := 5) (cells := Ed.cells) (fun _ => rfl) hO).2 (by have := Hol.out; omega) n8 (OwnR.rows (C := 5) (cells := Ed.cells) (fun _ => rfl) hO).1 DD2 HD2.out)
        have HT3 := Lib.hid (fun (A8 : Option Addr) (n8 c8 : Nat) W (hO : OwnE W w1.heap.size (.slice A8 n8 c8) (ownEd E ++ [⟨e1, e2, e3, e4, e5⟩])) => Tree_any id A8 c8 (ownEd E ++ [⟨e1, e2, e3, e4, e5⟩]) W (OwnR.rows (C := 5) (cells := Ed.cells) (fun _ => rfl) hO).2 (by rw [List.length_append, List.length_singleton]; have := Hol.out; omega) n8 (OwnR.rows (C := 5) (cells := Ed.cells) (fun _ => rfl) hO).1 DD3 HD3.out)
        clear hD2 hD3 hol
        have hrest : ∀ (A8 : Option Addr) (n8 c8 : Nat) (w5 : World), True := fun _ _ _ _ => trivial
        clear hrest
        rcases hway with ⟨hz, hoe⟩ | ⟨hz, hoe⟩
        · have hz0 : ¬ (0 : Int) < (E.length : Int) := by omega
          have Ho := Lib.hid (show OwnE wr w1.heap.size (.slice A7 nQ c7) (ownEd E) by rw [hoe]; exact Hown.out)
          clear hz hoe Hown
          go_wp2_with fail
          with_reducible refine Calls.mono (HT1.out _ Hb.out) ?_
          rintro r w6 ⟨⟨v, N, rfl, hN, hTr⟩, hb6⟩
          obtain ⟨A11, c11, hv⟩ := hN.row.shape
          subst hv
          have hTt := hTr.1 Hm0.out
          have HTt := Lib.hid hTt
          have HNl := Lib.hid (treeOf_len HD.out hTr)
          have Hlow := Lib.hid (treeOf_low rfl hTr)
          obtain ⟨nN, hnN⟩ : ∃ n, N.length = n := ⟨_, rfl⟩
          rw [hnN] at hN ⊢
          have HN := Lib.hid hN
          have HnN := Lib.hid hnN
          have Hb6 := Lib.hid (below_trans Hb.out (Hb.out).size hb6)
          have Ho6 := Lib.hid ((Ho.out).below hb6)
          have hnN2 : (nN : Int) ≤ 79 := by have := HNl.out; omega
          clear hN hTr hTt hnN hb6
          go_wp2_with fail
          with_reducible refine Calls.mono (HT2.out _ _ _ _ Ho6.out) ?_
          rintro r w7 ⟨⟨v, M, rfl, hM, hTr⟩, hb7⟩
          obtain ⟨A12, c12, hv⟩ := hM.row.shape
          subst hv
          have hTt := hTr.1 Hm0.out
          have hNM : N.map NodeM.nk = M.map NodeM.nk := tree_unique HD.out HD2.out HTt.out hTt (fun e _ => mem_ownEd.symm)
          have Hb7 := Lib.hid (below_trans Hb6.out Hb6.out.size hb7)
          have Ho7 := Lib.hid (Ho6.out.below hb7)
          have HN7 := Lib.hid (HN.out.below hb7)
          have HS := Lib.hid (refSame21 A11 A12 c11 c12 nN M.length N M w7 ((HN.out.below hb7).ins Hlow.out) (hM.ins (treeOf_low rfl hTr)) hNM (by have := HNl.out; omega) HnN.out.symm rfl)
          clear hM hTr hTt hNM hb7
          go_wp2_with fail
          with_reducible refine Calls.mono HS.out ?_
          rintro r w8 ⟨rfl, hb8⟩
          have Hb8 := Lib.hid (below_trans Hb7.out Hb7.out.size hb8)
          have Ho8 := Lib.hid (Ho7.out.below hb8)
          have HN8 := Lib.hid (HN7.out.below hb8)
          have hk8 := Hk1.out.below Hb8.out Hk1.out.lt
          obtain ⟨z0, z1, z2, z3, z4, -⟩ := hk8.cells5
          clear hb8 hk8 HS
          go_wp2_with (at_builtin; (refine app_row (e := 42) Ed.cells (fun _ => rfl) (by decide) (bytes := 40) (by decide) infoE rfl Try.underlying32 onesE (by rfl) _ _ (by rfl) w1.heap.size _ (ownEd E) (by rfl) (Ho8.out.alloc _) w8.heap.size ⟨e1, e2, e3, e4, e5⟩ (by rfl) (Blk.new _ _ _) (by have := Hol.out; omega) (by have := Hb8.out.size; simp; omega) ?_); intro v10 w10 hown10 hg10 hor10; obtain ⟨A10, c10, hv10⟩ := hown10.shape; subst hv10; rw [List.length_append, List.length_singleton] at hown10; have HO10 := Lib.hid hown10; have HB10 := Lib.hid ((Hb8.out.alloc Hb8.out.size _).grown hg10 (by have := Hb8.out.size; simp; omega) (fun m e => (Ho8.out.block m e).1)); have HN10 := Lib.hid ((HN8.out.below (below_new _ _)).edges (Ho8.out.alloc _) hg10); clear hown10 hg10 hor10)
          clear z0 z1 z2 z3 z4
          with_reducible refine Calls.mono (HT3.out _ _ _ _ HO10.out) ?_
          rintro r w11 ⟨⟨v, K, rfl, hK, hTr⟩, hb11⟩
          obtain ⟨A13, c13, hv⟩ := hK.row.shape
          subst hv
          have HTk := Lib.hid (hTr.1 Hm0.out)
          have HKl := Lib.hid (treeOf_len HD3.out hTr)
          have HKlow := Lib.hid (treeOf_low rfl hTr)
          obtain ⟨nK, hnK⟩ : ∃ n, K.length = n := ⟨_, rfl⟩
          rw [hnK] at hK ⊢
          have HK := Lib.hid hK
          have HnK := Lib.hid hnK
          have Hb11 := Lib.hid (below_trans HB10.out HB10.out.size hb11)
          have HN11 := Lib.hid (HN10.out.below hb11)
          clear hK hTr hnK hb11
          go_wp2
          go_loopw [63] (fun i wr => ∃ k : Nat, i = .int .i64 k ∧ k ≤ nN ∧ Below w11.heap.size w11 wr) (fun i _ => nN - (intOf i).toNat)
          case atStart => exact ⟨0, rfl, Nat.zero_le _, Below.refl _ _⟩
          case round =>
            obtain ⟨k, rfl, hk, hb⟩ := hrel
            by_cases hlt : k < nN
            · have hki2 : (k : Int) < (nN : Int) := by omega
              have hkL : k < N.length := by rw [HnN.out]; exact hlt
              have hNr := HN11.out.reads hb Hlow.out
              obtain ⟨g, o, hA, -, x0, x1, x2, x3, x4⟩ := row_nd hNr.rows k hkL
              have hxt : (N[k]).nk ∈ N.map NodeM.nk := List.mem_map.2 ⟨_, List.getElem_mem hkL, rfl⟩
              have hval := HTt.out.val _ hxt
              have HA := Lib.hid hA
              rw [hA]
              generalize N[k] = x at *
              obtain ⟨⟨vk, vi⟩, ⟨xa, xh⟩, xA, xc, xn⟩ := x
              unfold NodeM.nk at hval
              simp only at x0 x1 x2 x3 x4 hval
              obtain ⟨nl, hnl⟩ : ∃ n, xn.length = n := ⟨_, rfl⟩
              rw [hnl] at x4
              obtain ⟨b, hb3, hle⟩ := (HD.out ⟨1, id⟩).le (HD3.out ⟨1, id⟩) (fun e he _ => List.mem_append_left _ (mem_ownEd.2 he)) _ _ hval
              obtain ⟨y, hfy, -, -, hya⟩ := find_has HTk.out hb3
              have hb6 := below_new wr (.cells #[.int .i64 vk, .int .i64 vi, .int .i64 xa, .int .i64 xh, .slice xA nl xc] 59)
              have hk6 := Blk.new wr 59 #[.int .i64 vk, .int .i64 vi, .int .i64 xa, .int .i64 xh, .slice xA nl xc]
              obtain ⟨w12, hw12⟩ : ∃ w12, wr.alloc (.cells #[.int .i64 vk, .int .i64 vi, .int .i64 xa, .int .i64 xh, .slice xA nl xc] 59) = w12 := ⟨_, rfl⟩
              rw [hw12] at hb6 hk6
              have Hb12 := Lib.hid (below_trans hb hb.size hb6)
              have Hk12 := Lib.hid hk6
              have HFi := Lib.hid (Find_any vk vi A13 c13 nK K w12 (HK.out.reads (below_trans hb hb.size hb6) HKlow.out) (by have := HKl.out; omega) HnK.out.symm)
              have Hfy := Lib.hid hfy
              have hcle : y.a.c ≤ xa := by rw [hya]; unfold leV at hle; simp only at hle; omega
              have Hlt := Lib.hid hlt
              obtain ⟨⟨z0, z1, z2, z3, z4⟩, -⟩ := blk5 hk6
              clear hNr hxt hval hA hnl hle hya hb3 hfy hb6 hk6 hlt hkL hb hk
              go_wp2_with fail
              clear x0 x1 x2 x3 x4 z0 z1 z2 z3 z4 hw12
              with_reducible refine Calls.mono HFi.out ?_
              rintro r w13 ⟨hfo, hb13⟩
              rcases hfo with ⟨x, A14, c14, hx, rfl, -⟩ | ⟨hx, -⟩
              rotate_left
              · rw [Hfy.out] at hx; cases hx
              rw [Hfy.out] at hx
              injection hx with hx
              subst hx
              obtain ⟨⟨q1, q2⟩, ⟨q3, q4⟩, qn⟩ := y
              obtain ⟨nq, hnq⟩ : ∃ n, qn.length = n := ⟨_, rfl⟩
              simp only at hcle ⊢
              rw [hnq]
              have Hb13 := Lib.hid (below_trans Hb12.out Hb12.out.size hb13)
              have Hk13 := Lib.hid (Hk12.out.below hb13 Hk12.out.lt)
              have hk14 := Hk13.out.below (below_new w13 (.cells #[.int .i64 q1, .int .i64 q2, .int .i64 q3, .int .i64 q4, .slice A14 nq c14] 59)) Hk13.out.lt
              obtain ⟨⟨z0, z1, z2, z3, z4⟩, -⟩ := blk5 hk14
              have hcle2 : ¬ ((xa : Int) < (q3 : Int)) := by omega
              have hcle3 : decide ((xa : Int) < (q3 : Int)) = false := by simp; omega
              have hcle4 : decide (xa < q3) = false := by simp; omega
              clear hb13 hnq hk14 hcle
              go_wp2
              go_roundw
              case measure => have := Hlt.out; simp [intOf]; omega
              case rel => exact ⟨k + 1, by go_num, Hlt.out, below_trans Hb13.out Hb13.out.size (below_new _ _)⟩
            · have hke : k = nN := by omega
              subst hke
              have hkk3 : ¬ (k : Int) < (k : Int) := by omega
              have Hbe := Lib.hid (below_trans Hb1.out Hb1.out.size (below_trans Hb11.out Hb11.out.size hb))
              clear hlt hb hk
              go_wp2
              go_ret
              exact ⟨rfl, Hbe.out⟩
        · have hz0 : (0 : Int) < (E.length : Int) := by omega
          obtain ⟨g', o', hA', -, x0, x1, x2, x3, x4⟩ := row_ed ((HE.out.below (below_trans Hb1.out Hb1.out.size Hb.out)).more (below_trans Hb1.out Hb1.out.size Hb.out).size) 0 hz
          obtain ⟨⟨f1, f2, f3, f4, f5⟩, hf⟩ : ∃ x, E[0]'hz = x := ⟨_, rfl⟩
          rw [hf] at x0 x1 x2 x3 x4 hoe
          subst hA'
          simp only [Nat.zero_mul, Nat.add_zero] at x0 x1 x2 x3 x4
          have Hoe := Lib.hid hoe
          clear hf hoe
          go_wp2_with (at_builtin; (refine app_row (e := 42) Ed.cells (fun _ => rfl) (by decide) (bytes := 40) (by decide) infoE rfl Try.underlying32 onesE (by rfl) _ _ (by rfl) w1.heap.size _ Q (by rfl) (Hown.out.alloc _) wr.heap.size ⟨f1, f2, f3, f4, f5⟩ (by rfl) (Blk.new _ _ _) (by have := HQl.out; omega) (by have := Hb.out.size; simp; omega) ?_); intro v9 w9 hown9 hg9 hor9; obtain ⟨A9, c9, hv9⟩ := hown9.shape; subst hv9; rw [List.length_append, List.length_singleton] at hown9; have HO9 := Lib.hid (show OwnE w9 w1.heap.size (.slice A9 (Q.length + 1) c9) (ownEd E) by rw [Hoe.out]; exact hown9); have HB9 := Lib.hid ((Hb.out.alloc Hb.out.size _).grown hg9 (by have := Hb.out.size; simp; omega) (fun m e => (Hown.out.block m e).1)); clear hown9 hg9 hor9)
          with_reducible refine Calls.mono (HT1.out _ HB9.out) ?_
          rintro r w6 ⟨⟨v, N, rfl, hN, hTr⟩, hb6⟩
          obtain ⟨A11, c11, hv⟩ := hN.row.shape
          subst hv
          have hTt := hTr.1 Hm0.out
          have HTt := Lib.hid hTt
          have HNl := Lib.hid (treeOf_len HD.out hTr)
          have Hlow := Lib.hid (treeOf_low rfl hTr)
          obtain ⟨nN, hnN⟩ : ∃ n, N.length = n := ⟨_, rfl⟩
          rw [hnN] at hN ⊢
          have HN := Lib.hid hN
          have HnN := Lib.hid hnN
          have Hb6 := Lib.hid (below_trans HB9.out (HB9.out).size hb6)
          have Ho6 := Lib.hid ((HO9.out).below hb6)
          have hnN2 : (nN : Int) ≤ 79 := by have := HNl.out; omega
          clear hN hTr hTt hnN hb6
          go_wp2_with fail
          with_reducible refine Calls.mono (HT2.out _ _ _ _ Ho6.out) ?_
          rintro r w7 ⟨⟨v, M, rfl, hM, hTr⟩, hb7⟩
          obtain ⟨A12, c12, hv⟩ := hM.row.shape
          subst hv
          have hTt := hTr.1 Hm0.out
          have hNM : N.map NodeM.nk = M.map NodeM.nk := tree_unique HD.out HD2.out HTt.out hTt (fun e _ => mem_ownEd.symm)
          have Hb7 := Lib.hid (below_trans Hb6.out Hb6.out.size hb7)
          have Ho7 := Lib.hid (Ho6.out.below hb7)
          have HN7 := Lib.hid (HN.out.below hb7)
          have HS := Lib.hid (refSame21 A11 A12 c11 c12 nN M.length N M w7 ((HN.out.below hb7).ins Hlow.out) (hM.ins (treeOf_low rfl hTr)) hNM (by have := HNl.out; omega) HnN.out.symm rfl)
          clear hM hTr hTt hNM hb7
          go_wp2_with fail
          with_reducible refine Calls.mono HS.out ?_
          rintro r w8 ⟨rfl, hb8⟩
          have Hb8 := Lib.hid (below_trans Hb7.out Hb7.out.size hb8)
          have Ho8 := Lib.hid (Ho7.out.below hb8)
          have HN8 := Lib.hid (HN7.out.below hb8)
          have hk8 := Hk1.out.below Hb8.out Hk1.out.lt
          obtain ⟨z0, z1, z2, z3, z4, -⟩ := hk8.cells5
          clear hb8 hk8 HS
          go_wp2_with (at_builtin; (refine app_row (e := 42) Ed.cells (fun _ => rfl) (by decide) (bytes := 40) (by decide) infoE rfl Try.underlying32 onesE (by rfl) _ _ (by rfl) w1.heap.size _ (ownEd E) (by rfl) (Ho8.out.alloc _) w8.heap.size ⟨e1, e2, e3, e4, e5⟩ (by rfl) (Blk.new _ _ _) (by have := Hol.out; omega) (by have := Hb8.out.size; simp; omega) ?_); intro v10 w10 hown10 hg10 hor10; obtain ⟨A10, c10, hv10⟩ := hown10.shape; subst hv10; rw [List.length_append, List.length_singleton] at hown10; have HO10 := Lib.hid hown10; have HB10 := Lib.hid ((Hb8.out.alloc Hb8.out.size _).grown hg10 (by have := Hb8.out.size; simp; omega) (fun m e => (Ho8.out.block m e).1)); have HN10 := Lib.hid ((HN8.out.below (below_new _ _)).edges (Ho8.out.alloc _) hg10); clear hown10 hg10 hor10)
          clear z0 z1 z2 z3 z4
          with_reducible refine Calls.mono (HT3.out _ _ _ _ HO10.out) ?_
          rintro r w11 ⟨⟨v, K, rfl, hK, hTr⟩, hb11⟩
          obtain ⟨A13, c13, hv⟩ := hK.row.shape
          subst hv
          have HTk := Lib.hid (hTr.1 Hm0.out)
          have HKl := Lib.hid (treeOf_len HD3.out hTr)
          have HKlow := Lib.hid (treeOf_low rfl hTr)
          obtain ⟨nK, hnK⟩ : ∃ n, K.length = n := ⟨_, rfl⟩
          rw [hnK] at hK ⊢
          have HK := Lib.hid hK
          have HnK := Lib.hid hnK
          have Hb11 := Lib.hid (below_trans HB10.out HB10.out.size hb11)
          have HN11 := Lib.hid (HN10.out.below hb11)
          clear hK hTr hnK hb11
          go_wp2
          go_loopw [63] (fun i wr => ∃ k : Nat, i = .int .i64 k ∧ k ≤ nN ∧ Below w11.heap.size w11 wr) (fun i _ => nN - (intOf i).toNat)
          case atStart => exact ⟨0, rfl, Nat.zero_le _, Below.refl _ _⟩
          case round =>
            obtain ⟨k, rfl, hk, hb⟩ := hrel
            by_cases hlt : k < nN
            · have hki2 : (k : Int) < (nN : Int) := by omega
              have hkL : k < N.length := by rw [HnN.out]; exact hlt
              have hNr := HN11.out.reads hb Hlow.out
              obtain ⟨g, o, hA, -, x0, x1, x2, x3, x4⟩ := row_nd hNr.rows k hkL
              have hxt : (N[k]).nk ∈ N.map NodeM.nk := List.mem_map.2 ⟨_, List.getElem_mem hkL, rfl⟩
              have hval := HTt.out.val _ hxt
              have HA := Lib.hid hA
              rw [hA]
              generalize N[k] = x at *
              obtain ⟨⟨vk, vi⟩, ⟨xa, xh⟩, xA, xc, xn⟩ := x
              unfold NodeM.nk at hval
              simp only at x0 x1 x2 x3 x4 hval
              obtain ⟨nl, hnl⟩ : ∃ n, xn.length = n := ⟨_, rfl⟩
              rw [hnl] at x4
              obtain ⟨b, hb3, hle⟩ := (HD.out ⟨1, id⟩).le (HD3.out ⟨1, id⟩) (fun e he _ => List.mem_append_left _ (mem_ownEd.2 he)) _ _ hval
              obtain ⟨y, hfy, -, -, hya⟩ := find_has HTk.out hb3
              have hb6 := below_new wr (.cells #[.int .i64 vk, .int .i64 vi, .int .i64 xa, .int .i64 xh, .slice xA nl xc] 59)
              have hk6 := Blk.new wr 59 #[.int .i64 vk, .int .i64 vi, .int .i64 xa, .int .i64 xh, .slice xA nl xc]
              obtain ⟨w12, hw12⟩ : ∃ w12, wr.alloc (.cells #[.int .i64 vk, .int .i64 vi, .int .i64 xa, .int .i64 xh, .slice xA nl xc] 59) = w12 := ⟨_, rfl⟩
              rw [hw12] at hb6 hk6
              have Hb12 := Lib.hid (below_trans hb hb.size hb6)
              have Hk12 := Lib.hid hk6
              have HFi := Lib.hid (Find_any vk vi A13 c13 nK K w12 (HK.out.reads (below_trans hb hb.size hb6) HKlow.out) (by have := HKl.out; omega) HnK.out.symm)
              have Hfy := Lib.hid hfy
              have hcle : y.a.c ≤ xa := by rw [hya]; unfold leV at hle; simp only at hle; omega
              have Hlt := Lib.hid hlt
              obtain ⟨⟨z0, z1, z2, z3, z4⟩, -⟩ := blk5 hk6
              clear hNr hxt hval hA hnl hle hya hb3 hfy hb6 hk6 hlt hkL hb hk
              go_wp2_with fail
              clear x0 x1 x2 x3 x4 z0 z1 z2 z3 z4 hw12
              with_reducible refine Calls.mono HFi.out ?_
              rintro r w13 ⟨hfo, hb13⟩
              rcases hfo with ⟨x, A14, c14, hx, rfl, -⟩ | ⟨hx, -⟩
              rotate_left
              · rw [Hfy.out] at hx; cases hx
              rw [Hfy.out] at hx
              injection hx with hx
              subst hx
              obtain ⟨⟨q1, q2⟩, ⟨q3, q4⟩, qn⟩ := y
              obtain ⟨nq, hnq⟩ : ∃ n, qn.length = n := ⟨_, rfl⟩
              simp only at hcle ⊢
              rw [hnq]
              have Hb13 := Lib.hid (below_trans Hb12.out Hb12.out.size hb13)
              have Hk13 := Lib.hid (Hk12.out.below hb13 Hk12.out.lt)
              have hk14 := Hk13.out.below (below_new w13 (.cells #[.int .i64 q1, .int .i64 q2, .int .i64 q3, .int .i64 q4, .slice A14 nq c14] 59)) Hk13.out.lt
              obtain ⟨⟨z0, z1, z2, z3, z4⟩, -⟩ := blk5 hk14
              have hcle2 : ¬ ((xa : Int) < (q3 : Int)) := by omega
              have hcle3 : decide ((xa : Int) < (q3 : Int)) = false := by simp; omega
              have hcle4 : decide (xa < q3) = false := by simp; omega
              clear hb13 hnq hk14 hcle
              go_wp2
              go_roundw
              case measure => have := Hlt.out; simp [intOf]; omega
              case rel => exact ⟨k + 1, by go_num, Hlt.out, below_trans Hb13.out Hb13.out.size (below_new _ _)⟩
            · have hke : k = nN := by omega
              subst hke
              have hkk3 : ¬ (k : Int) < (k : Int) := by omega
              have Hbe := Lib.hid (below_trans Hb1.out Hb1.out.size (below_trans Hb11.out Hb11.out.size hb))
              clear hlt hb hk
              go_wp2
              go_ret
              exact ⟨rfl, Hbe.out⟩

end Go.Proofs.Ytpfjgecdlilkcaa
