/-
  Layer 21: the first hops by an edge: the program's way.
-/
import Derived.Test.YtpfjgecdlilkcaaSpFnd
import Derived.Test.YtpfjgecdlilkcaaHpJoin
namespace Go.Proofs.Ytpfjgecdlilkcaa
open Go.RowKit

theorem shr16 (x : Int) : x >>> (4 : Nat) = x / 16 := by rw [Int.shiftRight_eq_div_pow]; rfl
theorem ext_len (r : Vx) (e : Ed) (L : List Hp) : (extH r e L).length ≤ L.length + 1 := by
  unfold extH
  split <;> simp
theorem zeroPl (w : World) : (zeroValue 104).run Try.prog w = .ok (.pointer none) w := by kernel_rfl
def hopF (i : Int) (h : Hp) : Hp := if h.id = 0 then ⟨h.lan, i⟩ else h
theorem blk3 {w : World} {g : Nat} {t : TypeId} {a b c : Value} (h : Blk w g t #[a, b, c]) : w.cell? ⟨g, 0, none⟩ = some a ∧ w.cell? ⟨g, 1, none⟩ = some b ∧ w.cell? ⟨g, 2, none⟩ = some c := ⟨h.cell 0, h.cell 1, h.cell 2⟩
set_option maxHeartbeats 8000000 in
set_option maxRecDepth 100000 in
theorem hops_any (e1 e2 e3 e4 e5 ri : Int) (ps be bf : Nat) (F : Fnd) (B : Nat) (w : World) (hk : Blk w ps 102 #[.int .i64 1, .int .i64 ri, .map (some be), .map (some bf)]) (hF : FndAt w B bf F) (L : List Hp)
    (hx : (⟨e1, e2⟩ : Vx) ≠ ⟨1, ri⟩ → ∃ x, getF ⟨e1, e2⟩ F = some x ∧ x.pl.next = L) (hl : L.length ≤ 2 ^ 17) :
    Calls Try.prog 75 #[.pointer (some ⟨ps, 0, none⟩), .agg #[.int .i64 e1, .int .i64 e2, .int .i64 e3, .int .i64 e4, .int .i64 e5]] w fun r w' => (∃ v, r = .returned v ∧ OwnH w' w.heap.size v (extH ⟨1, ri⟩ ⟨e1, e2, e3, e4, e5⟩ L)) ∧ Below w.heap.size w w' := by
  have hb0 := below_new w (.cells #[.int .i64 e1, .int .i64 e2, .int .i64 e3, .int .i64 e4, .int .i64 e5] 42)
  have hk0 := Blk.new w 42 #[.int .i64 e1, .int .i64 e2, .int .i64 e3, .int .i64 e4, .int .i64 e5]
  obtain ⟨w0, hw0⟩ : ∃ w0, w.alloc (.cells #[.int .i64 e1, .int .i64 e2, .int .i64 e3, .int .i64 e4, .int .i64 e5] 42) = w0 := ⟨_, rfl⟩
  rw [hw0] at hb0 hk0
  have hks := hk.below hb0 hk.lt
  have hF0 := hF.below hb0
  obtain ⟨s0, s1, s2, s3, -⟩ := hks.cells4
  obtain ⟨a0, a1, a2, a3, a4, -⟩ := hk0.cells5
  have Hb0 := Lib.hid hb0
  have HK0 := Lib.hid hk0
  have HF0 := Lib.hid hF0
  have Hl := Lib.hid hl
  have hsh := shr16 e4
  by_cases he : (⟨e1, e2⟩ : Vx) = ⟨1, ri⟩
  · have heq := fun w => eqVxN e1 e2 1 ri w
    rw [decide_eq_true he] at heq
    have He := Lib.hid (show extH ⟨1, ri⟩ ⟨e1, e2, e3, e4, e5⟩ L = [⟨e4 / 16, 0⟩] by unfold extH; rw [if_pos (show (⟨e1, e2, e3, e4, e5⟩ : Ed).src = ⟨1, ri⟩ from he)])
    clear hk hF hx hl hb0 hk0 hks hF0 he
    go_enter Try.func75, Try.ntmps75
    go_wp2
    go_quiet (fail)
    go_wp2
    go_ret
    refine ⟨⟨_, rfl, ?_⟩, ?_⟩
    · rw [He.out]
      exact OwnR.lit (cells := Hp.cells) (C := 2) (fun _ => rfl) (L := [⟨e4 / 16, 0⟩]) (Blk.new _ _ _) (by have := Hb0.out.size; simpa using this) rfl (by decide) (by unfold maxLen; omega)
    · exact below_trans (below_drewN Hb0.out _) (below_drewN Hb0.out _).size (below_new _ _)
  · obtain ⟨x, hgx, hxL⟩ := hx he
    have heq := fun w => eqVxN e1 e2 1 ri w
    rw [decide_eq_false he] at heq
    have He := Lib.hid (show extH ⟨1, ri⟩ ⟨e1, e2, e3, e4, e5⟩ L = L.map (hopF e4) by unfold extH; rw [if_neg (show ¬ (⟨e1, e2, e3, e4, e5⟩ : Ed).src = ⟨1, ri⟩ from he)]; rfl)
    obtain ⟨hpb, -, hpo⟩ := hF0.get hgx
    obtain ⟨p, A, c, ⟨pa, pn⟩, pd⟩ := x
    simp only at hxL
    subst hxL
    unfold PlW.cells at hpb
    unfold PlW.nv at hpo
    simp only at hpb hpo
    obtain ⟨nL, hnL⟩ : ∃ nL, pn.length = nL := ⟨_, rfl⟩
    rw [hnL] at hpb
    obtain ⟨b0, b1, b2⟩ := blk3 hpb
    have hlk := fun n => (hF0.map.drewN n).look_run keyVx Try.underlying100 (zeroPl _) ⟨e1, e2⟩ false
    have hgv : getL (⟨e1, e2⟩ : Vx) (valsF F) = some (.pointer (some ⟨p, 0, none⟩)) := by rw [getL_vals, hgx]; rfl
    rw [hgv] at hlk
    simp only [Bool.false_eq_true, if_false, Vx.enc, Option.getD] at hlk
    have HR := Lib.hid (OwnR.rows (C := 2) (cells := Hp.cells) (fun _ => rfl) hpo).2
    have HnL := Lib.hid hnL
    clear hk hF hx hl hb0 hk0 hks hF0 he hgx hpb hpo hgv hnL
    go_enter Try.func75, Try.ntmps75
    go_wp2
    go_quiet (fail)
    go_wp2
    go_quiet (fail)
    go_wp2
    clear s0 s1 s2 s3 a0 a1 a2 a3 a4 b0 b1 b2 heq hlk hsh
    have hnl2 : (nL : Int) ≤ 131072 := by have := Hl.out; have := HnL.out; omega
    go_loopw [5, 32] (fun v i wr => ∃ k : Nat, i = .int .i64 k ∧ k ≤ nL ∧ OwnH wr w0.heap.size v ((pn.take k).map (hopF e4)) ∧ Below w0.heap.size w0 wr) (fun _ i _ => nL - (intOf i).toNat)
    case atStart => exact ⟨0, rfl, Nat.zero_le _, OwnR.nil _ _, below_drewN (below_drewN (Below.refl _ _) _) _⟩
    case round =>
      obtain ⟨k, rfl, hk, hown, hb⟩ := hrel
      obtain ⟨A7, c7, hv7⟩ := hown.shape
      subst hv7
      obtain ⟨Q, hQ⟩ : ∃ Q, (pn.take k).map (hopF e4) = Q := ⟨_, rfl⟩
      have hQl : Q.length ≤ 131072 := by rw [← hQ, List.length_map, List.length_take]; omega
      rw [hQ] at hown ⊢
      obtain ⟨nQ, hnQ⟩ : ∃ n, Q.length = n := ⟨_, rfl⟩
      rw [hnQ] at hown ⊢
      have HQ := Lib.hid hQ
      have HQl := Lib.hid hQl
      have HnQ := Lib.hid hnQ
      by_cases hlt : k < nL
      · have hkL : k < pn.length := by rw [HnL.out]; exact hlt
        have hki : (k : Int) < (nL : Int) := by omega
        obtain ⟨g, o, hA, -, x0, x1⟩ := row_hp ((HR.out.below hb).more hb.size) k hkL
        subst hA
        have hmore : (pn.take (k + 1)).map (hopF e4) = Q ++ [hopF e4 pn[k]] := by
          rw [List.take_succ_eq_append_getElem hkL, List.map_append, hQ]
          rfl
        obtain ⟨⟨h1, h2⟩, hh⟩ : ∃ h, pn[k]'hkL = h := ⟨_, rfl⟩
        rw [hh] at x0 x1 hmore
        simp only at x0 x1
        have Hmore := Lib.hid hmore
        have Hlt := Lib.hid hlt
        have hb6 := below_new wr (.cells #[.int .i64 h1, .int .i64 h2] 68)
        have hk6 := Blk.new wr 68 #[.int .i64 h1, .int .i64 h2]
        obtain ⟨w6, hw6⟩ : ∃ w6, wr.alloc (.cells #[.int .i64 h1, .int .i64 h2] 68) = w6 := ⟨_, rfl⟩
        rw [hw6] at hb6 hk6
        have hke := HK0.out.below hb (by have := HK0.out.lt; exact this)
        have hke6 := hke.below hb6 hke.lt
        obtain ⟨a0, a1, a2, a3, a4, -⟩ := hke6.cells5
        obtain ⟨b0, b1, bf0, bf1⟩ := hk6.cells2
        have HB6 := Lib.hid (below_trans hb hb.size hb6)
        have HO6 := Lib.hid (hown.below hb6)
        have HOb := Lib.hid hown.block
        have HS6 := Lib.hid (show w0.heap.size ≤ wr.heap.size from hb.size)
        have HK6 := Lib.hid hk6
        clear hown hb hQ hQl hnQ hkL hh hmore hb6 hk6 hke hke6 hlt hk
        by_cases h20 : h2 = 0
        · have hz : (h2 == 0) = true := by simp [h20]
          have Hh := Lib.hid (show hopF e4 ⟨h1, h2⟩ = ⟨h1, e4⟩ by simp [hopF, h20])
          clear h20
          obtain ⟨w7, hw7⟩ : ∃ w7, w6.setCell ⟨wr.heap.size, 1, none⟩ (.int .i64 e4) = w7 := ⟨_, rfl⟩
          have hk7 := (HK6.out.set_ 1 (.int .i64 e4)).to (cs' := #[.int .i64 h1, .int .i64 e4]) (by simp)
          have hb7 := HB6.out.setCell (p := ⟨wr.heap.size, 1, none⟩) HS6.out (.int .i64 e4)
          have ho7 := OwnR.far HO6.out (p := ⟨wr.heap.size, 1, none⟩) (fun e => Nat.lt_irrefl _ (HOb.out _ e).2) (.int .i64 e4)
          rw [hw7] at hk7 hb7 ho7
          have HK7 := Lib.hid hk7
          have HB7 := Lib.hid hb7
          have HO7 := Lib.hid ho7
          obtain ⟨d0, d1, -, -⟩ := hk7.cells2
          clear hk7 hb7 ho7
          go_wp2_with (at_builtin; (refine app_row (e := 68) Hp.cells (fun _ => rfl) (by decide) (bytes := 16) (by decide) infoH rfl Try.underlying57 onesHp (by rfl) _ _ (by rfl) w0.heap.size _ Q (by rfl) (HO7.out.alloc _) w7.heap.size ⟨h1, e4⟩ (by rfl) (Blk.new _ _ _) (by have := HQl.out; omega) (by have := HB7.out.size; simp; omega) ?_); intro v9 w9 hown9 hg9 hor9; have HO9 := Lib.hid hown9; have HB9 := Lib.hid ((HB7.out.alloc HB7.out.size _).grown hg9 (by have := HB7.out.size; simp; omega) (fun m e => (HO7.out.block m e).1)); clear hown9 hg9 hor9)
          go_roundw
          case measure => have := Hlt.out; simp [intOf]; omega
          case rel => exact ⟨k + 1, by go_num, Hlt.out, by rw [Hmore.out, Hh.out]; exact HO9.out, HB9.out⟩
        · have Hh := Lib.hid (show hopF e4 ⟨h1, h2⟩ = ⟨h1, h2⟩ by simp [hopF, h20])
          have hz : (h2 == 0) = false := by simpa using h20
          clear h20
          go_wp2_with (at_builtin; (refine app_row (e := 68) Hp.cells (fun _ => rfl) (by decide) (bytes := 16) (by decide) infoH rfl Try.underlying57 onesHp (by rfl) _ _ (by rfl) w0.heap.size _ Q (by rfl) (HO6.out.alloc _) w6.heap.size ⟨h1, h2⟩ (by rfl) (Blk.new _ _ _) (by have := HQl.out; omega) (by have := HB6.out.size; simp; omega) ?_); intro v9 w9 hown9 hg9 hor9; have HO9 := Lib.hid hown9; have HB9 := Lib.hid ((HB6.out.alloc HB6.out.size _).grown hg9 (by have := HB6.out.size; simp; omega) (fun m e => (HO6.out.block m e).1)); clear hown9 hg9 hor9)
          go_roundw
          case measure => have := Hlt.out; simp [intOf]; omega
          case rel => exact ⟨k + 1, by go_num, Hlt.out, by rw [Hmore.out, Hh.out]; exact HO9.out, HB9.out⟩
      · have hke : k = nL := by omega
        subst hke
        have hkk : ¬ (k : Int) < (k : Int) := by omega
        rw [← HnL.out, List.take_length] at hQ
        have HQ2 := Lib.hid hQ
        have Hown := Lib.hid hown
        have Hb := Lib.hid hb
        clear hown hb hQ hQl hnQ hlt
        go_wp2
        go_ret
        exact ⟨⟨_, rfl, by rw [He.out, HQ2.out]; exact Hown.out.lower Hb0.out.size⟩, below_trans Hb0.out Hb0.out.size Hb.out⟩

end Go.Proofs.Ytpfjgecdlilkcaa
