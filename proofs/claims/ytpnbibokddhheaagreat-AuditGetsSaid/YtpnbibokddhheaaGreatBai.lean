/-
  slices.Clone, slices.Grow (at nil), slices.Concat (of two) at hops.
-/
import Derived.Lib.AppendZeros
import Derived.Shelf.SlGeneric
import Derived.Shelf.SlSortCmp.NoneTotal
import Derived.Ground.SlsfProg
import Derived.Test.YtpnbibokddhheaaGreatProg
import Derived.Test.YtpnbibokddhheaaGreatBab
import Derived.Test.YtpnbibokddhheaaGreatBac
import Derived.Test.YtpnbibokddhheaaGreatBad
import Derived.Test.YtpnbibokddhheaaGreatBae
namespace Go.Proofs.YtpnbibokddhheaaGreat
open Go.RowKit

theorem ownE {α : Type} {e : TypeId} {C : Nat} {cells : α → List Value} (w : World) : OwnR e C cells (w.alloc (.cells #[] e)) w.heap.size (.slice (some ⟨w.heap.size, 0, none⟩) 0 0) ([] : List α) := by
  exact ⟨by simp, .inr ⟨w.heap.size, 0, #[], rfl, Nat.le_refl _, Blk.new w e #[], by simp, by unfold maxLen; omega, by simp, by simp⟩⟩
theorem infoH : (Tryz.prog.info? 95).map (fun i => (i.zero, i.size, i.bytes)) = some (some (.agg #[.int .i64 0, .int .i64 0]), 2, 16) := by kernel_rfl
theorem onesHp (x : Hp) : ∀ u ∈ Hp.cells x, u.oneCell' = true := by
  intro u hu
  simp [Hp.cells] at hu
  rcases hu with rfl | rfl <;> rfl
abbrev OwnH (w : World) (B : Nat) (v : Value) (l : List Hp) : Prop := OwnR 95 2 Hp.cells w B v l
abbrev RowsH (w : World) (B : Nat) (A : Option Addr) (l : List Hp) : Prop := RowsAt 2 Hp.cells w B A l
set_option maxHeartbeats 2000000 in
set_option maxRecDepth 100000 in
theorem cloneHp (A : Option Addr) (c : Nat) (M : List Hp) (w : World) (B : Nat) (h : RowsH w B A M) (hB : B ≤ w.heap.size) (hl : M.length ≤ 2 ^ 20) (n : Nat) (hn : n = M.length) :
    Calls Tryz.prog 30 #[.slice A n c] w fun r w' => ∃ v, r = .returned v ∧ OwnH w' w.heap.size v M ∧ Below w.heap.size w w' := by
  subst hn
  cases A with
  | none =>
    have hM : M = [] := by
      rcases Nat.eq_zero_or_pos M.length with h0 | h0
      · exact List.eq_nil_of_length_eq_zero h0
      · obtain ⟨b, o, e, -⟩ := h h0
        cases e
    subst hM
    clear h
    have hnil := fun (w : World) => Lib.run_eql_slice_nil (P := Tryz.prog) w 42 95 none 0 c 0 0 Tryz.underlying42
    simp only [List.length_nil]
    go_enter Tryz.func30, Tryz.ntmps30
    go_wp2
    go_ret
    exact ⟨_, rfl, OwnR.nil _ _, Below.refl _ _⟩
  | some a =>
    have H := Lib.hid (h.more hB)
    have HE : Hid (OwnH (w.alloc (.cells #[] 95)) w.heap.size (.slice (some ⟨w.heap.size, 0, none⟩) 0 0) ([] : List Hp)) := Lib.hid (ownE _)
    have hb1 := (Below.refl w.heap.size w).alloc (Nat.le_refl _) (.cells #[] 95)
    have Hb1 := Lib.hid hb1
    clear h hB hb1
    have hnil := fun (w : World) => Lib.run_eql_slice_nil (P := Tryz.prog) w 42 95 (some a) M.length c 0 0 Tryz.underlying42
    go_enter Tryz.func30, Tryz.ntmps30
    go_wp2_with (at_builtin; (refine app_rows (e := 95) Hp.cells (fun _ => rfl) (by decide) (bytes := 16) (by decide) infoH rfl Tryz.underlying42 onesHp (by rfl) _ _ (by rfl) w.heap.size _ [] (by rfl) HE.out (some a) c M.length M rfl (by rfl) ((H.out.below Hb1.out).more (by simp)) (by simp; omega) (by simp) ?_); intro v5 w5 hown5 hg5 hor5; have Hown5 := Lib.hid hown5; have Hb5 := Lib.hid (Hb1.out.grown hg5 (by simp) (fun j hj => (HE.out.block j hj).1)); clear hown5 hg5 hor5)
    go_ret
    exact ⟨_, rfl, by simpa using Hown5.out, Hb5.out⟩
set_option maxHeartbeats 2000000 in
set_option maxRecDepth 100000 in
theorem growHp (n : Nat) (hn : n ≤ 2 ^ 20) (w : World) :
    Calls Tryz.prog 103 #[.slice none 0 0, .int .i64 n] w fun r w' => ∃ v, r = .returned v ∧ OwnH w' w.heap.size v [] ∧ Below w.heap.size w w' := by
  have hnn : ¬ (n : Int) < 0 := by omega
  have hni : (n : Int) ≤ 1048576 := by omega
  by_cases h0 : n = 0
  · subst h0
    have hz : ¬ (0 : Int) < 0 := by omega
    go_enter Tryz.func103, Tryz.ntmps103
    go_wp2
    go_ret
    exact ⟨_, rfl, OwnR.nil _ _, Below.refl _ _⟩
  · have hpos : 0 < (n : Int) := by omega
    obtain ⟨i, hi, hz, hs, hb⟩ := info_parts infoH
    have hr := fun ty => Lib.run_append_nil_zeros (P := Tryz.prog) w 42 3 ty 95 i (.agg #[.int .i64 0, .int .i64 0]) .i64 .i64 Tryz.underlying42 Tryz.underlying3 hi hz n (by omega) (by rw [hs]; decide) (by omega) (by rw [hb]; omega)
    obtain ⟨c, hc⟩ : ∃ c, grownCap w n 0 95 = c := ⟨_, rfl⟩
    have hcn : n ≤ c := by rw [← hc]; exact grownCap_ge w n 0 _
    have hcm : c ≤ maxLen := by rw [← hc]; exact grownCap_le_maxLen w n 0 _ (by unfold maxLen; omega)
    rw [hc] at hr
    obtain ⟨cs, hcs⟩ : ∃ cs, Builtin.zeroCells (Value.agg #[.int .i64 0, .int .i64 0]).cells n ++ Builtin.zeroCells (Value.agg #[.int .i64 0, .int .i64 0]).cells (c - n) = cs := ⟨_, rfl⟩
    have hcz : cs.size = c * 2 := by
      rw [← hcs, Array.size_append]
      unfold Builtin.zeroCells
      simp [Value.cells]
      omega
    rw [hcs] at hr
    have hown := World.ownsRow_made w.drew cs c (base := w.heap.size) (e := 95) (size := 2) (Nat.le_refl _) hcm hcz
    have hbl := ((Below.refl w.heap.size w).drew).alloc (Nat.le_refl _) (.cells cs 95)
    obtain ⟨w2, hw2⟩ : ∃ w2, w.drew.alloc (.cells cs 95) = w2 := ⟨_, rfl⟩
    rw [hw2] at hr hown hbl
    have HR := Lib.hid hr
    have HO := Lib.hid hown
    have HB := Lib.hid hbl
    have hc0 : 0 ≤ (c : Int) := by omega
    have hcm2 : (c : Int) ≤ 9223372036854775807 := by unfold maxLen at hcm; omega
    clear hr hown hbl hc hcs hcz hw2 hi hz hs hb hcm
    go_enter Tryz.func103, Tryz.ntmps103
    go_wp2_with (at_builtin; (refine Lib.wpList_append_run _ (by rfl) _ _ 42 3 (by rfl) (.slice none 0 0) (.int .i64 n) (by rfl) (by rfl) _ _ (HR.out _) ?_))
    go_ret
    exact ⟨_, rfl, HO.out, HB.out⟩

def catH (A B : List Hp) : Nat → List Hp
  | 0 => []
  | 1 => A
  | _ => A ++ B
set_option maxHeartbeats 4000000 in
set_option maxRecDepth 100000 in
/-- one behind the other -/
theorem concatHp (A1 A2 : Option Addr) (c1 c2 : Nat) (M1 M2 : List Hp) (g : Nat) (w : World) (n1 n2 : Nat) (hn1 : n1 = M1.length) (hn2 : n2 = M2.length) (hk : Blk w g 42 #[.slice A1 n1 c1, .slice A2 n2 c2]) (h1 : RowsH w w.heap.size A1 M1) (h2 : RowsH w w.heap.size A2 M2) (hl1 : M1.length ≤ 2 ^ 18) (hl2 : M2.length ≤ 2 ^ 18) :
    Calls Tryz.prog 67 #[.slice (some ⟨g, 0, none⟩) 2 2] w fun r w' => ∃ v, r = .returned v ∧ OwnH w' w.heap.size v (M1 ++ M2) ∧ Below w.heap.size w w' := by
  have H1 := Lib.hid h1
  have H2 := Lib.hid h2
  have Hk := Lib.hid hk
  have Hn1 := Lib.hid hn1
  have Hn2 := Lib.hid hn2
  have hi1 : (n1 : Int) ≤ 262144 := by omega
  have hi2 : (n2 : Int) ≤ 262144 := by omega
  have hp1 : 0 ≤ (n1 : Int) := by omega
  have hp2 : 0 ≤ (n2 : Int) := by omega
  have Hl1 := Lib.hid hl1
  have Hl2 := Lib.hid hl2
  obtain ⟨k0, k1, -, -⟩ := hk.cells2
  clear h1 h2 hk hn1 hn2 hl1 hl2
  go_enter Tryz.func67, Tryz.ntmps67
  go_wp2
  go_loop [3, 11] (fun s i => (i = .int .i64 0 ∧ s = .int .i64 0) ∨ (i = .int .i64 1 ∧ s = .int .i64 n1) ∨ (i = .int .i64 2 ∧ s = .int .i64 (n1 + n2 : Nat))) (fun _ i => 2 - (intOf i).toNat)
  case atStart => exact .inl ⟨rfl, rfl⟩
  case round =>
    rcases hrel with ⟨rfl, rfl⟩ | ⟨rfl, rfl⟩ | ⟨rfl, rfl⟩
    · go_wp2
      go_round
      case measure => simp [intOf]
      case rel => exact .inr (.inl ⟨by go_num, by go_num⟩)
    · go_wp2
      go_round
      case measure => simp [intOf]
      case rel => exact .inr (.inr ⟨by go_num, by go_num⟩)
    · have hG := growHp (n1 + n2) (by have := Hn1.out; have := Hn2.out; have := Hl1.out; have := Hl2.out; omega) w
      rw [Int.natCast_add] at hG
      have HG := Lib.hid hG
      clear hG
      go_wp2_with fail
      with_reducible refine Calls.mono HG.out ?_
      rintro r w1 ⟨v, rfl, ho, hb⟩
      obtain ⟨A6, c6, hv⟩ := ho.shape
      subst hv
      have Ho := Lib.hid ho
      have Hb := Lib.hid hb
      clear k0 k1 ho hb HG
      go_wp2
      go_loopw [6, 27] (fun v i wr => ∃ k : Nat, k ≤ 2 ∧ i = .int .i64 k ∧ OwnH wr w.heap.size v (catH M1 M2 k) ∧ Below w.heap.size w wr) (fun _ i _ => 2 - (intOf i).toNat)
      case atStart => exact ⟨0, by omega, rfl, Ho.out, Hb.out⟩
      case round =>
        obtain ⟨k, hk, rfl, hown, hb⟩ := hrel
        obtain ⟨A7, c7, hv⟩ := hown.shape
        subst hv
        have Hown := Lib.hid hown
        have Hb := Lib.hid hb
        have hkr := Hk.out.below hb Hk.out.lt
        obtain ⟨k0, k1, -, -⟩ := hkr.cells2
        clear hown hb hkr
        obtain rfl | rfl | rfl : k = 0 ∨ k = 1 ∨ k = 2 := by omega
        · go_wp2_with (at_builtin; (refine app_rows (e := 95) Hp.cells (fun _ => rfl) (by decide) (bytes := 16) (by decide) infoH rfl Tryz.underlying42 onesHp (by rfl) _ _ (by rfl) w.heap.size _ (catH M1 M2 0) (by rfl) Hown.out A1 c1 n1 M1 Hn1.out (by rfl) ((H1.out.below Hb.out).more Hb.out.size) (by have := Hl1.out; simp [catH]; omega) Hb.out.size ?_); intro v5 w5 hown5 hg5 hor5; have Hown5 := Lib.hid (show OwnH w5 w.heap.size v5 (catH M1 M2 1) from hown5); have Hb5 := Lib.hid (Hb.out.grown hg5 Hb.out.size (fun j hj => (Hown.out.block j hj).1)); clear hown5 hg5 hor5)
          go_roundw
          case measure => simp [intOf]
          case rel => exact ⟨1, by omega, by go_num, Hown5.out, Hb5.out⟩
        · go_wp2_with (at_builtin; (refine app_rows (e := 95) Hp.cells (fun _ => rfl) (by decide) (bytes := 16) (by decide) infoH rfl Tryz.underlying42 onesHp (by rfl) _ _ (by rfl) w.heap.size _ (catH M1 M2 1) (by rfl) Hown.out A2 c2 n2 M2 Hn2.out (by rfl) ((H2.out.below Hb.out).more Hb.out.size) (by have := Hl1.out; have := Hl2.out; simp [catH]; omega) Hb.out.size ?_); intro v5 w5 hown5 hg5 hor5; have Hown5 := Lib.hid (show OwnH w5 w.heap.size v5 (catH M1 M2 2) from hown5); have Hb5 := Lib.hid (Hb.out.grown hg5 Hb.out.size (fun j hj => (Hown.out.block j hj).1)); clear hown5 hg5 hor5)
          go_roundw
          case measure => simp [intOf]
          case rel => exact ⟨2, by omega, by go_num, Hown5.out, Hb5.out⟩
        · go_wp2
          go_ret
          exact ⟨_, rfl, Hown.out, Hb.out⟩

end Go.Proofs.YtpnbibokddhheaaGreat

/-
  slices.Compact at hops: each once, of those that stand side by side.
-/
namespace Go.Proofs.YtpnbibokddhheaaGreat
open Go.RowKit

theorem zeroHp (w : World) : (zeroValue 95).run Tryz.prog w = .ok (.agg #[.int .i64 0, .int .i64 0]) w := by kernel_rfl
theorem row_hp {w : World} {B : Nat} {A : Option Addr} {l : List Hp} (h : RowsH w B A l) (k : Nat) (hk : k < l.length) :
    ∃ b o, A = some ⟨b, o, none⟩ ∧ b < B ∧ w.cell? ⟨b, o + k * 2, none⟩ = some (.int .i64 l[k].lan) ∧ w.cell? ⟨b, o + k * 2 + 1, none⟩ = some (.int .i64 l[k].id) := by
  obtain ⟨b, o, e, hb, hc⟩ := h (by omega)
  exact ⟨b, o, e, hb, by simpa using hc k hk 0 _ (by omega) rfl, hc k hk 1 _ (by omega) rfl⟩
theorem set_flatH (l : List Hp) (k : Nat) (c : Hp) (hk : k < l.length) :
    (l.set k c).flatMap Hp.cells = ((l.flatMap Hp.cells).set (k * 2) (.int .i64 c.lan)).set (k * 2 + 1) (.int .i64 c.id) := by
  induction l generalizing k with
  | nil => simp at hk
  | cons d l ih =>
    cases k with
    | zero => simp [Hp.cells]
    | succ k =>
      have h := ih k (by simpa using hk)
      simp only [List.set_cons_succ, List.flatMap_cons, h]
      have h4 : (Hp.cells d).length = 2 := rfl
      rw [List.set_append_right _ _ (by omega), List.set_append_right _ _ (by omega)]
      simp only [h4, show (k + 1) * 2 - 2 = k * 2 by omega, show (k + 1) * 2 + 1 - 2 = k * 2 + 1 by omega]
section
variable {w : World} {B g cap n : Nat} {l : List Hp}
theorem OwnH.set2 (h : OwnH w B (.slice (some ⟨g, 0, none⟩) n cap) l) (hn : n = l.length) (k : Nat) (hk : k < l.length) (c : Hp) :
    OwnH ((w.setCell ⟨g, k * 2, none⟩ (.int .i64 c.lan)).setCell ⟨g, k * 2 + 1, none⟩ (.int .i64 c.id)) B (.slice (some ⟨g, 0, none⟩) n cap) (l.set k c) ∧ w.grownBy ((w.setCell ⟨g, k * 2, none⟩ (.int .i64 c.lan)).setCell ⟨g, k * 2 + 1, none⟩ (.int .i64 c.id)) (some g) := by
  subst hn
  have h1 := World.ownsRow.stored h (k * 2) (.int .i64 c.lan)
  have h2 := World.ownsRow.stored h1.1 (k * 2 + 1) (.int .i64 c.id)
  refine ⟨?_, grown_trans h1.2 h2.2⟩
  unfold OwnH OwnR
  rw [set_flatH l k c hk, List.length_set]
  exact h2.1
end
theorem neqHpN (a b a' b' : Int) (w : World) : (binOp .neq 95 (.agg #[.int .i64 a, .int .i64 b]) (.agg #[.int .i64 a', .int .i64 b'])).run Tryz.prog w = .ok (.bool (!decide ((⟨a, b⟩ : Hp) = ⟨a', b'⟩))) w := by
  have h := eqHpN a b a' b' w
  simp only [binOp]
  simp [Op.equal, Op.maxDepth, h]
/-- what lies in the row while it is gone over: the first k, and from the place of reading on, what was there -/
structure CptAt (w wr : World) (B g n c : Nat) (L : List Hp) (q k : Nat) : Prop where
  own : ∃ M, M.length = n ∧ OwnH wr B (.slice (some ⟨g, 0, none⟩) n c) M ∧ M.take k = cptN L q ∧ ∀ i, q ≤ i + 1 → M[i]? = L[i]?
  len : k = (cptN L q).length
  lt : k + 1 ≤ q
  bel : w.grownBy wr (some g)
theorem grown_below2 {w wr W : World} {row : Option Nat} (h : w.grownBy wr row) (hb : Below wr.heap.size wr W) : w.grownBy W row := grown_below h hb
theorem cpt_keep {w wr : World} {B g n c k p m i : Nat} {L : List Hp} {a b : Hp} (h : CptAt w wr B g n c L (k + p) m) (hl : ∃ (h1 : k + i + 1 < L.length) (h2 : k + i < L.length), L[k + i + 1]'h1 = a ∧ L[k + i]'h2 = b) (he : a = b) (hi : p = i + 1) (q : Nat) : CptAt w (wr.drewN q) B g n c L (k + (p + 1)) m := by
  subst hi
  obtain ⟨h1, h2, h3, h4⟩ := hl
  have hc : cptN L (k + (i + 1 + 1)) = cptN L (k + (i + 1)) := cptN_same (n := k + i) h1 (by rw [h3, h4, he])
  obtain ⟨M, g1, g2, g3, g4⟩ := h.own
  refine ⟨⟨M, g1, g2.below (below_drewN (Below.refl _ _) q), by rw [hc]; exact g3, fun j hj => g4 j (by omega)⟩, by rw [hc]; exact h.len, by have := h.lt; omega, ?_⟩
  exact ⟨h.bel.os, h.bel.tape, h.bel.output, h.bel.size, h.bel.block⟩
theorem cpt_put {w wr : World} {B g n c k p m i : Nat} {L : List Hp} {a b : Hp} (h : CptAt w wr B g n c L (k + p) m) (hl : ∃ (h1 : k + i + 1 < L.length) (h2 : k + i < L.length), L[k + i + 1]'h1 = a ∧ L[k + i]'h2 = b) (he : a ≠ b) (hi : p = i + 1) (q : Nat) (hn : n = L.length) : CptAt w (((wr.drewN q).setCell ⟨g, m * 2, none⟩ (.int .i64 a.lan)).setCell ⟨g, m * 2 + 1, none⟩ (.int .i64 a.id)) B g n c L (k + (p + 1)) (m + 1) := by
  subst hi
  obtain ⟨h1, h2, h3, h4⟩ := hl
  have hc : cptN L (k + (i + 1 + 1)) = cptN L (k + (i + 1)) ++ [a] := by
    have := cptN_new (n := k + i) h1 (by rw [h3, h4]; exact he)
    rw [h3] at this
    exact this
  obtain ⟨M, g1, g2, g3, g4⟩ := h.own
  have hm : m < M.length := by have := h.lt; omega
  have g5 := OwnH.set2 (g2.below (below_drewN (Below.refl _ _) q)) g1.symm m hm a
  have hlt := h.lt
  refine ⟨⟨M.set m a, by rw [List.length_set]; exact g1, g5.1, ?_, fun j hj => ?_⟩, by rw [hc, List.length_append, ← h.len]; rfl, by omega, ?_⟩
  · rw [hc, ← g3, List.take_succ_eq_append_getElem (by rw [List.length_set]; exact hm), List.getElem_set_self, List.take_set_of_le (Nat.le_refl _)]
  · rw [List.getElem?_set_ne (by omega)]
    exact g4 j (by omega)
  · refine grown_trans (c := wr.drewN q) ⟨h.bel.os, h.bel.tape, h.bel.output, h.bel.size, h.bel.block⟩ g5.2
set_option maxHeartbeats 8000000 in
set_option maxRecDepth 100000 in
theorem compactHp (A : Option Addr) (c n : Nat) (L : List Hp) (w : World) (B : Nat) (h : OwnH w B (.slice A n c) L) (hn : n = L.length) (hl : L.length ≤ 2 ^ 20) :
    Calls Tryz.prog 70 #[.slice A n c] w fun r w' => ∃ v, r = .returned v ∧ OwnH w' B v (cptL L) ∧ w.grownBy w' (Value.slice A n c).ownBlock ∧ (v.ownBlock = (Value.slice A n c).ownBlock) := by
  have hni : (n : Int) ≤ 1048576 := by omega
  have hnp : 0 ≤ (n : Int) := by omega
  by_cases h2 : n < 2
  · have hc : cptL L = L := by
      unfold cptL
      rw [cptN_take _ (Nat.le_refl _) (fun i hi _ => by omega), List.take_length]
    have Hc := Lib.hid hc
    have H := Lib.hid h
    have h2i : (n : Int) < 2 := by omega
    clear h hc
    go_enter Tryz.func70, Tryz.ntmps70
    go_wp2
    go_ret
    exact ⟨_, rfl, by rw [Hc.out]; exact H.out, ⟨rfl, rfl, rfl, Nat.le_refl _, fun _ _ _ => rfl⟩, rfl⟩
  · have h2i : ¬ (n : Int) < 2 := by omega
    obtain ⟨g, rfl⟩ : ∃ g, A = some ⟨g, 0, none⟩ := by
      rcases h.2 with ⟨hv, h0⟩ | ⟨g, cap', cur, hv, -⟩
      · omega
      · injection hv with hA
        exact ⟨g, hA⟩
    have hnc : n ≤ c := by
      rcases h.2 with ⟨hv, h0⟩ | ⟨g', cap', cur, hv, -, -, hnc, -⟩
      · cases hv
      · injection hv with e1 e2 e3
        omega
    have hcm : c ≤ maxLen := by
      rcases h.2 with ⟨hv, h0⟩ | ⟨g', cap', cur, hv, -, -, -, hcm, -⟩
      · cases hv
      · injection hv with e1 e2 e3
        omega
    have hci : (c : Int) ≤ 9223372036854775807 := by unfold maxLen at hcm; omega
    have hnci : (n : Int) ≤ (c : Int) := by omega
    have H := Lib.hid h
    have Hn := Lib.hid hn
    have H2 := Lib.hid h2
    clear h hn hl hcm h2
    go_enter Tryz.func70, Tryz.ntmps70
    go_wp2
    go_loopw [3] (fun i wr => ∃ (k q : Nat), i = .int .i64 k ∧ 1 ≤ k ∧ k ≤ n ∧ (∀ i (h1 : i + 1 < k) (h2 : i + 1 < L.length), L[i + 1]'h2 ≠ L[i]'(by omega)) ∧ wr = w.drewN q) (fun i _ => n - (intOf i).toNat)
    case atStart => exact ⟨1, 0, rfl, Nat.le_refl _, by have := H2.out; omega, fun i h1 _ => by omega, rfl⟩
    case round =>
      obtain ⟨k, q, rfl, hk1, hk, hd, rfl⟩ := hrel
      have hk1i : 1 ≤ (k : Int) := by omega
      by_cases hlt : k < n
      · have hki : (k : Int) < (n : Int) := by omega
        obtain ⟨j, hj⟩ : ∃ j, k = j + 1 := ⟨k - 1, by omega⟩
        have hkL : k < L.length := by have := Hn.out; omega
        have hown := H.out
        obtain ⟨g1, o1, e1, -, x0, x1⟩ := row_hp (OwnR.rows (C := 2) (cells := Hp.cells) (fun _ => rfl) hown).2 k hkL
        obtain ⟨g2, o2, e2, -, y0, y1⟩ := row_hp (OwnR.rows (C := 2) (cells := Hp.cells) (fun _ => rfl) hown).2 j (by omega)
        injection e1 with e1
        injection e1 with e1 e1'
        injection e2 with e2
        injection e2 with e2 e2'
        subst e1 e1' e2 e2'
        simp only [Nat.zero_add] at x0 x1 y0 y1
        obtain ⟨a, ha⟩ : ∃ a, L[k]'hkL = a := ⟨_, rfl⟩
        obtain ⟨b, hb⟩ : ∃ b, L[j]'(by omega) = b := ⟨_, rfl⟩
        rw [ha] at x0 x1
        rw [hb] at y0 y1
        have Hd := Lib.hid hd
        have Hj1 := Lib.hid (show ∃ (h1 : k < L.length) (h2 : j < L.length), L[k]'h1 = a ∧ L[j]'h2 = b from ⟨hkL, by omega, ha, hb⟩)
        have hkj : (k : Int) - 1 = (j : Int) := by omega
        have hji : (j : Int) < (n : Int) := by omega
        have Hj := Lib.hid hj
        have Hlt := Lib.hid hlt
        clear hown hd ha hb hkL hj hlt
        obtain ⟨a1, a2⟩ := a
        obtain ⟨b1, b2⟩ := b
        simp only at x0 x1 y0 y1
        have heq := fun w => eqHpN a1 a2 b1 b2 w
        by_cases he : (⟨a1, a2⟩ : Hp) = ⟨b1, b2⟩
        · rw [decide_eq_true he] at heq
          have He := Lib.hid he
          clear he
          have hst : ∀ W, Below w.heap.size w W → CptAt w W B g n c L (k + 1) k := by
            intro W hW
            obtain ⟨g1, g2, g3, g4⟩ := Hj1.out
            have hk := Hj.out
            subst hk
            have hcp : cptN L (j + 1 + 1) = L.take (j + 1) := by
              rw [cptN_same g1 (by rw [g3, g4]; exact He.out)]
              exact cptN_take _ (by omega) (fun i h1 h2 => Hd.out i h1 (by omega))
            refine ⟨⟨L, Hn.out.symm, H.out.below hW, hcp.symm, fun _ _ => rfl⟩, ?_, Nat.le_refl _, grown_below (World.grownBy.refl w (some g)) hW⟩
            rw [hcp, List.length_take]
            omega
          have Hst := Lib.hid hst
          have hnk : (n : Int) - (k : Int) = ((n - k : Nat) : Int) := by have := Hlt.out; omega
          clear hst
          go_wp2
          go_quiet (fail)
          go_wp2
          go_loopw [3, 5] (fun s i wr => ∃ (p m : Nat), i = .int .i64 p ∧ s = .int .i64 m ∧ 1 ≤ p ∧ p ≤ n - k ∧ CptAt w wr B g n c L (k + p) m) (fun _ i _ => (n - k) - (intOf i).toNat)
          case atStart => exact ⟨1, k, rfl, rfl, Nat.le_refl _, by have := Hlt.out; omega, Hst.out _ (below_drewN (Below.refl _ _) _)⟩
          case round =>
            obtain ⟨p, m, rfl, rfl, hp1, hp, hst⟩ := hrel
            clear x0 x1 y0 y1 heq Hst
            obtain ⟨M, hM, hown, hMt, hMs⟩ := hst.own
            have Hst := Lib.hid hst
            have Hown := Lib.hid hown
            have HM := Lib.hid hM
            have HMt := Lib.hid hMt
            have HMs := Lib.hid hMs
            have Hp1 := Lib.hid hp1
            have hpi1 : 1 ≤ (p : Int) := by omega
            by_cases hpl : p < n - k
            · have hpi : (p : Int) < ((n - k : Nat) : Int) := by omega
              have hpn : p ≤ 1048576 := by omega
              obtain ⟨i, hi⟩ : ∃ i, p = i + 1 := ⟨p - 1, by omega⟩
              have hpi2 : (p : Int) - 1 = (i : Int) := by omega
              have hii : (i : Int) < ((n - k : Nat) : Int) := by omega
              have h1 : k + p < M.length := by omega
              have h2 : k + i < M.length := by omega
              obtain ⟨g1, o1, e1, -, x0, x1⟩ := row_hp (OwnR.rows (C := 2) (cells := Hp.cells) (fun _ => rfl) hown).2 (k + p) h1
              obtain ⟨g2, o2, e2, -, y0, y1⟩ := row_hp (OwnR.rows (C := 2) (cells := Hp.cells) (fun _ => rfl) hown).2 (k + i) h2
              injection e1 with e1
              injection e1 with e1 e1'
              injection e2 with e2
              injection e2 with e2 e2'
              subst e1 e1' e2 e2'
              simp only [Nat.zero_add, Nat.add_mul] at x0 x1 y0 y1
              obtain ⟨a, ha⟩ : ∃ a, M[k + p]'h1 = a := ⟨_, rfl⟩
              obtain ⟨b, hb⟩ : ∃ b, M[k + i]'h2 = b := ⟨_, rfl⟩
              rw [ha] at x0 x1
              rw [hb] at y0 y1
              have hLa : ∃ (h1 : k + i + 1 < L.length) (h2 : k + i < L.length), L[k + i + 1]'h1 = a ∧ L[k + i]'h2 = b := by
                have g1 := hMs (k + p) (by omega)
                have g2 := hMs (k + i) (by omega)
                rw [List.getElem?_eq_getElem h1, ha] at g1
                rw [List.getElem?_eq_getElem h2, hb] at g2
                obtain ⟨q1, q2⟩ := List.getElem?_eq_some_iff.1 g1.symm
                obtain ⟨q3, q4⟩ := List.getElem?_eq_some_iff.1 g2.symm
                subst hi
                exact ⟨q1, q3, q2, q4⟩
              have HLa := Lib.hid hLa
              have Hi := Lib.hid hi
              have Hpl := Lib.hid hpl
              have hmk : (m : Int) < (n : Int) := by have := hst.lt; have := Hn.out; omega
              have hmn : m < M.length := by have := hst.lt; omega
              obtain ⟨g3, o3, e3, -, v0, v1⟩ := row_hp (OwnR.rows (C := 2) (cells := Hp.cells) (fun _ => rfl) hown).2 m hmn
              injection e3 with e3
              injection e3 with e3 e3'
              subst e3 e3'
              simp only [Nat.zero_add] at v0 v1
              obtain ⟨v, hv⟩ : ∃ v, M[m]'hmn = v := ⟨_, rfl⟩
              rw [hv] at v0 v1
              clear hv
              have f0 := OwnR.froz hown (m * 2)
              have f1 := OwnR.froz hown (m * 2 + 1)
              have Hmn := Lib.hid hmn
              clear hst hown hM hMt hMs hi hpl h1 h2 ha hb hLa hp1 hp hmn
              obtain ⟨a1, a2⟩ := a
              obtain ⟨b1, b2⟩ := b
              simp only at x0 x1 y0 y1
              have hne := fun w => neqHpN a1 a2 b1 b2 w
              by_cases he : (⟨a1, a2⟩ : Hp) = ⟨b1, b2⟩
              · rw [decide_eq_true he] at hne
                have He2 := Lib.hid he
                clear he
                clear v0 v1 f0 f1
                go_wp2
                go_quiet (fail)
                go_wp2
                go_roundw
                case measure => have := Hpl.out; simp [intOf]; omega
                case rel => exact ⟨p + 1, m, by go_num, rfl, by omega, Hpl.out, cpt_keep Hst.out HLa.out He2.out Hi.out _⟩
              · rw [decide_eq_false he] at hne
                have He2 := Lib.hid he
                clear he
                go_wp2
                go_quiet (fail)
                go_wp2
                go_roundw
                case measure => have := Hpl.out; simp [intOf]; omega
                case rel => exact ⟨p + 1, m + 1, by go_num, by go_num, by omega, Hpl.out, cpt_put Hst.out HLa.out He2.out Hi.out _ Hn.out⟩
            · have hpe : k + p = L.length := by have := Hn.out; have := Hlt.out; omega
              have hcm : M.take m = cptL L := by rw [hMt, hpe]; rfl
              have hlm : m = (cptL L).length := by rw [hst.len, hpe]; rfl
              have hmn : m < n := by have := hst.lt; have := Hn.out; omega
              have Hcm := Lib.hid hcm
              have Hbel := Lib.hid hst.bel
              have hmi : (m : Int) < (n : Int) := by omega
              have hmi2 : (m : Int) ≤ (c : Int) := by omega
              have hple : ¬ (p : Int) < ((n - k : Nat) : Int) := by omega
              have Hmn := Lib.hid hmn
              have hnm : (n : Int) - (m : Int) = ((n - m : Nat) : Int) := by omega
              clear hst hown hM hMt hMs hpl hp1 hp hcm hmn hpe hlm
              go_wp2_with ((refine wpList_clear_row (e := 95) (C := 2) (cells := Hp.cells) (fun _ => rfl) Tryz.underlying42 zeroHp rfl (by intro u hu; simp [Value.cells] at hu; subst hu; rfl) (by rfl) _ (by rfl) Hown.out HM.out.symm m (Nat.le_of_lt Hmn.out) (n - m) (c - m) (m * 2) rfl (by have := Hmn.out; omega) (by rfl) ?_); intro w5 hown5 hg5; have HO5 := Lib.hid hown5; have HG5 := Lib.hid hg5; clear hown5 hg5)
              go_ret
              exact ⟨_, rfl, by have h := HO5.out; rw [Hcm.out] at h; exact h, grown_trans Hbel.out HG5.out, rfl⟩
        · rw [decide_eq_false he] at heq
          have He := Lib.hid he
          clear he
          go_wp2
          go_quiet (fail)
          go_wp2
          go_roundw
          case measure => have := Hlt.out; simp [intOf]; omega
          case rel =>
            refine ⟨k + 1, _, by go_num, by omega, Hlt.out, fun i h1 h2 => ?_, rfl⟩
            by_cases hij : i = j
            · subst hij
              have hk := Hj.out
              subst hk
              obtain ⟨g1, g2, g3, g4⟩ := Hj1.out
              rw [g3, g4]
              exact He.out
            · exact Hd.out i (by omega) h2
      · have hkn : k = n := by omega
        subst hkn
        have hkk : ¬ (k : Int) < (k : Int) := by omega
        have hc : cptL L = L := by
          unfold cptL
          rw [cptN_take _ (Nat.le_refl _) (fun i hi h => hd i (by rw [Hn.out]; exact hi) (by omega)), List.take_length]
        have Hc := Lib.hid hc
        clear hd hc
        go_wp2
        go_ret
        exact ⟨_, rfl, by rw [Hc.out]; exact H.out.below (below_drewN (Below.refl _ _) q), ⟨rfl, rfl, rfl, Nat.le_refl _, fun _ _ _ => rfl⟩, rfl⟩

end Go.Proofs.YtpnbibokddhheaaGreat

/-
  A row of structs that a call made itself, behind the library's sort.
-/
namespace Go.Proofs.YtpnbibokddhheaaGreat
open Go.RowKit Go.Sort Go.Proofs

section
variable {α : Type} [Inhabited α] {e : TypeId} {C : Nat} {cells : α → List Value} {w : World} {B : Nat} {L : List α}
theorem flatK_list (hC : ∀ x, (cells x).length = C) (M : List α) : (flatK cells C M.toArray).toList = M.flatMap cells := by
  apply List.ext_getElem?
  intro t
  by_cases ht : t < M.length * C
  · have h0 : 0 < C := by
      rcases Nat.eq_zero_or_pos C with h | h
      · subst h; simp at ht
      · exact h
    have hk : t / C < M.length := Nat.div_lt_of_lt_mul (by rw [Nat.mul_comm]; exact ht)
    have hi : t % C < C := Nat.mod_lt _ h0
    have e1 := flatR cells C hC M (t / C) (t % C) hk hi
    rw [show t / C * C + t % C = t by rw [Nat.mul_comm]; exact Nat.div_add_mod t C] at e1
    rw [e1, Array.getElem?_toList]
    have hs : t < (flatK cells C M.toArray).size := by rw [size_flatK]; simpa using ht
    have e2 := get_flatK cells C M.toArray t (by simpa using ht)
    rw [getElem!_pos _ t hs] at e2
    rw [Array.getElem?_eq_getElem hs, e2]
    have e3 : M.toArray[t / C]! = M[t / C] := by simp [hk]
    have e4 : t % C < (cells M[t / C]).length := by rw [hC]; exact hi
    rw [e3, List.getElem?_eq_getElem e4, getElem!_pos (cells M[t / C]) (t % C) e4]
  · rw [List.getElem?_eq_none (by simpa using Nat.le_of_not_lt ht), List.getElem?_eq_none (by rw [flatLenR cells C hC]; omega)]
theorem ownR_holds (hC : ∀ x, (cells x).length = C) {g n cap : Nat} (h : OwnR e C cells w B (.slice (some ⟨g, 0, none⟩) n cap) L) : HoldsK cells C w g 0 L.toArray ∧ g < w.heap.size := by
  rcases h.2 with ⟨hv, -⟩ | ⟨g', cap', cur, hv, hb, hg, hnc, hcm, hcs, ht⟩
  · cases hv
  · simp only [Value.slice.injEq, Option.some.injEq, Addr.mk.injEq, and_true] at hv
    obtain ⟨rfl, rfl, rfl⟩ := hv
    refine ⟨fun j hj => ⟨?_, by simp [World.frozen?, hg]⟩, (Array.getElem?_eq_some_iff.1 hg).1⟩
    have hj' : j < L.length * C := by rw [size_flatK] at hj; simpa using hj
    have h1 : (cur.toList.take (L.length * C))[j]? = (L.flatMap cells)[j]? := by rw [ht]
    rw [List.getElem?_take_of_lt hj', ← flatK_list hC, Array.getElem?_toList, Array.getElem?_toList, Array.getElem?_eq_getElem hj] at h1
    simp only [World.cell?, hg, Nat.zero_add, Option.isSome_none, Bool.false_eq_true, if_false]
    rw [h1, getElem!_pos (flatK cells C L.toArray) j hj]
    rfl
theorem take_put (F cur : Array Value) (h : F.size ≤ cur.size) : (putCells id 0 F cur).toList.take F.size = F.toList := by
  apply List.ext_getElem?
  intro j
  by_cases hj : j < F.size
  · rw [List.getElem?_take_of_lt hj, Array.getElem?_toList, Array.getElem?_toList]
    simp [putCells, hj, show j < cur.size by omega]
  · rw [List.getElem?_take_eq_none (by omega), List.getElem?_eq_none (by simp; omega)]
theorem ownR_sorted (hC : ∀ x, (cells x).length = C) {g n cap m : Nat} {os : Array Obj} {M : List α} (h : OwnR e C cells w B (.slice (some ⟨g, 0, none⟩) n cap) L) (hl : M.length = L.length) :
    OwnR e C cells (sortWorldK cells C w g 0 m M.toArray os) B (.slice (some ⟨g, 0, none⟩) n cap) M ∧ w.grownBy (sortWorldK cells C w g 0 m M.toArray os) (some g) := by
  rcases h.2 with ⟨hv, -⟩ | ⟨g', cap', cur, hv, hb, hg, hnc, hcm, hcs, ht⟩
  · cases hv
  · simp only [Value.slice.injEq, Option.some.injEq, Addr.mk.injEq, and_true] at hv
    obtain ⟨rfl, rfl, rfl⟩ := hv
    have hlt : g < w.heap.size := (Array.getElem?_eq_some_iff.1 hg).1
    have hheap : (sortWorldK cells C w g 0 m M.toArray os).heap[g]? = some (.cells (putCells id 0 (flatK cells C M.toArray) cur) e (0, 0)) := by
      unfold sortWorldK putRowK
      rw [heap_grow_old _ _ (by simpa using hlt)]
      simp [putRow, mapBlock, Sort.ahead, Array.getElem?_modify, hg, onCells]
    have hfs : (flatK cells C M.toArray).size = L.length * C := by rw [size_flatK]; simp [hl]
    refine ⟨⟨?_, .inr ⟨g, cap, _, by rw [hl], hb, hheap, by omega, hcm, by simp [putCells, hcs], ?_⟩⟩, rfl, rfl, rfl, ?_, fun k hk hne => ?_⟩
    · rw [flatLenR cells C hC]
    · rw [← flatK_list hC, hl, ← hfs]
      exact take_put _ _ (by rw [hfs, hcs]; exact Nat.mul_le_mul_right C hnc)
    · unfold sortWorldK putRowK
      simp
    · unfold sortWorldK putRowK
      rw [heap_grow_old _ _ (by simpa using hk)]
      have : g ≠ k := fun e => hne (by rw [e])
      simp [putRow, mapBlock, Sort.ahead, Array.getElem?_modify, this]
end

end Go.Proofs.YtpnbibokddhheaaGreat

/-
  The library's sort at a row that a call made itself: a permutation, in order.
-/
namespace Go.Proofs.YtpnbibokddhheaaGreat
open Go.RowKit Go.Sort Go.Proofs Go.Shelf

theorem sort_row {α : Type} [Inhabited α] {ρ : Ren} (LL : SlLaysF0.n6 Tryz.prog ρ) {C : Nat} (aE : ∀ w, (isAgg (ρ.t 24)).run Tryz.prog w = .ok true w) (zE : ∀ w, (Go.sizeOf (ρ.t 24)).run Tryz.prog w = .ok C w) (cells : α → List Value) (hC : ∀ x, (cells x).length = C) (h1 : ∀ x, ∀ v ∈ cells x, v.oneCell' = true)
    (cf : α → α → Int) (hO : SWO (ltOf cf)) (g : Nat) (eg : ∀ xs w, (callFunc g xs).run Tryz.prog w = .ok (.enter g xs) w)
    (hcmp : ∀ x y w, Calls Tryz.prog g #[.agg (cells x).toArray, .agg (cells y).toArray] w fun r w' => r = .returned (.int .i64 (cf x y)) ∧ ∃ q os', w' = grow (w.drewN q) os')
    {e : TypeId} (v : Value) (L : List α) (B : Nat) (w : World) (hown : OwnR e C cells w B v L) (hlen : L.length ≤ 2 ^ 20) :
    Calls Tryz.prog (ρ.f 6) #[v, .func (.func g) #[] #[]] w fun r w' => r = .returned (.tuple #[]) ∧ ∃ M, OwnR e C cells w' B v M ∧ M.Perm L ∧ (M.Pairwise fun x y => ltOf cf y x = false) ∧ w.grownBy w' v.ownBlock := by
  obtain ⟨A, cap, rfl⟩ := hown.shape
  by_cases h0 : L.length = 0
  · have hL : L = [] := List.eq_nil_of_length_eq_zero h0
    subst hL
    refine (AnyF.slices_SortFunc_none { LL with } A cap (.func (.func g) #[] #[]) w).mono ?_
    rintro r w' ⟨rfl, rfl⟩
    exact ⟨rfl, [], hown, List.Perm.refl _, List.Pairwise.nil, World.grownBy.refl _ _⟩
  · rcases hown.2 with ⟨hv, hn⟩ | ⟨g', cap', cur, hv, -⟩
    · omega
    · simp only [Value.slice.injEq, true_and] at hv
      obtain ⟨rfl, rfl⟩ := hv
      obtain ⟨hH, hlt⟩ := ownR_holds (C := C) (cells := cells) hC hown
      have h := AnyQ.slices_SortFunc LL C aE zE cells hC h1 cf hO g #[] g' 0 cap L.toArray w eg (fun m os dk _ x y => hcmp x y _) hH hlt (by simp; omega)
      refine h.mono ?_
      rintro r w' ⟨rfl, d', n, os, ⟨hsz, -, hperm⟩, hs, rfl⟩
      have e1 : d'.extract 0 L.toArray.size = d' := by rw [← hsz]; exact Array.extract_size
      rw [e1, Array.extract_size] at hperm
      have hl : d'.toList.length = L.length := by simpa using hsz
      have := ownR_sorted (C := C) (cells := cells) (m := n) (os := os) (M := d'.toList) hC hown hl
      rw [Array.toArray_toList] at this
      refine ⟨rfl, d'.toList, this.1, by simpa using hperm, ?_, this.2⟩
      rw [List.pairwise_iff_getElem]
      intro i j hi hj hij
      have hi' : i < d'.size := by simpa using hi
      have hj' : j < d'.size := by simpa using hj
      have := hs i j (Nat.zero_le _) hij (by omega)
      rw [getElem!_pos d' j hj', getElem!_pos d' i hi'] at this
      simpa using this

end Go.Proofs.YtpnbibokddhheaaGreat

/-
  The library's slices.SortFunc, laid at this program: written by lay-plain.mjs of the kit.
-/
namespace Go.Proofs
open Go.Shelf
def Tryz.sortHop_ren : Go.Shelf.Ren := ⟨fun | 6 => 68 | 15 => 79 | 14 => 104 | 28 => 118 | 29 => 119 | 20 => 158 | 21 => 159 | 22 => 160 | 23 => 161 | 24 => 162 | 25 => 163 | 26 => 164 | 27 => 165 | 46 => 202 | 47 => 178 | 48 => 179 | 49 => 203 | 50 => 204 | 57 => 220 | n => n, fun | 22 => 42 | 24 => 95 | 25 => 163 | 3 => 3 | 39 => 92 | 0 => 0 | 53 => 213 | 55 => 215 | 4 => 4 | 46 => 207 | 45 => 206 | 50 => 123 | 5 => 5 | 9 => 9 | 66 => 260 | 70 => 264 | 76 => 285 | 77 => 235 | n => n, fun | n => n⟩
theorem Tryz.sortHop : Go.Proofs.SlLaysF0.n6 Tryz.prog Tryz.sortHop_ren := {
  mixed := by kernel_rfl
  f6 := ⟨Tryz.f68.name, by decide, Tryz.func68.trans (congrArg some (by kernel_rfl))⟩
  f14 := ⟨Tryz.f104.name, by decide, Tryz.func104.trans (congrArg some (by kernel_rfl))⟩
  f15 := Tryz.func79.trans (congrArg some (by kernel_rfl))
  f20 := ⟨Tryz.f158.name, by decide, Tryz.func158.trans (congrArg some (by kernel_rfl))⟩
  f21 := ⟨Tryz.f159.name, by decide, Tryz.func159.trans (congrArg some (by kernel_rfl))⟩
  f22 := ⟨Tryz.f160.name, by decide, Tryz.func160.trans (congrArg some (by kernel_rfl))⟩
  f23 := ⟨Tryz.f161.name, by decide, Tryz.func161.trans (congrArg some (by kernel_rfl))⟩
  f24 := ⟨Tryz.f162.name, by decide, Tryz.func162.trans (congrArg some (by kernel_rfl))⟩
  f25 := ⟨Tryz.f163.name, by decide, Tryz.func163.trans (congrArg some (by kernel_rfl))⟩
  f26 := ⟨Tryz.f164.name, by decide, Tryz.func164.trans (congrArg some (by kernel_rfl))⟩
  f27 := ⟨Tryz.f165.name, by decide, Tryz.func165.trans (congrArg some (by kernel_rfl))⟩
  f28 := Tryz.func118.trans (congrArg some (by kernel_rfl))
  f29 := Tryz.func119.trans (congrArg some (by kernel_rfl))
  f46 := ⟨Tryz.f202.name, by decide, Tryz.func202.trans (congrArg some (by kernel_rfl))⟩
  f47 := Tryz.func178.trans (congrArg some (by kernel_rfl))
  f48 := Tryz.func179.trans (congrArg some (by kernel_rfl))
  f49 := ⟨Tryz.f203.name, by decide, Tryz.func203.trans (congrArg some (by kernel_rfl))⟩
  f50 := ⟨Tryz.f204.name, by decide, Tryz.func204.trans (congrArg some (by kernel_rfl))⟩
  f57 := ⟨Tryz.f220.name, by decide, Tryz.func220.trans (congrArg some (by kernel_rfl))⟩
  t0 := Tryz.underlying0
  a0 := Tryz.isAgg0
  z0 := Tryz.sizeOf0
  v0 := Tryz.zeroValue0
  t3 := Tryz.underlying3
  a3 := Tryz.isAgg3
  z3 := Tryz.sizeOf3
  v3 := Tryz.zeroValue3
  t4 := Tryz.underlying4
  a4 := Tryz.isAgg4
  z4 := Tryz.sizeOf4
  v4 := Tryz.zeroValue4
  t5 := Tryz.underlying5
  a5 := Tryz.isAgg5
  z5 := Tryz.sizeOf5
  v5 := Tryz.zeroValue5
  t9 := Tryz.underlying9
  a9 := Tryz.isAgg9
  z9 := Tryz.sizeOf9
  v9 := Tryz.zeroValue9
  t22 := Tryz.underlying42
  a22 := Tryz.isAgg42
  z22 := Tryz.sizeOf42
  v22 := Tryz.zeroValue42
  t25 := Tryz.underlying163
  a25 := Tryz.isAgg163
  z25 := Tryz.sizeOf163
  v25 := Tryz.zeroValue163
  t39 := Tryz.underlying92
  a39 := Tryz.isAgg92
  z39 := Tryz.sizeOf92
  v39 := Tryz.zeroValue92
  t45 := Tryz.underlying206
  a45 := Tryz.isAgg206
  z45 := Tryz.sizeOf206
  v45 := Tryz.zeroValue206
  t46 := Tryz.underlying207
  a46 := Tryz.isAgg207
  z46 := Tryz.sizeOf207
  v46 := Tryz.zeroValue207
  t50 := Tryz.underlying123
  a50 := Tryz.isAgg123
  z50 := Tryz.sizeOf123
  v50 := Tryz.zeroValue123
  t53 := Tryz.underlying213
  a53 := Tryz.isAgg213
  z53 := Tryz.sizeOf213
  v53 := Tryz.zeroValue213
  t55 := Tryz.underlying215
  a55 := Tryz.isAgg215
  z55 := Tryz.sizeOf215
  v55 := Tryz.zeroValue215
  t66 := Tryz.underlying260
  a66 := Tryz.isAgg260
  z66 := Tryz.sizeOf260
  v66 := Tryz.zeroValue260
  t70 := Tryz.underlying264
  a70 := Tryz.isAgg264
  z70 := Tryz.sizeOf264
  v70 := Tryz.zeroValue264
  t76 := Tryz.underlying285
  a76 := Tryz.isAgg285
  z76 := Tryz.sizeOf285
  v76 := Tryz.zeroValue285
  t77 := Tryz.underlying235
  a77 := Tryz.isAgg235
  z77 := Tryz.sizeOf235
  v77 := Tryz.zeroValue235 }
end Go.Proofs

/-
  Hops of two rows, in order, each once: the program's way.
-/
namespace Go.Proofs.YtpnbibokddhheaaGreat
open Go.RowKit Go.Sort Go.Proofs

def cmpHp (a b : Hp) : Int := cmp2 a.lan a.id b.lan b.id
set_option maxHeartbeats 2000000 in
set_option maxRecDepth 100000 in
theorem hopCmp_any (a b : Hp) (w : World) : Calls Tryz.prog 141 #[.agg a.cells.toArray, .agg b.cells.toArray] w fun r w' => r = .returned (.int .i64 (cmpHp a b)) ∧ ∃ q os', w' = grow (w.drewN q) os' := by
  obtain ⟨a1, a2⟩ := a
  obtain ⟨b1, b2⟩ := b
  unfold cmpHp Hp.cells
  simp only
  obtain ⟨w0, hW0⟩ : ∃ w0, (w.alloc (.cells #[.int .i64 a1, .int .i64 a2] 95)).alloc (.cells #[.int .i64 b1, .int .i64 b2] 95) = w0 := ⟨_, rfl⟩
  have hA : Blk w0 w.heap.size 95 #[.int .i64 a1, .int .i64 a2] := by rw [← hW0]; exact (Blk.new w _ _).alloc _
  have hB : Blk w0 (w.heap.size + 1) 95 #[.int .i64 b1, .int .i64 b2] := by rw [← hW0]; exact Blk.size (by simp)
  have Hg : Hid (∃ os, w0 = grow w os) := Lib.hid ⟨_, by rw [← hW0, alloc_eq_grow, alloc_eq_grow, grow_grow]⟩
  obtain ⟨a_0, a_1⟩ : _ ∧ _ := ⟨hA.cell 0, hA.cell 1⟩
  obtain ⟨b_0, b_1⟩ : _ ∧ _ := ⟨hB.cell 0, hB.cell 1⟩
  simp only [List.getElem?_toArray, List.getElem?_cons_zero, List.getElem?_cons_succ] at a_0 a_1 b_0 b_1
  clear hA hB
  go_enter Tryz.func141, Tryz.ntmps141
  go_wp2_with fail
  refine wp_drew_tail 10 (by kernel_rfl) (by kernel_rfl) ?_
  simp only [List.take_succ_cons, List.take_zero, List.drop_succ_cons, List.drop_zero]
  repeat (go_big_quiet_step (exact cmp_q _ _ _ _))
  refine wpQuiet_nil ?_
  rintro w3 ⟨dq, rfl⟩
  go_wp2_with (go_at_call 59; (with_reducible refine Calls.mono (or2_s _ _ _) ?_); rintro r w4 ⟨rfl, rfl⟩)
  go_ret
  obtain ⟨os, hos⟩ := Hg.out
  refine ⟨rfl, dq, os.push (.cells #[.int .i64 (cmpI a1 b1), .int .i64 (cmpI a2 b2)] 3), ?_⟩
  subst hos
  simp [grow, World.alloc, World.drewN]
theorem cmpHp_lt (a b : Hp) : cmpHp a b < 0 ↔ ltH a b := by
  unfold cmpHp ltH
  rw [(cmp2_lt _ _ _ _).1]
theorem ltOf_H {a b : Hp} : (ltOf cmpHp a b = true ↔ ltH a b) ∧ (ltOf cmpHp a b = false ↔ ¬ ltH a b) := by
  unfold ltOf
  rw [← cmpHp_lt]
  simp
theorem swoH : SWO (ltOf cmpHp) where
  irrefl := fun x => ltOf_H.2.2 (ltH_irr x)
  trans := fun x y z h1 h2 => by rw [ltOf_H.1] at *; unfold ltH at *; omega
  ntrans := fun x y z h1 h2 => by rw [ltOf_H.2] at *; unfold ltH at *; omega
instance : Inhabited Hp := ⟨⟨0, 0⟩⟩
theorem call_H (xs : Array Value) (w : World) : (callFunc 141 xs).run Tryz.prog w = .ok (.enter 141 xs) w := callOf Tryz.func141 rfl (by kernel_rfl) xs w
theorem sortHs (v : Value) (M : List Hp) (B : Nat) (w : World) (hown : OwnH w B v M) (hlen : M.length ≤ 2 ^ 20) :
    Calls Tryz.prog 68 #[v, .func (.func 141) #[] #[]] w fun r w' => r = .returned (.tuple #[]) ∧ (∃ N, OwnH w' B v N ∧ N.Perm M ∧ N.Pairwise fun x y => ¬ ltH y x) ∧ w.grownBy w' v.ownBlock := by
  have h := sort_row Tryz.sortHop (C := 2) Tryz.isAgg95 Tryz.sizeOf95 Hp.cells (fun _ => rfl) onesHp cmpHp swoH 141 call_H (fun x y w => hopCmp_any x y w) v M B w hown hlen
  change Calls Tryz.prog 68 _ _ _ at h
  refine h.mono ?_
  rintro r w' ⟨rfl, N, hN, hpN, hsN, hg⟩
  exact ⟨rfl, ⟨N, hN, hpN, hsN.imp fun {x y} h => ltOf_H.2.1 h⟩, hg⟩
set_option maxHeartbeats 4000000 in
set_option maxRecDepth 100000 in
theorem joined_any (A1 A2 : Option Addr) (c1 c2 : Nat) (M1 M2 : List Hp) (w : World) (n1 n2 : Nat) (hn1 : n1 = M1.length) (hn2 : n2 = M2.length) (h1 : RowsH w w.heap.size A1 M1) (h2 : RowsH w w.heap.size A2 M2) (hl1 : M1.length ≤ 2 ^ 18) (hl2 : M2.length ≤ 2 ^ 18) :
    Calls Tryz.prog 97 #[.slice A1 n1 c1, .slice A2 n2 c2] w fun r w' => (∃ v N, r = .returned v ∧ OwnH w' w.heap.size v N ∧ JoinH M1 M2 N) ∧ Below w.heap.size w w' := by
  have hb0 := below_new w (.cells #[.slice A1 n1 c1, .slice A2 n2 c2] 42)
  have hk0 := Blk.new w 42 #[.slice A1 n1 c1, .slice A2 n2 c2]
  obtain ⟨w0, hw0⟩ : ∃ w0, w.alloc (.cells #[.slice A1 n1 c1, .slice A2 n2 c2] 42) = w0 := ⟨_, rfl⟩
  rw [hw0] at hb0 hk0
  have hC := concatHp A1 A2 c1 c2 M1 M2 w.heap.size w0 n1 n2 hn1 hn2 hk0 ((h1.below hb0).more hb0.size) ((h2.below hb0).more hb0.size) hl1 hl2
  have Hb0 := Lib.hid hb0
  have hl := show (M1 ++ M2).length ≤ 2 ^ 20 by rw [List.length_append]; omega
  obtain ⟨M, hM⟩ : ∃ M, M1 ++ M2 = M := ⟨_, rfl⟩
  rw [hM] at hC hl
  have HC := Lib.hid hC
  have Hl := Lib.hid hl
  have HM := Lib.hid hM
  clear hC hl hM hb0 hk0 h1 h2 hn1 hn2 hl1 hl2
  go_enter Tryz.func97, Tryz.ntmps97
  go_wp2_with fail
  with_reducible refine Calls.mono HC.out ?_
  rintro r w1 ⟨v, rfl, ho, hb⟩
  obtain ⟨A5, c5, hv⟩ := ho.shape
  subst hv
  have Ho := Lib.hid ho
  have Hb := Lib.hid (below_trans Hb0.out Hb0.out.size hb)
  have Hs := Lib.hid (show w.heap.size ≤ w0.heap.size from Hb0.out.size)
  clear ho hb HC hw0
  go_wp2_with fail
  with_reducible refine Calls.mono (sortHs _ _ _ _ Ho.out Hl.out) ?_
  rintro r w2 ⟨rfl, ⟨N, hoN, hpN, hsN⟩, hg⟩
  have hnN : M.length = N.length := hpN.length_eq.symm
  have HoN := Lib.hid hoN
  have HbN := Lib.hid (Hb.out.grown hg Hb.out.size (fun m e => by have := (Ho.out.block m e).1; have := Hs.out; omega))
  have HpN := Lib.hid hpN
  have HsN := Lib.hid hsN
  rw [hnN] at HoN ⊢
  have HlN := Lib.hid (show N.length ≤ 2 ^ 20 by rw [← hnN]; exact Hl.out)
  clear hoN hpN hsN hg hnN
  go_wp2_with fail
  with_reducible refine Calls.mono (compactHp A5 c5 N.length N w2 w0.heap.size HoN.out rfl HlN.out) ?_
  rintro r w3 ⟨v, rfl, hov, hg, hvb⟩
  obtain ⟨A6, c6, hv⟩ := hov.shape
  subst hv
  have Hov := Lib.hid hov
  have Hbv := Lib.hid (HbN.out.grown hg HbN.out.size (fun m e => by have := (HoN.out.block m e).1; have := Hs.out; omega))
  clear hov hg hvb
  go_wp2
  go_ret
  exact ⟨⟨_, _, rfl, Hov.out.lower Hs.out, join_cpt (fun x => by rw [HpN.out.mem_iff, ← HM.out, List.mem_append]) HsN.out⟩, Hbv.out⟩

end Go.Proofs.YtpnbibokddhheaaGreat

/-
  Layer 21: the first hops by an edge: the program's way.
-/
namespace Go.Proofs.YtpnbibokddhheaaGreat
open Go.RowKit

theorem shr16 (x : Int) : x >>> (4 : Nat) = x / 16 := by rw [Int.shiftRight_eq_div_pow]; rfl
theorem ext_len (r : Vx) (e : Ed) (L : List Hp) : (extH r e L).length ≤ L.length + 1 := by
  unfold extH
  split <;> simp
theorem zeroPl (w : World) : (zeroValue 135).run Tryz.prog w = .ok (.pointer none) w := by kernel_rfl
def hopF (i : Int) (h : Hp) : Hp := if h.id = 0 then ⟨h.lan, i⟩ else h
theorem blk3 {w : World} {g : Nat} {t : TypeId} {a b c : Value} (h : Blk w g t #[a, b, c]) : w.cell? ⟨g, 0, none⟩ = some a ∧ w.cell? ⟨g, 1, none⟩ = some b ∧ w.cell? ⟨g, 2, none⟩ = some c := ⟨h.cell 0, h.cell 1, h.cell 2⟩
set_option maxHeartbeats 8000000 in
set_option maxRecDepth 100000 in
theorem hops_any (e1 e2 e3 e4 e5 ri : Int) (ps be bf : Nat) (F : Fnd) (B : Nat) (w : World) (hk : Blk w ps 130 #[.int .i64 1, .int .i64 ri, .map (some be), .map (some bf)]) (hF : FndAt w B bf F) (L : List Hp)
    (hx : (⟨e1, e2⟩ : Vx) ≠ ⟨1, ri⟩ → ∃ x, getF ⟨e1, e2⟩ F = some x ∧ x.pl.next = L) (hl : L.length ≤ 2 ^ 17) :
    Calls Tryz.prog 98 #[.pointer (some ⟨ps, 0, none⟩), .agg #[.int .i64 e1, .int .i64 e2, .int .i64 e3, .int .i64 e4, .int .i64 e5]] w fun r w' => (∃ v, r = .returned v ∧ OwnH w' w.heap.size v (extH ⟨1, ri⟩ ⟨e1, e2, e3, e4, e5⟩ L)) ∧ Below w.heap.size w w' := by
  have hb0 := below_new w (.cells #[.int .i64 e1, .int .i64 e2, .int .i64 e3, .int .i64 e4, .int .i64 e5] 133)
  have hk0 := Blk.new w 133 #[.int .i64 e1, .int .i64 e2, .int .i64 e3, .int .i64 e4, .int .i64 e5]
  obtain ⟨w0, hw0⟩ : ∃ w0, w.alloc (.cells #[.int .i64 e1, .int .i64 e2, .int .i64 e3, .int .i64 e4, .int .i64 e5] 133) = w0 := ⟨_, rfl⟩
  rw [hw0] at hb0 hk0
  have hks := hk.below hb0 hk.lt
  have hF0 := hF.below hb0
  obtain ⟨s0, s1, s2, s3, -⟩ := hks.cells4
  obtain ⟨a0, a1, a2, a3, a4, -⟩ := hk0.cells5
  have Hb0 := Lib.hid hb0
  have HK0 := Lib.hid hk0
  have HF0 := Lib.hid hF0
  have Hl := Lib.hid hl
  have hsh := shr16 e4
  by_cases he : (⟨e1, e2⟩ : Vx) = ⟨1, ri⟩
  · have heq := fun w => eqVxN e1 e2 1 ri w
    rw [decide_eq_true he] at heq
    have He := Lib.hid (show extH ⟨1, ri⟩ ⟨e1, e2, e3, e4, e5⟩ L = [⟨e4 / 16, 0⟩] by unfold extH; rw [if_pos (show (⟨e1, e2, e3, e4, e5⟩ : Ed).src = ⟨1, ri⟩ from he)])
    clear hk hF hx hl hb0 hk0 hks hF0 he
    go_enter Tryz.func98, Tryz.ntmps98
    go_wp2
    go_quiet (fail)
    go_wp2
    go_ret
    refine ⟨⟨_, rfl, ?_⟩, ?_⟩
    · rw [He.out]
      exact OwnR.lit (cells := Hp.cells) (C := 2) (fun _ => rfl) (L := [⟨e4 / 16, 0⟩]) (Blk.new _ _ _) (by have := Hb0.out.size; simpa using this) rfl (by decide) (by unfold maxLen; omega)
    · exact below_trans (below_drewN Hb0.out _) (below_drewN Hb0.out _).size (below_new _ _)
  · obtain ⟨x, hgx, hxL⟩ := hx he
    have heq := fun w => eqVxN e1 e2 1 ri w
    rw [decide_eq_false he] at heq
    have He := Lib.hid (show extH ⟨1, ri⟩ ⟨e1, e2, e3, e4, e5⟩ L = L.map (hopF e4) by unfold extH; rw [if_neg (show ¬ (⟨e1, e2, e3, e4, e5⟩ : Ed).src = ⟨1, ri⟩ from he)]; rfl)
    obtain ⟨hpb, -, hpo⟩ := hF0.get hgx
    obtain ⟨p, A, c, ⟨pa, pn⟩, pd⟩ := x
    simp only at hxL
    subst hxL
    unfold PlW.cells at hpb
    unfold PlW.nv at hpo
    simp only at hpb hpo
    obtain ⟨nL, hnL⟩ : ∃ nL, pn.length = nL := ⟨_, rfl⟩
    rw [hnL] at hpb
    obtain ⟨b0, b1, b2⟩ := blk3 hpb
    have hlk := fun n => (hF0.map.drewN n).look_run keyVx Tryz.underlying128 (zeroPl _) ⟨e1, e2⟩ false
    have hgv : getL (⟨e1, e2⟩ : Vx) (valsF F) = some (.pointer (some ⟨p, 0, none⟩)) := by rw [getL_vals, hgx]; rfl
    rw [hgv] at hlk
    simp only [Bool.false_eq_true, if_false, Vx.enc, Option.getD] at hlk
    have HR := Lib.hid (OwnR.rows (C := 2) (cells := Hp.cells) (fun _ => rfl) hpo).2
    have HnL := Lib.hid hnL
    clear hk hF hx hl hb0 hk0 hks hF0 he hgx hpb hpo hgv hnL
    go_enter Tryz.func98, Tryz.ntmps98
    go_wp2
    go_quiet (fail)
    go_wp2
    go_quiet (fail)
    go_wp2
    clear s0 s1 s2 s3 a0 a1 a2 a3 a4 b0 b1 b2 heq hlk hsh
    have hnl2 : (nL : Int) ≤ 131072 := by have := Hl.out; have := HnL.out; omega
    go_loopw [5, 32] (fun v i wr => ∃ k : Nat, i = .int .i64 k ∧ k ≤ nL ∧ OwnH wr w0.heap.size v ((pn.take k).map (hopF e4)) ∧ Below w0.heap.size w0 wr) (fun _ i _ => nL - (intOf i).toNat)
    case atStart => exact ⟨0, rfl, Nat.zero_le _, OwnR.nil _ _, below_drewN (below_drewN (Below.refl _ _) _) _⟩
    case round =>
      obtain ⟨k, rfl, hk, hown, hb⟩ := hrel
      obtain ⟨A7, c7, hv7⟩ := hown.shape
      subst hv7
      obtain ⟨Q, hQ⟩ : ∃ Q, (pn.take k).map (hopF e4) = Q := ⟨_, rfl⟩
      have hQl : Q.length ≤ 131072 := by rw [← hQ, List.length_map, List.length_take]; omega
      rw [hQ] at hown ⊢
      obtain ⟨nQ, hnQ⟩ : ∃ n, Q.length = n := ⟨_, rfl⟩
      rw [hnQ] at hown ⊢
      have HQ := Lib.hid hQ
      have HQl := Lib.hid hQl
      have HnQ := Lib.hid hnQ
      by_cases hlt : k < nL
      · have hkL : k < pn.length := by rw [HnL.out]; exact hlt
        have hki : (k : Int) < (nL : Int) := by omega
        obtain ⟨g, o, hA, -, x0, x1⟩ := row_hp ((HR.out.below hb).more hb.size) k hkL
        subst hA
        have hmore : (pn.take (k + 1)).map (hopF e4) = Q ++ [hopF e4 pn[k]] := by
          rw [List.take_succ_eq_append_getElem hkL, List.map_append, hQ]
          rfl
        obtain ⟨⟨h1, h2⟩, hh⟩ : ∃ h, pn[k]'hkL = h := ⟨_, rfl⟩
        rw [hh] at x0 x1 hmore
        simp only at x0 x1
        have Hmore := Lib.hid hmore
        have Hlt := Lib.hid hlt
        have hb6 := below_new wr (.cells #[.int .i64 h1, .int .i64 h2] 95)
        have hk6 := Blk.new wr 95 #[.int .i64 h1, .int .i64 h2]
        obtain ⟨w6, hw6⟩ : ∃ w6, wr.alloc (.cells #[.int .i64 h1, .int .i64 h2] 95) = w6 := ⟨_, rfl⟩
        rw [hw6] at hb6 hk6
        have hke := HK0.out.below hb (by have := HK0.out.lt; exact this)
        have hke6 := hke.below hb6 hke.lt
        obtain ⟨a0, a1, a2, a3, a4, -⟩ := hke6.cells5
        obtain ⟨b0, b1, bf0, bf1⟩ := hk6.cells2
        have HB6 := Lib.hid (below_trans hb hb.size hb6)
        have HO6 := Lib.hid (hown.below hb6)
        have HOb := Lib.hid hown.block
        have HS6 := Lib.hid (show w0.heap.size ≤ wr.heap.size from hb.size)
        have HK6 := Lib.hid hk6
        clear hown hb hQ hQl hnQ hkL hh hmore hb6 hk6 hke hke6 hlt hk
        by_cases h20 : h2 = 0
        · have hz : (h2 == 0) = true := by simp [h20]
          have Hh := Lib.hid (show hopF e4 ⟨h1, h2⟩ = ⟨h1, e4⟩ by simp [hopF, h20])
          clear h20
          obtain ⟨w7, hw7⟩ : ∃ w7, w6.setCell ⟨wr.heap.size, 1, none⟩ (.int .i64 e4) = w7 := ⟨_, rfl⟩
          have hk7 := (HK6.out.set_ 1 (.int .i64 e4)).to (cs' := #[.int .i64 h1, .int .i64 e4]) (by simp)
          have hb7 := HB6.out.setCell (p := ⟨wr.heap.size, 1, none⟩) HS6.out (.int .i64 e4)
          have ho7 := OwnR.far HO6.out (p := ⟨wr.heap.size, 1, none⟩) (fun e => Nat.lt_irrefl _ (HOb.out _ e).2) (.int .i64 e4)
          rw [hw7] at hk7 hb7 ho7
          have HK7 := Lib.hid hk7
          have HB7 := Lib.hid hb7
          have HO7 := Lib.hid ho7
          obtain ⟨d0, d1, -, -⟩ := hk7.cells2
          clear hk7 hb7 ho7
          go_wp2_with (at_builtin; (refine app_row (e := 95) Hp.cells (fun _ => rfl) (by decide) (bytes := 16) (by decide) infoH rfl Tryz.underlying42 onesHp (by rfl) _ _ (by rfl) w0.heap.size _ Q (by rfl) (HO7.out.alloc _) w7.heap.size ⟨h1, e4⟩ (by rfl) (Blk.new _ _ _) (by have := HQl.out; omega) (by have := HB7.out.size; simp; omega) ?_); intro v9 w9 hown9 hg9 hor9; have HO9 := Lib.hid hown9; have HB9 := Lib.hid ((HB7.out.alloc HB7.out.size _).grown hg9 (by have := HB7.out.size; simp; omega) (fun m e => (HO7.out.block m e).1)); clear hown9 hg9 hor9)
          go_roundw
          case measure => have := Hlt.out; simp [intOf]; omega
          case rel => exact ⟨k + 1, by go_num, Hlt.out, by rw [Hmore.out, Hh.out]; exact HO9.out, HB9.out⟩
        · have Hh := Lib.hid (show hopF e4 ⟨h1, h2⟩ = ⟨h1, h2⟩ by simp [hopF, h20])
          have hz : (h2 == 0) = false := by simpa using h20
          clear h20
          go_wp2_with (at_builtin; (refine app_row (e := 95) Hp.cells (fun _ => rfl) (by decide) (bytes := 16) (by decide) infoH rfl Tryz.underlying42 onesHp (by rfl) _ _ (by rfl) w0.heap.size _ Q (by rfl) (HO6.out.alloc _) w6.heap.size ⟨h1, h2⟩ (by rfl) (Blk.new _ _ _) (by have := HQl.out; omega) (by have := HB6.out.size; simp; omega) ?_); intro v9 w9 hown9 hg9 hor9; have HO9 := Lib.hid hown9; have HB9 := Lib.hid ((HB6.out.alloc HB6.out.size _).grown hg9 (by have := HB6.out.size; simp; omega) (fun m e => (HO6.out.block m e).1)); clear hown9 hg9 hor9)
          go_roundw
          case measure => have := Hlt.out; simp [intOf]; omega
          case rel => exact ⟨k + 1, by go_num, Hlt.out, by rw [Hmore.out, Hh.out]; exact HO9.out, HB9.out⟩
      · have hke : k = nL := by omega
        subst hke
        have hkk : ¬ (k : Int) < (k : Int) := by omega
        rw [← HnL.out, List.take_length] at hQ
        have HQ2 := Lib.hid hQ
        have Hown := Lib.hid hown
        have Hb := Lib.hid hb
        clear hown hb hQ hQl hnQ hlt
        go_wp2
        go_ret
        exact ⟨⟨_, rfl, by rw [He.out, HQ2.out]; exact Hown.out.lower Hb0.out.size⟩, below_trans Hb0.out Hb0.out.size Hb.out⟩

end Go.Proofs.YtpnbibokddhheaaGreat
