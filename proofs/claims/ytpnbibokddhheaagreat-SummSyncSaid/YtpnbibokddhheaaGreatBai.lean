/-
  Layer 7: the document's database: a key is dropped, a description is put.
-/
import Derived.Test.YtpnbibokddhheaaGreatProg
import Derived.WalkLawsBesides
import Derived.Test.YtpnbibokddhheaaGreatBaa
import Derived.Test.YtpnbibokddhheaaGreatBab
import Derived.Test.YtpnbibokddhheaaGreatBag
import Derived.Test.YtpnbibokddhheaaGreatBah
namespace Go.Proofs.YtpnbibokddhheaaGreat
open Go.RowKit

theorem findX_iff {k : K3} {L : List Lsa} (hn : (L.map keyX).Nodup) (j : Nat) (hj : j < L.length) : ((j : Int) = findX k L) ↔ keyX L[j] = k := by
  rcases findX_get (k := k) (L := L) with ⟨h1, h2, -⟩ | ⟨i, hi, h1, -, h3, -⟩
  · rw [getX_none2] at h2
    exact ⟨fun e => by omega, fun e => absurd e (h2 _ (List.getElem_mem hj))⟩
  · rw [h1]
    constructor
    · intro e
      have : j = i := by omega
      subst this
      exact h3
    · intro e
      have h4 := List.pairwise_iff_getElem.1 (show (L.map keyX).Pairwise (· ≠ ·) from hn)
      rcases Nat.lt_trichotomy i j with h5 | h5 | h5
      · exact absurd (by rw [List.getElem_map, List.getElem_map, h3, e]) (h4 i j (by simpa using hi) (by simpa using hj) h5)
      · rw [h5]
      · exact absurd (by rw [List.getElem_map, List.getElem_map, h3, e]) (h4 j i (by simpa using hj) (by simpa using hi) h5)
def RdTo (w' : World) (q : Nat) (room : Int) (L : List Lsa) : Prop := ∃ v', RdAt w' q room v' L
theorem dropX_snoc {k : K3} {L : List Lsa} (j : Nat) (hj : j < L.length) : dropX k (L.take (j + 1)) = dropX k (L.take j) ++ (if keyX L[j] = k then [] else [L[j]]) := by
  rw [List.take_succ_eq_append_getElem hj]
  unfold dropX
  rw [List.filter_append]
  congr 1
  by_cases h : keyX L[j] = k
  · rw [if_pos h, List.filter_cons_of_neg (by simp [h])]; rfl
  · rw [if_neg h, List.filter_cons_of_pos (by simpa using h)]; rfl

set_option maxHeartbeats 8000000 in
set_option maxRecDepth 100000 in
theorem rdDrop (q : Nat) (room : Int) (v : Value) (L : List Lsa) (k1 k2 k3 : Int) (w : World) (hR : RdAt w q room v L) (hs : sortedX L) (hlen : L.length ≤ 2 ^ 20) :
    Calls Tryz.prog 76 #[.pointer (some ⟨q, 0, none⟩), .agg #[.int .i64 k1, .int .i64 k2, .int .i64 k3]] w fun r w' => r = .returned (.bool (decide (0 ≤ findX ⟨k1, k2, k3⟩ L))) ∧ RdTo w' q room (dropX ⟨k1, k2, k3⟩ L) ∧ w.grownBy w' (some q) := by
  obtain ⟨A, cap, hv⟩ := hR.xs.own.shape
  subst hv
  obtain ⟨w0, hW0⟩ : ∃ w0, w.alloc (.cells #[.int .i64 k1, .int .i64 k2, .int .i64 k3] 69) = w0 := ⟨_, rfl⟩
  have hb0 := below_new w (.cells #[.int .i64 k1, .int .i64 k2, .int .i64 k3] 69)
  have hR1 := hR.keep hb0
  have hk0 := Blk.new w 69 #[.int .i64 k1, .int .i64 k2, .int .i64 k3]
  rw [hW0] at hR1 hk0 hb0
  obtain ⟨z, hz⟩ : ∃ z, findX ⟨k1, k2, k3⟩ L = z := ⟨_, rfl⟩
  have HF := Lib.hid (rdFind q room _ L k1 k2 k3 w0 hR1 hlen hz)
  have Hiff := Lib.hid (fun j hj => findX_iff (k := ⟨k1, k2, k3⟩) hs.keys j hj)
  rw [hz] at Hiff ⊢
  have HR1 := Lib.hid hR1
  have Hb0 := Lib.hid hb0
  obtain ⟨y0, y1, y2⟩ : _ ∧ _ ∧ _ := ⟨hk0.cell 0, hk0.cell 1, hk0.cell 2⟩
  simp only [List.getElem?_toArray, List.getElem?_cons_zero, List.getElem?_cons_succ] at y0 y1 y2
  clear hR hR1 hz hk0 hb0 hs
  go_enter Tryz.func76, Tryz.ntmps76
  go_wp2_with fail
  with_reducible refine Calls.mono HF.out ?_
  rintro r w1 ⟨rfl, hb1⟩
  have HR := Lib.hid (HR1.out.keep hb1)
  have Hb1 := Lib.hid (below_trans Hb0.out Hb0.out.size hb1)
  clear hb1 y0 y1 y2
  go_wp2
  go_loopw [6, 7] (fun o i wr => ∃ (j : Nat) (O : List Lsa), i = .int .i64 j ∧ j ≤ L.length ∧ O = dropX ⟨k1, k2, k3⟩ (L.take j) ∧ O.length ≤ j ∧ XsAt wr (q + 1) o O ∧ (∀ m, o.ownBlock = some m → w1.heap.size ≤ m) ∧ Below w1.heap.size w1 wr) (fun _ i _ => L.length - (intOf i).toNat)
  case atStart => exact ⟨0, [], rfl, Nat.zero_le _, rfl, Nat.zero_le _, XsAt.nil _ _, (by intro m e; cases e), Below.refl _ _⟩
  case round =>
    obtain ⟨j, O, rfl, hj, hO, hOl, hxs, hnew, hb⟩ := hrel
    obtain ⟨A6, c6, hv6⟩ := hxs.own.shape
    subst hv6
    have hRr := HR.out.keep hb
    have hc := hRr.cell.1
    have hcf := hRr.ptr.frozen 0
    have HO := Lib.hid hO
    have HOl := Lib.hid hOl
    have Hxs := Lib.hid hxs
    have Hnew := Lib.hid hnew
    have Hb := Lib.hid hb
    by_cases hlt : j < L.length
    · obtain ⟨g, c, hv, z0, z1, z2, z3, z4, z5, z6, z7, z8⟩ := row_at hRr.xs.own j hlt
      injection hv with hA hn hcap
      subst hA hcap
      have hjl : (j : Int) < (L.length : Int) := by omega
      have hiff := Hiff.out j hlt
      have hsn := dropX_snoc (k := ⟨k1, k2, k3⟩) j hlt
      have hmem := List.getElem_mem hlt
      have hXr := hRr.xs.rows _ hmem
      have hXf := hRr.xs.from_ _ hmem
      have hXl := hRr.xs.lens _ hmem
      have hX1 := HR.out.xs.rows _ hmem
      have hjl2 : j ≤ 2 ^ 20 := by omega
      generalize L[j] = e at *
      have hfar : farX (.slice A6 O.length c6) e := ⟨fun a ea h0 e2 => by have := row_lt2 hX1.1 ea h0; have := hnew _ e2; omega, fun a ea h0 e2 => by have := row_lt2 hX1.2 ea h0; have := hnew _ e2; omega⟩
      obtain ⟨⟨e1, e2, e3, e4, e5, e6, e7⟩, ka, kc, ls, ma, mc, ms⟩ := e
      have HX := Lib.hid (show _ ∧ _ ∧ _ ∧ _ from ⟨hXr, hfar, hXf, hXl⟩)
      have Hlt := Lib.hid hlt
      simp only at z0 z1 z2 z3 z4 z5 z6 z7 z8
      clear hRr hO hOl hxs hnew hb hn hXr hfar hXf hXl hX1 hmem hlt
      by_cases hk : keyX ⟨⟨e1, e2, e3, e4, e5, e6, e7⟩, ka, kc, ls, ma, mc, ms⟩ = ⟨k1, k2, k3⟩
      · have hjz : (j : Int) = z := hiff.2 hk
        rw [if_pos hk, List.append_nil] at hsn
        have Hsn := Lib.hid hsn
        subst hjz
        clear hsn hk hiff
        go_wp2
        go_roundw
        case measure => have := Hlt.out; simp [intOf]; omega
        case rel => exact ⟨j + 1, O, by go_num, Hlt.out, by rw [Hsn.out, HO.out], by have := HOl.out; omega, Hxs.out, Hnew.out, Hb.out⟩
      · have hjz : ¬ (j : Int) = z := fun e => hk (hiff.1 e)
        rw [if_neg hk] at hsn
        have Hsn := Lib.hid hsn
        obtain ⟨ln, hln⟩ : ∃ ln, ls.length = ln := ⟨_, rfl⟩
        obtain ⟨mn, hmn⟩ : ∃ mn, ms.length = mn := ⟨_, rfl⟩
        rw [hln] at z7
        rw [hmn] at z8
        have Hln := Lib.hid (show _ ∧ _ from ⟨hln, hmn⟩)
        have Hbk := Lib.hid (show Blk (wr.alloc (.cells #[.int .i64 e1, .int .i64 e2, .int .i64 e3, .int .i64 e4, .int .i64 e5, .int .i64 e6, .int .i64 e7, .slice ka ln kc, .slice ma mn mc] 31)) wr.heap.size 31 (Lsa.cells ⟨⟨e1, e2, e3, e4, e5, e6, e7⟩, ka, kc, ls, ma, mc, ms⟩).toArray by unfold Lsa.cells; rw [← hln, ← hmn]; exact Blk.new _ _ _)
        have Hba := Lib.hid (below_new wr (.cells #[.int .i64 e1, .int .i64 e2, .int .i64 e3, .int .i64 e4, .int .i64 e5, .int .i64 e6, .int .i64 e7, .slice ka ln kc, .slice ma mn mc] 31))
        clear hsn hk hiff hln hmn
        go_wp2_with (at_builtin; (refine app_row Lsa.cells (fun _ => rfl) (by decide) (bytes := 104) (by decide) infoX rfl Tryz.underlying22 onesX (by rfl) _ _ (by rfl) (q + 1) _ O (by rfl) (Hxs.out.own.below Hba.out) wr.heap.size ⟨⟨e1, e2, e3, e4, e5, e6, e7⟩, ka, kc, ls, ma, mc, ms⟩ (by rfl) Hbk.out (by have := HOl.out; omega) (by have := HR.out.ptr.lt; have := Hb.out.size; have := Hba.out.size; omega) ?_); intro v6 w6 hown6 hg6 hor6; have Hx6 := Lib.hid ((Hxs.out.keep Hba.out).app hown6 hg6 hor6 (HX.out.1.keep Hba.out) HX.out.2.1 HX.out.2.2.1 HX.out.2.2.2); have Hn6 := Lib.hid (own_new Hnew.out hor6 (Nat.le_trans Hb.out.size Hba.out.size)); have Hb6 := Lib.hid ((below_trans Hb.out Hb.out.size Hba.out).grown hg6 (Nat.le_trans Hb.out.size Hba.out.size) (fun m hm => Hnew.out m hm)); clear hown6 hg6 hor6)
        go_roundw
        case measure => have := Hlt.out; simp [intOf]; omega
        case rel => exact ⟨j + 1, _, by go_num, Hlt.out, by rw [Hsn.out, HO.out], by have := HOl.out; simp; omega, Hx6.out, Hn6.out, Hb6.out⟩
    · have hjj : j = L.length := by omega
      have hjl : ¬ (j : Int) < (L.length : Int) := by omega
      have hO2 : O = dropX ⟨k1, k2, k3⟩ L := by rw [hO, hjj, List.take_length]
      have HO2 := Lib.hid hO2
      have HRr := Lib.hid hRr
      clear hRr hO hOl hxs hnew hb hO2 hjj hlt
      go_wp2
      go_ret
      exact ⟨rfl, ⟨_, by rw [← HO2.out]; exact HRr.out.store Hxs.out⟩, grown_trans (grown_below (World.grownBy.refl w (some q)) (below_trans Hb1.out Hb1.out.size Hb.out)) (grown_set _ q 0 _)⟩

end Go.Proofs.YtpnbibokddhheaaGreat

/-
  Layer 7: the document's database: a description is put: its way.
-/
namespace Go.Proofs.YtpnbibokddhheaaGreat
open Go.RowKit Go.Sort

theorem insX_step {z x : Lsa} {L : List Lsa} (h : lessK (keyX z) (keyX x) = true) : insX z (x :: L) = z :: x :: L := by
  unfold insX
  rw [if_pos h]
theorem insX_skip {z x : Lsa} {L : List Lsa} (h : lessK (keyX z) (keyX x) = false) : insX z (x :: L) = x :: insX z L := by
  conv => lhs; unfold insX
  rw [if_neg (by rw [h]; decide)]
/-- how far it is: what was laid out, and whether it was put -/
structure PutR (V : VX) (L : List Lsa) (k : Nat) (O : List Lsa) (D : Bool) : Prop where
  no : D = false → O = L.take k ∧ ∀ z : Lsa, vX z = V → insX z L = L.take k ++ insX z (L.drop k)
  yes : D = true → ∃ z : Lsa, vX z = V ∧ insX z L = O ++ L.drop k
  len : O.length ≤ k + 1
theorem PutR.start (V : VX) (L : List Lsa) : PutR V L 0 [] false := ⟨fun _ => ⟨rfl, fun _ _ => rfl⟩, (fun h => by cases h), by simp⟩
section
variable {V : VX} {L O : List Lsa} {k : Nat}
theorem PutR.more (h : PutR V L k O true) (hk : k < L.length) (ho : O.length ≤ k + 1) : PutR V L (k + 1) (O ++ [L[k]]) true := by
  refine ⟨(fun h => by cases h), fun _ => ?_, by simp; omega⟩
  obtain ⟨z, hz, he⟩ := h.yes rfl
  refine ⟨z, hz, ?_⟩
  rw [he, List.drop_eq_getElem_cons hk, List.append_assoc]
  rfl
theorem PutR.skip (h : PutR V L k O false) (hk : k < L.length) (hl : lessK (keyV V) (keyX L[k]) = false) : PutR V L (k + 1) (O ++ [L[k]]) false := by
  obtain ⟨hO, hz⟩ := h.no rfl
  subst hO
  refine ⟨fun _ => ⟨(List.take_succ_eq_append_getElem hk).symm, fun z hv => ?_⟩, (fun h => by cases h), by rw [List.length_append, List.length_take]; simp; omega⟩
  have hkz : keyX z = keyV V := by rw [← hv]; rfl
  rw [hz z hv, List.drop_eq_getElem_cons hk, insX_skip (by rw [hkz]; exact hl), List.take_succ_eq_append_getElem hk, List.append_assoc]
  rfl
theorem PutR.put (h : PutR V L k O false) (hk : k < L.length) (hl : lessK (keyV V) (keyX L[k]) = true) {z : Lsa} (hv : vX z = V) : PutR V L (k + 1) (O ++ [z] ++ [L[k]]) true := by
  obtain ⟨hO, hz⟩ := h.no rfl
  subst hO
  refine ⟨fun h => (by cases h), fun _ => ⟨z, hv, ?_⟩, by rw [List.length_append, List.length_append, List.length_take]; simp; omega⟩
  have hkz : keyX z = keyV V := by rw [← hv]; rfl
  rw [hz z hv, List.drop_eq_getElem_cons hk, insX_step (by rw [hkz]; exact hl)]
  simp
theorem PutR.end_no (h : PutR V L L.length O false) {z : Lsa} (hv : vX z = V) : insX z L = O ++ [z] := by
  obtain ⟨hO, hz⟩ := h.no rfl
  rw [hz z hv, hO, List.drop_length]
  rfl
theorem PutR.end_yes (h : PutR V L L.length O true) : ∃ z : Lsa, vX z = V ∧ insX z L = O := by
  obtain ⟨z, hz, he⟩ := h.yes rfl
  exact ⟨z, hz, by rw [he, List.drop_length, List.append_nil]⟩
end
/-- sealed, it stands in the document's database -/
def RdPutTo (B : Nat) (w' : World) (q : Nat) (room : Int) (h : Hd) (ls : List Lnk) (ms : List Int) (L : List Lsa) : Prop :=
  ∃ v' z, vX z = (sealedH h ls ms, ls, ms) ∧ RdAt w' q room v' (insX z (dropX (keyH h) L)) ∧ ∀ m, v'.ownBlock = some m → B ≤ m
set_option maxHeartbeats 4000000 in
set_option maxRecDepth 100000 in
theorem rdPut_bad (q : Nat) (y1 y2 y3 y4 y5 y6 y7 : Int) (ka : Option Addr) (kc : Nat) (ls : List Lnk) (ma : Option Addr) (mc : Nat) (ms : List Int) (w : World) (hl : RowsAt 4 Lnk.cells w w.heap.size ka ls) (hm : RowsAt 1 icell w w.heap.size ma ms) (hlm : ls.length ≤ maxLen) (hmm : ms.length ≤ maxLen) (nl nm : Nat) (hnl : nl = ls.length) (hnm : nm = ms.length) (ht : rightB ⟨⟨y1, y2, y3, y4, y5, y6, y7⟩, ka, kc, ls, ma, mc, ms⟩ = false) :
    Calls Tryz.prog 36 #[.pointer (some ⟨q, 0, none⟩), .agg #[.int .i64 y1, .int .i64 y2, .int .i64 y3, .int .i64 y4, .int .i64 y5, .int .i64 y6, .int .i64 y7, .slice ka nl kc, .slice ma nm mc]] w fun r w' => r = .returned (.int .i64 1) ∧ Below w.heap.size w w' := by
  obtain ⟨w1, hW1⟩ : ∃ w1, w.alloc (.cells #[.int .i64 y1, .int .i64 y2, .int .i64 y3, .int .i64 y4, .int .i64 y5, .int .i64 y6, .int .i64 y7, .slice ka nl kc, .slice ma nm mc] 31) = w1 := ⟨_, rfl⟩
  have hk1 := Blk.new w 31 #[.int .i64 y1, .int .i64 y2, .int .i64 y3, .int .i64 y4, .int .i64 y5, .int .i64 y6, .int .i64 y7, .slice ka nl kc, .slice ma nm mc]
  have hb1 := below_new w (.cells #[.int .i64 y1, .int .i64 y2, .int .i64 y3, .int .i64 y4, .int .i64 y5, .int .i64 y6, .int .i64 y7, .slice ka nl kc, .slice ma nm mc] 31)
  rw [hW1] at hk1 hb1
  have HRi := Lib.hid (refRight_any y1 y2 y3 y4 y5 y6 y7 ka kc ls ma mc ms w1 w1.heap.size (rows_keep hl hb1) (rows_keep hm hb1) (Nat.le_refl _) hlm hmm nl nm hnl hnm ht)
  obtain ⟨z0, z1, z2, z3, z4, z5, z6, z7, z8, zf⟩ := blk9 hk1
  have Hb1 := Lib.hid hb1
  clear hk1 hb1 hl hm hlm hmm hnl hnm ht
  go_enter Tryz.func36, Tryz.ntmps36
  go_wp2_with (go_at_call 73; (with_reducible refine Calls.mono HRi.out ?_); rintro r w2 ⟨rfl, hb2⟩; have Hb2 := Lib.hid (below_trans Hb1.out Hb1.out.size hb2); clear hb2)
  go_ret
  exact ⟨rfl, Hb2.out⟩
set_option maxHeartbeats 8000000 in
set_option maxRecDepth 100000 in
theorem rdPut_full (q : Nat) (room : Int) (v : Value) (L : List Lsa) (y1 y2 y3 y4 y5 y6 y7 : Int) (ka : Option Addr) (kc : Nat) (ls : List Lnk) (ma : Option Addr) (mc : Nat) (ms : List Int) (w : World) (hR : RdAt w q room v L) (hl : RowsAt 4 Lnk.cells w w.heap.size ka ls) (hm : RowsAt 1 icell w w.heap.size ma ms) (hlm : ls.length ≤ 1000) (hmm : ms.length ≤ 1000) (nl nm : Nat) (hnl : nl = ls.length) (hnm : nm = ms.length) (ht : rightB ⟨⟨y1, y2, y3, y4, y5, y6, y7⟩, ka, kc, ls, ma, mc, ms⟩ = true) (hlen : L.length ≤ 2 ^ 20) (z : Int) (hf : findX ⟨y2, y3, y4⟩ L = z) (hz : z < 0) (hroom : room ≤ (L.length : Int)) :
    Calls Tryz.prog 36 #[.pointer (some ⟨q, 0, none⟩), .agg #[.int .i64 y1, .int .i64 y2, .int .i64 y3, .int .i64 y4, .int .i64 y5, .int .i64 y6, .int .i64 y7, .slice ka nl kc, .slice ma nm mc]] w fun r w' => r = .returned (.int .i64 7) ∧ Below w.heap.size w w' := by
  obtain ⟨A, cap, hv⟩ := hR.xs.own.shape
  subst hv
  obtain ⟨w1, hW1⟩ : ∃ w1, w.alloc (.cells #[.int .i64 y1, .int .i64 y2, .int .i64 y3, .int .i64 y4, .int .i64 y5, .int .i64 y6, .int .i64 y7, .slice ka nl kc, .slice ma nm mc] 31) = w1 := ⟨_, rfl⟩
  have hk1 := Blk.new w 31 #[.int .i64 y1, .int .i64 y2, .int .i64 y3, .int .i64 y4, .int .i64 y5, .int .i64 y6, .int .i64 y7, .slice ka nl kc, .slice ma nm mc]
  have hb1 := below_new w (.cells #[.int .i64 y1, .int .i64 y2, .int .i64 y3, .int .i64 y4, .int .i64 y5, .int .i64 y6, .int .i64 y7, .slice ka nl kc, .slice ma nm mc] 31)
  rw [hW1] at hk1 hb1
  have HRi := Lib.hid (refRight_any y1 y2 y3 y4 y5 y6 y7 ka kc ls ma mc ms w1 w1.heap.size (rows_keep hl hb1) (rows_keep hm hb1) (Nat.le_refl _) (by unfold maxLen; omega) (by unfold maxLen; omega) nl nm hnl hnm ht)
  obtain ⟨z0, z1, z2, z3, z4, z5, z6, z7, z8, zf⟩ := blk9 hk1
  have HF := Lib.hid (fun W (h : RdAt W q room (.slice A L.length cap) L) => rdFind q room _ L y2 y3 y4 W h hlen hf)
  have hR1 := hR.keep hb1
  have hgq : q < w.heap.size := hR.ptr.lt
  have HR1 := Lib.hid hR1
  have Hb1 := Lib.hid hb1
  have Hk1 := Lib.hid hk1
  have Hl := Lib.hid hl
  have Hm := Lib.hid hm
  have Hn := Lib.hid (show nl = ls.length ∧ nm = ms.length ∧ ls.length ≤ 1000 ∧ ms.length ≤ 1000 from ⟨hnl, hnm, hlm, hmm⟩)
  have Ht := Lib.hid ht
  clear hR hR1 hb1 hk1 hl hm hnl hnm hlm hmm ht hf
  go_enter Tryz.func36, Tryz.ntmps36
  go_wp2_with fail
  with_reducible refine Calls.mono HRi.out ?_
  rintro r w2 ⟨rfl, hb2⟩
  have HR2 := Lib.hid (HR1.out.keep hb2)
  have Hb2 := Lib.hid (below_trans Hb1.out Hb1.out.size hb2)
  have Hk2 := Lib.hid (Hk1.out.below hb2 Hk1.out.lt)
  clear hb2 z0 z1 z2 z3 z4 z5 z6 z7 z8 zf
  have CK := Lib.hid (fun w0 a b c d e f g x1 n1 c1 x2 n2 c2 dd os => Calls.regrown_of (w := w0) (d := dd) (os := os) (refKey_any a b c d e f g x1 n1 c1 x2 n2 c2 _))
  have CF := Lib.hid (fun dd os => Calls.regrown_of (w := w2) (d := dd) (os := os) (HF.out _ (HR2.out.keep (below_regrown w2 dd os))))
  obtain ⟨z0, z1, z2, z3, z4, z5, z6, z7, z8, zf⟩ := blk9 Hk2.out
  obtain ⟨r0, r1⟩ := HR2.out.cell
  have z0 := cell_regrown z0
  have z1 := cell_regrown z1
  have z2 := cell_regrown z2
  have z3 := cell_regrown z3
  have z4 := cell_regrown z4
  have z5 := cell_regrown z5
  have z6 := cell_regrown z6
  have z7 := cell_regrown z7
  have z8 := cell_regrown z8
  have r0 := cell_regrown r0
  have r1 := cell_regrown r1
  have hz0 : decide (z < 0) = true := decide_eq_true hz
  have hr0 : decide (room ≤ (L.length : Int)) = true := decide_eq_true hroom
  go_wp2_with fail
  refine wp_below_tail 16 (by kernel_rfl) (by kernel_rfl) ?_
  simp only [List.take_succ_cons, List.take_zero, List.drop_succ_cons, List.drop_zero]
  repeat (go_big_quiet_step (first | exact CK.out _ _ _ _ _ _ _ _ _ _ _ _ _ _ _ _ | exact CF.out _ _))
  refine wpQuiet_nil ?_
  rintro w3 ⟨⟨dq, osq⟩, rfl⟩
  have hb3 := below_regrown w2 dq osq
  generalize grow (redrawn w2 dq) osq = w3 at *
  have HR3 := Lib.hid (HR2.out.keep hb3)
  have Hk3 := Lib.hid (Hk2.out.below hb3 Hk2.out.lt)
  have Hb3 := Lib.hid (below_trans Hb2.out Hb2.out.size hb3)
  clear hb3 z0 z1 z2 z3 z4 z5 z6 z7 z8 zf r0 r1
  go_wp2
  go_ret
  exact ⟨rfl, Hb3.out⟩
theorem row_at2 {W : World} {B g n c : Nat} {L : List Lsa} (h : OwnR 31 9 Lsa.cells W B (.slice (some ⟨g, 0, none⟩) n c) L) (k : Nat) (hk : k < L.length) : W.cell? ⟨g, k * 9, none⟩ = some (.int .i64 L[k].head.age) ∧ W.cell? ⟨g, k * 9 + 1, none⟩ = some (.int .i64 L[k].head.kind) ∧ W.cell? ⟨g, k * 9 + 2, none⟩ = some (.int .i64 L[k].head.id) ∧ W.cell? ⟨g, k * 9 + 3, none⟩ = some (.int .i64 L[k].head.adv) ∧ W.cell? ⟨g, k * 9 + 4, none⟩ = some (.int .i64 L[k].head.seq) ∧ W.cell? ⟨g, k * 9 + 5, none⟩ = some (.int .i64 L[k].head.sum) ∧ W.cell? ⟨g, k * 9 + 6, none⟩ = some (.int .i64 L[k].head.long) ∧
      W.cell? ⟨g, k * 9 + 7, none⟩ = some (.slice L[k].ka L[k].links.length L[k].kcap) ∧ W.cell? ⟨g, k * 9 + 8, none⟩ = some (.slice L[k].ma L[k].members.length L[k].mcap) := by
  obtain ⟨g', c', hv, hc⟩ := row_at h k hk
  injection hv with hA hn hc2
  injection hA with hA
  injection hA with hA
  subst hA
  exact hc
set_option maxHeartbeats 16000000 in
set_option maxRecDepth 100000 in
theorem rdPut_ok (q : Nat) (room : Int) (v : Value) (L : List Lsa) (y1 y2 y3 y4 y5 y6 y7 : Int) (ka : Option Addr) (kc : Nat) (ls : List Lnk) (ma : Option Addr) (mc : Nat) (ms : List Int) (w : World) (hR : RdAt w q room v L) (B : Nat) (hBq : B ≤ q) (hl0 : RowsAt 4 Lnk.cells w B ka ls) (hm0 : RowsAt 1 icell w B ma ms) (hlm : ls.length ≤ 1000) (hmm : ms.length ≤ 1000) (nl nm : Nat) (hnl : nl = ls.length) (hnm : nm = ms.length) (ht : rightB ⟨⟨y1, y2, y3, y4, y5, y6, y7⟩, ka, kc, ls, ma, mc, ms⟩ = true) (hlen : L.length ≤ 2 ^ 20) (hs : sortedX L) (z : Int) (hf : findX ⟨y2, y3, y4⟩ L = z) (hzr : 0 ≤ z ∨ (L.length : Int) < room) :
    Calls Tryz.prog 36 #[.pointer (some ⟨q, 0, none⟩), .agg #[.int .i64 y1, .int .i64 y2, .int .i64 y3, .int .i64 y4, .int .i64 y5, .int .i64 y6, .int .i64 y7, .slice ka nl kc, .slice ma nm mc]] w fun r w' => r = .returned (.int .i64 0) ∧ RdPutTo w.heap.size w' q room ⟨y1, y2, y3, y4, y5, y6, y7⟩ ls ms L ∧ w.grownBy w' (some q) := by
  have hBw : B ≤ w.heap.size := Nat.le_trans hBq (Nat.le_of_lt hR.ptr.lt)
  have hl := hl0.more hBw
  have hm := hm0.more hBw
  obtain ⟨-, -, h1m, -, -⟩ := right_head ht
  obtain ⟨s1, hs1⟩ : ∃ s1, (sealedH ⟨y1, y2, y3, y4, y5, y6, y7⟩ ls ms).sum = s1 := ⟨_, rfl⟩
  obtain ⟨s2, hs2⟩ : ∃ s2, (sealedH ⟨y1, y2, y3, y4, y5, y6, y7⟩ ls ms).long = s2 := ⟨_, rfl⟩
  have Hseal := Lib.hid (show sealedH ⟨y1, y2, y3, y4, y5, y6, y7⟩ ls ms = ⟨y1, y2, y3, y4, y5, s1, s2⟩ by rw [← hs1, ← hs2]; simp only [sealedH])
  have H1m := Lib.hid h1m
  have Hs1 := Lib.hid hs1
  have Hs2 := Lib.hid hs2
  have Hs := Lib.hid hs
  have Hzr := Lib.hid (show decide (z < 0) = false ∨ (decide (z < 0) = true ∧ decide (room ≤ (L.length : Int)) = false) by
    by_cases h : z < 0
    · exact .inr ⟨decide_eq_true h, decide_eq_false (by omega)⟩
    · exact .inl (decide_eq_false h))
  clear h1m hs1 hs2 hs hzr
  obtain ⟨A, cap, hv⟩ := hR.xs.own.shape
  subst hv
  obtain ⟨w1, hW1⟩ : ∃ w1, w.alloc (.cells #[.int .i64 y1, .int .i64 y2, .int .i64 y3, .int .i64 y4, .int .i64 y5, .int .i64 y6, .int .i64 y7, .slice ka nl kc, .slice ma nm mc] 31) = w1 := ⟨_, rfl⟩
  have hk1 := Blk.new w 31 #[.int .i64 y1, .int .i64 y2, .int .i64 y3, .int .i64 y4, .int .i64 y5, .int .i64 y6, .int .i64 y7, .slice ka nl kc, .slice ma nm mc]
  have hb1 := below_new w (.cells #[.int .i64 y1, .int .i64 y2, .int .i64 y3, .int .i64 y4, .int .i64 y5, .int .i64 y6, .int .i64 y7, .slice ka nl kc, .slice ma nm mc] 31)
  rw [hW1] at hk1 hb1
  have HRi := Lib.hid (refRight_any y1 y2 y3 y4 y5 y6 y7 ka kc ls ma mc ms w1 w1.heap.size (rows_keep hl hb1) (rows_keep hm hb1) (Nat.le_refl _) (by unfold maxLen; omega) (by unfold maxLen; omega) nl nm hnl hnm ht)
  obtain ⟨z0, z1, z2, z3, z4, z5, z6, z7, z8, zf⟩ := blk9 hk1
  have HF := Lib.hid (fun W (h : RdAt W q room (.slice A L.length cap) L) => rdFind q room _ L y2 y3 y4 W h hlen hf)
  have hR1 := hR.keep hb1
  have hgq : q < w.heap.size := hR.ptr.lt
  have HR1 := Lib.hid hR1
  have Hb1 := Lib.hid hb1
  have Hk1 := Lib.hid hk1
  have Hl := Lib.hid hl0
  have Hm := Lib.hid hm0
  have Hn := Lib.hid (show nl = ls.length ∧ nm = ms.length ∧ ls.length ≤ 1000 ∧ ms.length ≤ 1000 from ⟨hnl, hnm, hlm, hmm⟩)
  have Ht := Lib.hid ht
  clear hR hR1 hb1 hk1 hl hm hl0 hm0 hnl hnm hlm hmm ht hf
  go_enter Tryz.func36, Tryz.ntmps36
  go_wp2_with fail
  with_reducible refine Calls.mono HRi.out ?_
  rintro r w2 ⟨rfl, hb2⟩
  have HR2 := Lib.hid (HR1.out.keep hb2)
  have Hb2 := Lib.hid (below_trans Hb1.out Hb1.out.size hb2)
  have Hk2 := Lib.hid (Hk1.out.below hb2 Hk1.out.lt)
  clear hb2 z0 z1 z2 z3 z4 z5 z6 z7 z8 zf
  have CK := Lib.hid (fun w0 a b c d e f g x1 n1 c1 x2 n2 c2 dd os => Calls.regrown_of (w := w0) (d := dd) (os := os) (refKey_any a b c d e f g x1 n1 c1 x2 n2 c2 _))
  have CF := Lib.hid (fun dd os => Calls.regrown_of (w := w2) (d := dd) (os := os) (HF.out _ (HR2.out.keep (below_regrown w2 dd os))))
  obtain ⟨z0, z1, z2, z3, z4, z5, z6, z7, z8, zf⟩ := blk9 Hk2.out
  obtain ⟨r0, r1⟩ := HR2.out.cell
  have z0 := cell_regrown z0
  have z1 := cell_regrown z1
  have z2 := cell_regrown z2
  have z3 := cell_regrown z3
  have z4 := cell_regrown z4
  have z5 := cell_regrown z5
  have z6 := cell_regrown z6
  have z7 := cell_regrown z7
  have z8 := cell_regrown z8
  have r0 := cell_regrown r0
  have r1 := cell_regrown r1
  have Hnn := Lib.hid (show ls.length = nl ∧ ms.length = nm from ⟨Hn.out.1.symm, Hn.out.2.1.symm⟩)
  rcases Hzr.out with hz0 | ⟨hz0, hr0⟩
  all_goals
    go_wp2_with fail
    refine wp_below_tail 16 (by kernel_rfl) (by kernel_rfl) ?_
    simp only [List.take_succ_cons, List.take_zero, List.drop_succ_cons, List.drop_zero]
    repeat (go_big_quiet_step (first | exact CK.out _ _ _ _ _ _ _ _ _ _ _ _ _ _ _ _ | exact CF.out _ _))
    refine wpQuiet_nil ?_
    rintro w3 ⟨⟨dq, osq⟩, rfl⟩
    have hb3 := below_regrown w2 dq osq
    generalize grow (redrawn w2 dq) osq = w3 at *
    have HR3 := Lib.hid (HR2.out.keep hb3)
    have Hk3 := Lib.hid (Hk2.out.below hb3 Hk2.out.lt)
    have Hb3 := Lib.hid (below_trans Hb2.out Hb2.out.size hb3)
    clear hb3 z0 z1 z2 z3 z4 z5 z6 z7 z8 zf r0 r1
    obtain ⟨l0, l1, l2, l3, l4, l5, l6, l7, l8, lf⟩ := blk9 Hk3.out
    go_wp2_with fail
    with_reducible refine Calls.mono (refKey_any _ _ _ _ _ _ _ _ _ _ _ _ _ _) ?_
    rintro r w4 ⟨rfl, hb4⟩
    have HD := Lib.hid (rdDrop q room _ L y2 y3 y4 w4 (HR3.out.keep hb4) Hs.out hlen)
    have Hb4 := Lib.hid (below_trans Hb3.out Hb3.out.size hb4)
    have Hk4 := Lib.hid (Hk3.out.below hb4 Hk3.out.lt)
    clear hb4 l0 l1 l2 l3 l4 l5 l6 l7 l8 lf
    go_wp2_with fail
    with_reducible refine Calls.mono HD.out ?_
    rintro r w5 ⟨rfl, ⟨v5, hd5⟩, hg5⟩
    have hgq5 : ¬ q = w.heap.size := by omega
    have Hk5 := Lib.hid (Hk4.out.grown hg5 (fun e => hgq5 (by injection e with e; exact e.symm)))
    have Hq5 := Lib.hid (show q < w5.heap.size from hd5.ptr.lt)
    have HRow := Lib.hid (fun W (hW : Below w5.heap.size w5 W) => (show RowsAt 4 Lnk.cells W B ka ls ∧ RowsAt 1 icell W B ma ms ∧ B ≤ W.heap.size from by
      have hbB : Below B w W := ((Hb4.out.mono hBw).grown hg5 (Nat.le_trans hBw Hb4.out.size) (fun k e => by injection e with e; omega)).trans (hW.mono (Nat.le_trans (Nat.le_trans hBw Hb4.out.size) hg5.size))
      exact ⟨Hl.out.below hbB, Hm.out.below hbB, Nat.le_trans hBw hbB.size⟩))
    have Hgw := Lib.hid (grown_trans (grown_below (World.grownBy.refl w (some q)) Hb4.out) hg5)
    obtain ⟨L', hL'⟩ : ∃ L', dropX ⟨y2, y3, y4⟩ L = L' := ⟨_, rfl⟩
    rw [hL'] at hd5
    have HL' := Lib.hid hL'
    have hlen' : L'.length ≤ 2 ^ 20 := by rw [← hL']; exact Nat.le_trans (List.length_filter_le _ _) hlen
    obtain ⟨A5, c5, hv5⟩ := hd5.xs.own.shape
    subst hv5
    have HR5 := Lib.hid hd5
    clear hd5 hg5 hL' hgq5
    obtain ⟨cp, cr⟩ := HR5.out.cell
    go_wp2
    clear cp cr
    go_loopw [5, 6, 7] (fun o d i wr => ∃ (k : Nat) (O : List Lsa) (D : Bool), i = .int .i64 k ∧ d = .bool D ∧ k ≤ L'.length ∧ PutR (⟨y1, y2, y3, y4, y5, s1, s2⟩, ls, ms) L' k O D ∧ XsAt wr (q + 1) o O ∧ (∀ m, o.ownBlock = some m → w5.heap.size ≤ m) ∧ Below w5.heap.size w5 wr) (fun _ _ i _ => L'.length - (intOf i).toNat)
    case atStart => exact ⟨0, [], false, rfl, rfl, Nat.zero_le _, PutR.start _ _, XsAt.nil _ _, (by intro m e; cases e), Below.refl _ _⟩
    case round =>
      obtain ⟨k, O, D, rfl, rfl, hk, hP, hxs, hnew, hb⟩ := hrel
      obtain ⟨A6, c6, hv6⟩ := hxs.own.shape
      subst hv6
      have HP := Lib.hid hP
      have Hxs := Lib.hid hxs
      have Hnew := Lib.hid hnew
      have Hb := Lib.hid hb
      have hOl : O.length ≤ 2 ^ 20 + 1 := by have := hP.len; omega
      by_cases hlt : k < L'.length
      · obtain ⟨g, c, hv, -⟩ := row_at HR5.out.xs.own k hlt
        injection hv with hA hn hcap
        subst hA hcap
        have hmem := List.getElem_mem hlt
        have hX1 := HR5.out.xs.rows _ hmem
        have hXr := (HR5.out.keep hb).xs.rows _ hmem
        have hXf := HR5.out.xs.from_ _ hmem
        have hXl := HR5.out.xs.lens _ hmem
        have hfr := fun W (hW : Below w5.heap.size w5 W) => (show _ ∧ _ ∧ _ from ⟨(HR5.out.keep hW).cell.1, row_at2 (HR5.out.keep hW).xs.own k hlt, blk9 (Hk5.out.below hW Hk5.out.lt)⟩)
        have hmore := fun O h => PutR.more (O := O) (k := k) (h : PutR (⟨y1, y2, y3, y4, y5, s1, s2⟩, ls, ms) L' k O true) hlt
        have hskip := fun h => PutR.skip (k := k) (h : PutR (⟨y1, y2, y3, y4, y5, s1, s2⟩, ls, ms) L' k O false) hlt
        have hput := fun h => PutR.put (k := k) (h : PutR (⟨y1, y2, y3, y4, y5, s1, s2⟩, ls, ms) L' k O false) hlt
        have hkl : (k : Int) < (L'.length : Int) := by omega
        have Hlt := Lib.hid hlt
        generalize L'[k] = e at *
        have hfar : farX (.slice A6 O.length c6) e := ⟨fun a ea h0 e2 => by have := row_lt2 hX1.1 ea h0; have := hnew _ e2; omega, fun a ea h0 e2 => by have := row_lt2 hX1.2 ea h0; have := hnew _ e2; omega⟩
        have hfar2 : ∀ u : Value, (∀ m, u.ownBlock = some m → w5.heap.size ≤ m) → farX u e := fun u hu => ⟨fun a ea h0 e2 => by have := row_lt2 hX1.1 ea h0; have := hu _ e2; omega, fun a ea h0 e2 => by have := row_lt2 hX1.2 ea h0; have := hu _ e2; omega⟩
        have hrow2 : ∀ W, Below w5.heap.size w5 W → rowsX W e := fun W hW => hX1.keep hW
        obtain ⟨⟨e1, e2, e3, e4, e5, e6, e7⟩, xa, xc, xs, ya, yc, ys⟩ := e
        simp only at hfr hXl
        obtain ⟨ln, hln⟩ : ∃ ln, xs.length = ln := ⟨_, rfl⟩
        obtain ⟨yn, hyn⟩ : ∃ yn, ys.length = yn := ⟨_, rfl⟩
        rw [hln, hyn] at hfr
        have Hln := Lib.hid (show _ ∧ _ from ⟨hln, hyn⟩)
        have HX := Lib.hid (show rowsX wr ⟨⟨e1, e2, e3, e4, e5, e6, e7⟩, xa, xc, xs, ya, yc, ys⟩ ∧ farX (.slice A6 O.length c6) ⟨⟨e1, e2, e3, e4, e5, e6, e7⟩, xa, xc, xs, ya, yc, ys⟩ ∧ fromX (q + 1) ⟨⟨e1, e2, e3, e4, e5, e6, e7⟩, xa, xc, xs, ya, yc, ys⟩ ∧ (xs.length ≤ 1000 ∧ ys.length ≤ 1000) from ⟨hXr, hfar, hXf, hXl⟩)
        have Hfar2 := Lib.hid hfar2
        have Hrow2 := Lib.hid hrow2
        have FR := Lib.hid hfr
        have Hmore := Lib.hid hmore
        have Hskip := Lib.hid hskip
        have Hput := Lib.hid hput
        clear hmem hX1 hXr hXf hXl hfr hmore hskip hput hfar hfar2 hrow2 hln hyn hn hP hxs hnew hb hlt
        obtain ⟨t, ht⟩ : ∃ t, lessK ⟨y2, y3, y4⟩ ⟨e2, e3, e4⟩ = t := ⟨_, rfl⟩
        have CL := Lib.hid (fun dd os => Calls.regrown_of (w := wr) (d := dd) (os := os) (Less07 y2 y3 y4 e2 e3 e4 _ ht))
        have Hht := Lib.hid ht
        clear ht
        obtain ⟨cp, ⟨z0, z1, z2, z3, z4, z5, z6, z7, z8⟩, l0, l1, l2, l3, l4, l5, l6, l7, l8, lf⟩ := FR.out wr Hb.out
        have cp := cell_regrown cp
        have z0 := cell_regrown z0
        have z1 := cell_regrown z1
        have z2 := cell_regrown z2
        have z3 := cell_regrown z3
        have z4 := cell_regrown z4
        have z5 := cell_regrown z5
        have z6 := cell_regrown z6
        have z7 := cell_regrown z7
        have z8 := cell_regrown z8
        have l0 := cell_regrown l0
        have l1 := cell_regrown l1
        have l2 := cell_regrown l2
        have l3 := cell_regrown l3
        have l4 := cell_regrown l4
        have l5 := cell_regrown l5
        have l6 := cell_regrown l6
        have l7 := cell_regrown l7
        have l8 := cell_regrown l8
        cases D with
        | true =>
          go_wp2_with fail
          refine wp_below_tail 14 (by kernel_rfl) (by kernel_rfl) ?_
          simp only [List.take_succ_cons, List.take_zero, List.drop_succ_cons, List.drop_zero]
          repeat (go_big_quiet_step (first | exact CK.out _ _ _ _ _ _ _ _ _ _ _ _ _ _ _ _ | exact CL.out _ _))
          refine wpQuiet_nil ?_
          rintro w6 ⟨⟨dq, osq⟩, rfl⟩
          have hb6' := below_regrown wr dq osq
          generalize grow (redrawn wr dq) osq = w6 at *
          have Hb6 := Lib.hid (below_trans Hb.out Hb.out.size hb6')
          have Hxs6 := Lib.hid (Hxs.out.keep hb6')
          have HX6 := Lib.hid (show _ ∧ _ ∧ _ ∧ _ from ⟨HX.out.1.keep hb6', HX.out.2⟩)
          clear hb6' z0 z1 z2 z3 z4 z5 z6 z7 z8 l0 l1 l2 l3 l4 l5 l6 l7 l8 lf cp
          obtain ⟨cp, ⟨z0, z1, z2, z3, z4, z5, z6, z7, z8⟩, l0, l1, l2, l3, l4, l5, l6, l7, l8, lf⟩ := FR.out w6 Hb6.out
          have Hbk8 := Lib.hid (show Blk (w6.alloc (.cells #[.int .i64 e1, .int .i64 e2, .int .i64 e3, .int .i64 e4, .int .i64 e5, .int .i64 e6, .int .i64 e7, .slice xa ln xc, .slice ya yn yc] 31)) w6.heap.size 31 (Lsa.cells ⟨⟨e1, e2, e3, e4, e5, e6, e7⟩, xa, xc, xs, ya, yc, ys⟩).toArray by unfold Lsa.cells; simp only; rw [Hln.out.1, Hln.out.2]; exact Blk.new _ _ _); have Hba8 := Lib.hid (below_new w6 (.cells #[.int .i64 e1, .int .i64 e2, .int .i64 e3, .int .i64 e4, .int .i64 e5, .int .i64 e6, .int .i64 e7, .slice xa ln xc, .slice ya yn yc] 31))
          go_wp2_with (at_builtin; (refine app_row Lsa.cells (fun _ => rfl) (by decide) (bytes := 104) (by decide) infoX rfl Tryz.underlying22 onesX (by rfl) _ _ (by rfl) (q + 1) _ (O) (by rfl) (Hxs6.out.own.below Hba8.out) w6.heap.size ⟨⟨e1, e2, e3, e4, e5, e6, e7⟩, xa, xc, xs, ya, yc, ys⟩ (by rfl) Hbk8.out (by omega) (by have := Hq5.out; have := Hb6.out.size; have := Hba8.out.size; omega) ?_); intro v8 w8 hown8 hg8 hor8; have Hx8 := Lib.hid ((Hxs6.out.keep Hba8.out).app hown8 hg8 hor8 (HX6.out.1.keep Hba8.out) HX6.out.2.1 HX6.out.2.2.1 HX6.out.2.2.2); have Hn8 := Lib.hid (own_new Hnew.out hor8 (Nat.le_trans Hb6.out.size Hba8.out.size)); have Hb8 := Lib.hid ((below_trans Hb6.out Hb6.out.size Hba8.out).grown hg8 (Nat.le_trans Hb6.out.size Hba8.out.size) (fun m hm => Hnew.out m hm)); clear hown8 hg8 hor8)
          go_roundw
          case measure => have := Hlt.out; simp [intOf]; omega
          case rel => exact ⟨k + 1, _, true, by go_num, rfl, Hlt.out, Hmore.out _ HP.out HP.out.len, Hx8.out, Hn8.out, Hb8.out⟩
        | false =>
          cases t with
          | false =>
            go_wp2_with fail
            refine wp_below_tail 14 (by kernel_rfl) (by kernel_rfl) ?_
            simp only [List.take_succ_cons, List.take_zero, List.drop_succ_cons, List.drop_zero]
            repeat (go_big_quiet_step (first | exact CK.out _ _ _ _ _ _ _ _ _ _ _ _ _ _ _ _ | exact CL.out _ _))
            refine wpQuiet_nil ?_
            rintro w6 ⟨⟨dq, osq⟩, rfl⟩
            have hb6' := below_regrown wr dq osq
            generalize grow (redrawn wr dq) osq = w6 at *
            have Hb6 := Lib.hid (below_trans Hb.out Hb.out.size hb6')
            have Hxs6 := Lib.hid (Hxs.out.keep hb6')
            have HX6 := Lib.hid (show _ ∧ _ ∧ _ ∧ _ from ⟨HX.out.1.keep hb6', HX.out.2⟩)
            clear hb6' z0 z1 z2 z3 z4 z5 z6 z7 z8 l0 l1 l2 l3 l4 l5 l6 l7 l8 lf cp
            obtain ⟨cp, ⟨z0, z1, z2, z3, z4, z5, z6, z7, z8⟩, l0, l1, l2, l3, l4, l5, l6, l7, l8, lf⟩ := FR.out w6 Hb6.out
            have Hbk8 := Lib.hid (show Blk (w6.alloc (.cells #[.int .i64 e1, .int .i64 e2, .int .i64 e3, .int .i64 e4, .int .i64 e5, .int .i64 e6, .int .i64 e7, .slice xa ln xc, .slice ya yn yc] 31)) w6.heap.size 31 (Lsa.cells ⟨⟨e1, e2, e3, e4, e5, e6, e7⟩, xa, xc, xs, ya, yc, ys⟩).toArray by unfold Lsa.cells; simp only; rw [Hln.out.1, Hln.out.2]; exact Blk.new _ _ _); have Hba8 := Lib.hid (below_new w6 (.cells #[.int .i64 e1, .int .i64 e2, .int .i64 e3, .int .i64 e4, .int .i64 e5, .int .i64 e6, .int .i64 e7, .slice xa ln xc, .slice ya yn yc] 31))
            go_wp2_with (at_builtin; (refine app_row Lsa.cells (fun _ => rfl) (by decide) (bytes := 104) (by decide) infoX rfl Tryz.underlying22 onesX (by rfl) _ _ (by rfl) (q + 1) _ (O) (by rfl) (Hxs6.out.own.below Hba8.out) w6.heap.size ⟨⟨e1, e2, e3, e4, e5, e6, e7⟩, xa, xc, xs, ya, yc, ys⟩ (by rfl) Hbk8.out (by omega) (by have := Hq5.out; have := Hb6.out.size; have := Hba8.out.size; omega) ?_); intro v8 w8 hown8 hg8 hor8; have Hx8 := Lib.hid ((Hxs6.out.keep Hba8.out).app hown8 hg8 hor8 (HX6.out.1.keep Hba8.out) HX6.out.2.1 HX6.out.2.2.1 HX6.out.2.2.2); have Hn8 := Lib.hid (own_new Hnew.out hor8 (Nat.le_trans Hb6.out.size Hba8.out.size)); have Hb8 := Lib.hid ((below_trans Hb6.out Hb6.out.size Hba8.out).grown hg8 (Nat.le_trans Hb6.out.size Hba8.out.size) (fun m hm => Hnew.out m hm)); clear hown8 hg8 hor8)
            go_roundw
            case measure => have := Hlt.out; simp [intOf]; omega
            case rel => exact ⟨k + 1, _, false, by go_num, rfl, Hlt.out, Hskip.out HP.out Hht.out, Hx8.out, Hn8.out, Hb8.out⟩
          | true =>
            go_wp2_with fail
            refine wp_below_tail 14 (by kernel_rfl) (by kernel_rfl) ?_
            simp only [List.take_succ_cons, List.take_zero, List.drop_succ_cons, List.drop_zero]
            repeat (go_big_quiet_step (first | exact CK.out _ _ _ _ _ _ _ _ _ _ _ _ _ _ _ _ | exact CL.out _ _))
            refine wpQuiet_nil ?_
            rintro w6 ⟨⟨dq, osq⟩, rfl⟩
            have hb6' := below_regrown wr dq osq
            generalize grow (redrawn wr dq) osq = w6 at *
            have Hb6 := Lib.hid (below_trans Hb.out Hb.out.size hb6')
            have Hxs6 := Lib.hid (Hxs.out.keep hb6')
            have HX6 := Lib.hid (show _ ∧ _ ∧ _ ∧ _ from ⟨HX.out.1.keep hb6', HX.out.2⟩)
            clear hb6' z0 z1 z2 z3 z4 z5 z6 z7 z8 l0 l1 l2 l3 l4 l5 l6 l7 l8 lf cp
            obtain ⟨cp, ⟨z0, z1, z2, z3, z4, z5, z6, z7, z8⟩, l0, l1, l2, l3, l4, l5, l6, l7, l8, lf⟩ := FR.out w6 Hb6.out
            have HS := Lib.hid (refSealed_any y1 y2 y3 y4 y5 y6 y7 ka kc ls ma mc ms w6 B (HRow.out w6 Hb6.out).1 (HRow.out w6 Hb6.out).2.1 (HRow.out w6 Hb6.out).2.2 Hn.out.2.2.1 Hn.out.2.2.2 nl nm Hn.out.1 Hn.out.2.1 H1m.out Hs1.out Hs2.out)
            go_wp2_with fail
            with_reducible refine Calls.mono HS.out ?_
            rintro r w7 ⟨Ca, ec, Cb, ed, rfl, oa, ob, hb7⟩
            have HZ := Lib.hid (seal_el (q := q) Hxs6.out.own (by have := Hq5.out; have := Hb6.out.size; omega) Hn.out.1 Hn.out.2.1 Hn.out.2.2.1 Hn.out.2.2.2 oa ob (h := ⟨y1, y2, y3, y4, y5, s1, s2⟩))
            have Hb7 := Lib.hid (below_trans Hb6.out Hb6.out.size hb7)
            have Hxs7 := Lib.hid (Hxs6.out.keep hb7)
            clear oa ob hb7
            have Hbk8 := Lib.hid (show Blk (w7.alloc (.cells #[.int .i64 y1, .int .i64 y2, .int .i64 y3, .int .i64 y4, .int .i64 y5, .int .i64 s1, .int .i64 s2, .slice Ca nl ec, .slice Cb nm ed] 31)) w7.heap.size 31 (Lsa.cells ⟨⟨y1, y2, y3, y4, y5, s1, s2⟩, Ca, ec, ls, Cb, ed, ms⟩).toArray by unfold Lsa.cells; simp only; rw [Hnn.out.1, Hnn.out.2]; exact Blk.new _ _ _); have Hba8 := Lib.hid (below_new w7 (.cells #[.int .i64 y1, .int .i64 y2, .int .i64 y3, .int .i64 y4, .int .i64 y5, .int .i64 s1, .int .i64 s2, .slice Ca nl ec, .slice Cb nm ed] 31))
            clear z0 z1 z2 z3 z4 z5 z6 z7 z8 l0 l1 l2 l3 l4 l5 l6 l7 l8 lf cp
            go_wp2_with (first
              | (at_builtin; (refine app_row Lsa.cells (fun _ => rfl) (by decide) (bytes := 104) (by decide) infoX rfl Tryz.underlying22 onesX (by rfl) _ _ (by rfl) (q + 1) _ (O ++ [⟨⟨y1, y2, y3, y4, y5, s1, s2⟩, Ca, ec, ls, Cb, ed, ms⟩]) (by rfl) (Hx8.out.own.below Hba9.out) w8.heap.size ⟨⟨e1, e2, e3, e4, e5, e6, e7⟩, xa, xc, xs, ya, yc, ys⟩ (by rfl) Hbk9.out (by simp; omega) (by have := Hq5.out; have := Hb8.out.size; have := Hba9.out.size; omega) ?_); intro v9 w9 hown9 hg9 hor9; have Hx9 := Lib.hid ((Hx8.out.keep Hba9.out).app hown9 hg9 hor9 (HX8.out.1.keep Hba9.out) HX8.out.2.1 HX8.out.2.2.1 HX8.out.2.2.2); have Hn9 := Lib.hid (own_new Hn8.out hor9 (Nat.le_trans Hb8.out.size Hba9.out.size)); have Hb9 := Lib.hid ((below_trans Hb8.out Hb8.out.size Hba9.out).grown hg9 (Nat.le_trans Hb8.out.size Hba9.out.size) (fun m hm => Hn8.out m hm)); clear hown9 hg9 hor9)
              | (at_builtin; (refine app_row Lsa.cells (fun _ => rfl) (by decide) (bytes := 104) (by decide) infoX rfl Tryz.underlying22 onesX (by rfl) _ _ (by rfl) (q + 1) _ (O) (by rfl) (Hxs7.out.own.below Hba8.out) w7.heap.size ⟨⟨y1, y2, y3, y4, y5, s1, s2⟩, Ca, ec, ls, Cb, ed, ms⟩ (by rfl) Hbk8.out (by omega) (by have := Hq5.out; have := Hb7.out.size; have := Hba8.out.size; omega) ?_); intro v8 w8 hown8 hg8 hor8; have Hx8 := Lib.hid ((Hxs7.out.keep Hba8.out).app hown8 hg8 hor8 (HZ.out.1.keep Hba8.out) HZ.out.2.1 HZ.out.2.2.1 HZ.out.2.2.2); have Hn8 := Lib.hid (own_new Hnew.out hor8 (Nat.le_trans Hb7.out.size Hba8.out.size)); have Hb8 := Lib.hid ((below_trans Hb7.out Hb7.out.size Hba8.out).grown hg8 (Nat.le_trans Hb7.out.size Hba8.out.size) (fun m hm => Hnew.out m hm)); have HX8 := Lib.hid (show rowsX w8 ⟨⟨e1, e2, e3, e4, e5, e6, e7⟩, xa, xc, xs, ya, yc, ys⟩ ∧ farX v8 ⟨⟨e1, e2, e3, e4, e5, e6, e7⟩, xa, xc, xs, ya, yc, ys⟩ ∧ fromX (q + 1) ⟨⟨e1, e2, e3, e4, e5, e6, e7⟩, xa, xc, xs, ya, yc, ys⟩ ∧ (xs.length ≤ 1000 ∧ ys.length ≤ 1000) from ⟨Hrow2.out w8 Hb8.out, Hfar2.out v8 Hn8.out, HX.out.2.2.1, HX.out.2.2.2⟩); have Hbk9 := Lib.hid (show Blk (w8.alloc (.cells #[.int .i64 e1, .int .i64 e2, .int .i64 e3, .int .i64 e4, .int .i64 e5, .int .i64 e6, .int .i64 e7, .slice xa ln xc, .slice ya yn yc] 31)) w8.heap.size 31 (Lsa.cells ⟨⟨e1, e2, e3, e4, e5, e6, e7⟩, xa, xc, xs, ya, yc, ys⟩).toArray by unfold Lsa.cells; simp only; rw [Hln.out.1, Hln.out.2]; exact Blk.new _ _ _); have Hba9 := Lib.hid (below_new w8 (.cells #[.int .i64 e1, .int .i64 e2, .int .i64 e3, .int .i64 e4, .int .i64 e5, .int .i64 e6, .int .i64 e7, .slice xa ln xc, .slice ya yn yc] 31)); obtain ⟨cp, ⟨z0, z1, z2, z3, z4, z5, z6, z7, z8⟩, l0, l1, l2, l3, l4, l5, l6, l7, l8, lf⟩ := FR.out w8 Hb8.out; clear hown8 hg8 hor8))
            go_roundw
            case measure => have := Hlt.out; simp [intOf]; omega
            case rel => exact ⟨k + 1, _, true, by go_num, rfl, Hlt.out, Hput.out HP.out Hht.out rfl, Hx9.out, Hn9.out, Hb9.out⟩
      · have hkk : k = L'.length := by omega
        subst hkk
        have hkl : ¬ (L'.length : Int) < (L'.length : Int) := by omega
        have hfin : ∀ (W : World) (v' : Value) (z : Lsa), vX z = (⟨y1, y2, y3, y4, y5, s1, s2⟩, ls, ms) → Below w5.heap.size w5 W → XsAt W (q + 1) v' (insX z L') → (∀ m, v'.ownBlock = some m → w5.heap.size ≤ m) → RdPutTo w.heap.size (W.setCell ⟨q, 0, none⟩ v') q room ⟨y1, y2, y3, y4, y5, y6, y7⟩ ls ms L ∧ w.grownBy (W.setCell ⟨q, 0, none⟩ v') (some q) := by
          intro W v' z hz hW hx hnw
          refine ⟨⟨v', z, by rw [hz, Hseal.out], ?_, fun m hm => Nat.le_trans Hgw.out.size (hnw m hm)⟩, grown_trans (grown_below Hgw.out hW) (grown_set _ q 0 _)⟩
          rw [show dropX (keyH ⟨y1, y2, y3, y4, y5, y6, y7⟩) L = L' from HL'.out]
          exact (HR5.out.keep hW).store hx
        have Hfin := Lib.hid hfin
        obtain ⟨cp, -⟩ := (HR5.out.keep hb).cell
        have cf := (HR5.out.keep hb).ptr.frozen 0
        obtain ⟨l0, l1, l2, l3, l4, l5, l6, l7, l8, lf⟩ := blk9 (Hk5.out.below hb Hk5.out.lt)
        clear hfin hxs hnew hb
        cases D with
        | true =>
          obtain ⟨z, hz, he⟩ := hP.end_yes
          have Hz := Lib.hid (show _ ∧ _ from ⟨hz, he⟩)
          clear hz he hP
          go_wp2
          go_ret
          exact ⟨rfl, Hfin.out wr _ z Hz.out.1 Hb.out (by rw [Hz.out.2]; exact Hxs.out) Hnew.out⟩
        | false =>
          clear hP
          have HS := Lib.hid (refSealed_any y1 y2 y3 y4 y5 y6 y7 ka kc ls ma mc ms wr B (HRow.out wr Hb.out).1 (HRow.out wr Hb.out).2.1 (HRow.out wr Hb.out).2.2 Hn.out.2.2.1 Hn.out.2.2.2 nl nm Hn.out.1 Hn.out.2.1 H1m.out Hs1.out Hs2.out)
          go_wp2_with fail
          with_reducible refine Calls.mono HS.out ?_
          rintro r w7 ⟨Ca, ec, Cb, ed, rfl, oa, ob, hb7⟩
          have HZ := Lib.hid (seal_el (q := q) Hxs.out.own (by have := Hq5.out; have := Hb.out.size; omega) Hn.out.1 Hn.out.2.1 Hn.out.2.2.1 Hn.out.2.2.2 oa ob (h := ⟨y1, y2, y3, y4, y5, s1, s2⟩))
          have Hb7 := Lib.hid (below_trans Hb.out Hb.out.size hb7)
          have Hxs7 := Lib.hid (Hxs.out.keep hb7)
          clear oa ob hb7
          have Hbk8 := Lib.hid (show Blk (w7.alloc (.cells #[.int .i64 y1, .int .i64 y2, .int .i64 y3, .int .i64 y4, .int .i64 y5, .int .i64 s1, .int .i64 s2, .slice Ca nl ec, .slice Cb nm ed] 31)) w7.heap.size 31 (Lsa.cells ⟨⟨y1, y2, y3, y4, y5, s1, s2⟩, Ca, ec, ls, Cb, ed, ms⟩).toArray by unfold Lsa.cells; simp only; rw [Hnn.out.1, Hnn.out.2]; exact Blk.new _ _ _); have Hba8 := Lib.hid (below_new w7 (.cells #[.int .i64 y1, .int .i64 y2, .int .i64 y3, .int .i64 y4, .int .i64 y5, .int .i64 s1, .int .i64 s2, .slice Ca nl ec, .slice Cb nm ed] 31))
          go_wp2_with (at_builtin; (refine app_row Lsa.cells (fun _ => rfl) (by decide) (bytes := 104) (by decide) infoX rfl Tryz.underlying22 onesX (by rfl) _ _ (by rfl) (q + 1) _ (O) (by rfl) (Hxs7.out.own.below Hba8.out) w7.heap.size ⟨⟨y1, y2, y3, y4, y5, s1, s2⟩, Ca, ec, ls, Cb, ed, ms⟩ (by rfl) Hbk8.out (by omega) (by have := Hq5.out; have := Hb7.out.size; have := Hba8.out.size; omega) ?_); intro v8 w8 hown8 hg8 hor8; have Hx8 := Lib.hid ((Hxs7.out.keep Hba8.out).app hown8 hg8 hor8 (HZ.out.1.keep Hba8.out) HZ.out.2.1 HZ.out.2.2.1 HZ.out.2.2.2); have Hn8 := Lib.hid (own_new Hnew.out hor8 (Nat.le_trans Hb7.out.size Hba8.out.size)); have Hb8 := Lib.hid ((below_trans Hb7.out Hb7.out.size Hba8.out).grown hg8 (Nat.le_trans Hb7.out.size Hba8.out.size) (fun m hm => Hnew.out m hm)); obtain ⟨A8, c8, hv8⟩ := Hx8.out.own.shape; obtain ⟨n8, hn8⟩ : ∃ n8, (O ++ [(⟨⟨y1, y2, y3, y4, y5, s1, s2⟩, Ca, ec, ls, Cb, ed, ms⟩ : Lsa)]).length = n8 := ⟨_, rfl⟩; rw [hn8] at hv8; subst hv8; clear hn8; obtain ⟨cp, -⟩ := (HR5.out.keep Hb8.out).cell; have cf := (HR5.out.keep Hb8.out).ptr.frozen 0; clear hown8 hg8 hor8)
          go_ret
          exact ⟨rfl, Hfin.out w8 _ ⟨⟨y1, y2, y3, y4, y5, s1, s2⟩, Ca, ec, ls, Cb, ed, ms⟩ rfl Hb8.out (by rw [HP.out.end_no (z := ⟨⟨y1, y2, y3, y4, y5, s1, s2⟩, Ca, ec, ls, Cb, ed, ms⟩) rfl]; exact Hx8.out) Hn8.out⟩

end Go.Proofs.YtpnbibokddhheaaGreat

/-
  Layer 7: a database, and the document's, into which the same descriptions are put.
-/
namespace Go.Proofs.YtpnbibokddhheaaGreat
open Go.RowKit Go.Sort

def RdPost (w' : World) (q : Nat) (L : List Lsa) (x : Lsa) : Prop := ∃ L' v', PutL L x L' ∧ RdAt w' q 40 v' L'
theorem rdPut_any (q : Nat) (v : Value) (L : List Lsa) (y1 y2 y3 y4 y5 y6 y7 : Int) (ka : Option Addr) (kc : Nat) (ls : List Lnk) (ma : Option Addr) (mc : Nat) (ms : List Int) (w : World) (h : RdAt w q 40 v L) (B : Nat) (hBq : B ≤ q) (hl : RowsAt 4 Lnk.cells w B ka ls) (hm : RowsAt 1 icell w B ma ms) (hlm : ls.length ≤ 1000) (hmm : ms.length ≤ 1000) (nl nm : Nat) (hnl : nl = ls.length) (hnm : nm = ms.length) (hlen : L.length ≤ 2 ^ 20) (hs : sortedX L) :
    Calls Tryz.prog 36 #[.pointer (some ⟨q, 0, none⟩), .agg #[.int .i64 y1, .int .i64 y2, .int .i64 y3, .int .i64 y4, .int .i64 y5, .int .i64 y6, .int .i64 y7, .slice ka nl kc, .slice ma nm mc]] w fun r w' => someInt r ∧ RdPost w' q L ⟨⟨y1, y2, y3, y4, y5, y6, y7⟩, ka, kc, ls, ma, mc, ms⟩ ∧ w.grownBy w' (some q) := by
  have hBw : B ≤ w.heap.size := Nat.le_trans hBq (Nat.le_of_lt h.ptr.lt)
  by_cases ht : rightB ⟨⟨y1, y2, y3, y4, y5, y6, y7⟩, ka, kc, ls, ma, mc, ms⟩ = true
  · by_cases hr : 0 ≤ findX ⟨y2, y3, y4⟩ L ∨ (L.length : Int) < 40
    · refine (rdPut_ok q 40 v L y1 y2 y3 y4 y5 y6 y7 ka kc ls ma mc ms w h B hBq hl hm hlm hmm nl nm hnl hnm ht hlen hs _ rfl hr).mono ?_
      rintro r w' ⟨rfl, ⟨v', z, hz, h3, -⟩, hg⟩
      exact ⟨⟨0, rfl⟩, ⟨_, v', .inl ⟨⟨ht, hr⟩, z, hz, rfl⟩, h3⟩, hg⟩
    · refine (rdPut_full q 40 v L y1 y2 y3 y4 y5 y6 y7 ka kc ls ma mc ms w h (hl.more hBw) (hm.more hBw) hlm hmm nl nm hnl hnm ht hlen _ rfl (by omega) (by omega)).mono ?_
      rintro r w' ⟨rfl, hb⟩
      exact ⟨⟨7, rfl⟩, ⟨L, v, .inr ⟨fun c => hr c.2, rfl⟩, h.keep hb⟩, grown_below (World.grownBy.refl w (some q)) hb⟩
  · refine (rdPut_bad q y1 y2 y3 y4 y5 y6 y7 ka kc ls ma mc ms w (hl.more hBw) (hm.more hBw) (by unfold maxLen; omega) (by unfold maxLen; omega) nl nm hnl hnm (by simpa using ht)).mono ?_
    rintro r w' ⟨rfl, hb⟩
    exact ⟨⟨1, rfl⟩, ⟨L, v, .inr ⟨fun c => ht c.1, rfl⟩, h.keep hb⟩, grown_below (World.grownBy.refl w (some q)) hb⟩

/-- the two, in memory -/
structure BK (w W : World) (p b q : Nat) (M : List Lsa) (v : Value) (L : List Lsa) : Prop where
  bel : Below w.heap.size w W
  db : DbAt W p b 40 M
  rd : RdAt W q 40 v L
  eq : DEq M L
  le : M.length ≤ 40
  lb : w.heap.size ≤ b
  lq : w.heap.size ≤ q
  pq : p ≠ q
  farq : ∀ x ∈ M, (∀ a, x.ka = some a → 0 < x.links.length → q ≠ a.block) ∧ (∀ a, x.ma = some a → 0 < x.members.length → q ≠ a.block)
section
variable {w W W' : World} {p b q : Nat} {M M' : List Lsa} {v v' : Value} {L L' : List Lsa} {x : Lsa}
theorem BK.keep (h : BK w W p b q M v L) (hb : Below W.heap.size W W') : BK w W' p b q M v L :=
  ⟨below_trans h.bel h.bel.size hb, h.db.keep hb, h.rd.keep hb, h.eq, h.le, h.lb, h.lq, h.pq, h.farq⟩
/-- put into both -/
theorem BK.put {W2 : World} (h : BK w W p b q M v L) (h1 : PutM W.heap.size M x M') (hd : DbAt W2 p b 40 M') (hg : W.grownBy W2 (some b)) : RdAt W2 q 40 v L ∧ ∀ W3 v' L', PutL L x L' → RdAt W3 q 40 v' L' → W2.grownBy W3 (some q) → BK w W3 p b q M' v' L' := by
  have hrd : RdAt W2 q 40 v L := by
    refine ⟨h.rd.ptr.grown hg (fun e => blk_nemap4 h.rd.ptr h.db.map (by injection e)), ⟨h.rd.xs.own.kept hg (.inr (own_nemap h.rd.xs.own h.db.map)), fun x hx => ?_, h.rd.xs.far, h.rd.xs.from_, h.rd.xs.lens⟩⟩
    have hr := h.rd.xs.rows x hx
    refine hr.grown hg (fun a ha => ?_)
    rcases ha with ⟨e, h0⟩ | ⟨e, h0⟩
    · exact row_nemap (C := 4) (cells := Lnk.cells) (fun _ => rfl) (by decide) hr.1 h.db.map a e h0
    · exact row_nemap (C := 1) (cells := icell) (fun _ => rfl) (by decide) hr.2 h.db.map a e h0
  have hfar2 : ∀ x ∈ M', (∀ a, x.ka = some a → 0 < x.links.length → q ≠ a.block) ∧ (∀ a, x.ma = some a → 0 < x.members.length → q ≠ a.block) := by
    rcases h1 with ⟨-, Aa, ca, Ab, cb, ha, hb, rfl⟩ | ⟨-, rfl⟩
    · intro x hx
      rcases setX_mem hx with hx | rfl
      · exact h.farq x hx
      · have hq := h.rd.ptr.lt
        exact ⟨fun a e _ e2 => by have := ha a e; omega, fun a e _ e2 => by have := hb a e; omega⟩
    · exact h.farq
  refine ⟨hrd, fun W3 v' L' h2 hr3 hg3 => ?_⟩
  obtain ⟨heq, hle⟩ := put_both h.eq h.le h1 h2
  have hne : b ≠ q := fun e => blk_nemap4 h.rd.ptr h.db.map e.symm
  refine ⟨(h.bel.grown hg h.bel.size (fun k e => by injection e with e; subst e; exact h.lb)).grown hg3 (Nat.le_trans h.bel.size hg.size) (fun k e => by injection e with e; subst e; exact h.lq),
    ⟨hd.ptr.grown hg3 (fun e => h.pq (by injection e)), hd.map.grown hg3 (fun e => hne (by injection e)), fun x hx => ⟨rows_row2 (hd.rows x hx).1 hg3 (fun a ea h0 e => (hfar2 x hx).1 a ea h0 (by injection e)), rows_row2 (hd.rows x hx).2 hg3 (fun a ea h0 e => (hfar2 x hx).2 a ea h0 (by injection e))⟩, hd.lens⟩,
    hr3, heq, hle, h.lb, h.lq, h.pq, hfar2⟩
end

end Go.Proofs.YtpnbibokddhheaaGreat

/-
  More than a statement takes: each law's own word.
-/
namespace Go.Proofs.YtpnbibokddhheaaGreat
open Go.RowKit

def bigX (x : Lsa) : Bool := decide (20 < x.links.length) || decide (20 < x.members.length)
def manyB (k : Nat) (l : List Lsa) : Bool := l.any bigX || decide (k < l.length)
theorem manyB_lens {k : Nat} {l : List Lsa} (h : manyB k l = false) : l.length ≤ k ∧ ∀ x ∈ l, x.links.length ≤ 20 ∧ x.members.length ≤ 20 := by
  unfold manyB at h
  rw [Bool.or_eq_false_iff] at h
  refine ⟨by have := of_decide_eq_false h.2; omega, fun x hx => ?_⟩
  have := List.any_eq_false.1 h.1 x hx
  unfold bigX at this
  simp at this
  omega
theorem row_lsa9 {w : World} {B : Nat} {A : Option Addr} {l : List Lsa} (h : RowsAt 9 Lsa.cells w B A l) (k : Nat) (hk : k < l.length) :
    ∃ b o, A = some ⟨b, o, none⟩ ∧ b < B ∧ w.cell? ⟨b, o + k * 9, none⟩ = some (.int .i64 l[k].head.age) ∧ w.cell? ⟨b, o + k * 9 + 1, none⟩ = some (.int .i64 l[k].head.kind) ∧ w.cell? ⟨b, o + k * 9 + 2, none⟩ = some (.int .i64 l[k].head.id) ∧ w.cell? ⟨b, o + k * 9 + 3, none⟩ = some (.int .i64 l[k].head.adv) ∧ w.cell? ⟨b, o + k * 9 + 4, none⟩ = some (.int .i64 l[k].head.seq) ∧ w.cell? ⟨b, o + k * 9 + 5, none⟩ = some (.int .i64 l[k].head.sum) ∧ w.cell? ⟨b, o + k * 9 + 6, none⟩ = some (.int .i64 l[k].head.long) ∧
      w.cell? ⟨b, o + k * 9 + 7, none⟩ = some (.slice l[k].ka l[k].links.length l[k].kcap) ∧ w.cell? ⟨b, o + k * 9 + 8, none⟩ = some (.slice l[k].ma l[k].members.length l[k].mcap) := by
  obtain ⟨b, o, e, hb, hc⟩ := h (by omega)
  exact ⟨b, o, e, hb, by simpa using hc k hk 0 _ (by omega) rfl, hc k hk 1 _ (by omega) rfl, hc k hk 2 _ (by omega) rfl, hc k hk 3 _ (by omega) rfl, hc k hk 4 _ (by omega) rfl, hc k hk 5 _ (by omega) rfl, hc k hk 6 _ (by omega) rfl, hc k hk 7 _ (by omega) rfl, hc k hk 8 _ (by omega) rfl⟩
set_option maxHeartbeats 2000000 in
set_option maxRecDepth 100000 in
theorem many13 (A : Option Addr) (c : Nat) (l : List Lsa) (w : World) (B : Nat) (h : RowsAt 9 Lsa.cells w B A l) (hB : B ≤ w.heap.size) (hm : l.length ≤ maxLen) (n : Nat) (hn : n = l.length) {t : Bool} (ht : manyB 60 l = t) :
    Calls Tryz.prog 11 #[.slice A n c] w fun r w' => r = .returned (.bool t) ∧ Below w.heap.size w w' := by
  subst hn
  unfold maxLen at hm
  have H := Lib.hid (h.more hB)
  have Ht := Lib.hid ht
  clear h hB ht
  go_enter Tryz.func11, Tryz.ntmps11
  go_wp2
  go_loopw [7] (fun i wr => ∃ k : Nat, i = .int .i64 k ∧ k ≤ l.length ∧ (l.take k).any bigX = false ∧ Below w.heap.size w wr) (fun i _ => l.length - (intOf i).toNat)
  case atStart => exact ⟨0, rfl, Nat.zero_le _, rfl, Below.refl _ _⟩
  case round =>
    obtain ⟨k, rfl, hk, hany, hb⟩ := hrel
    by_cases hlt : k < l.length
    · obtain ⟨g, o, rfl, -, x0, x1, x2, x3, x4, x5, x6, x7, x8⟩ := row_lsa9 (H.out.below hb) k hlt
      have hkl : (k : Int) < (l.length : Int) := by omega
      have hsucc := List.take_succ_eq_append_getElem hlt
      have hmem := List.getElem_mem hlt
      obtain ⟨x, hx⟩ : ∃ x, l[k] = x := ⟨_, rfl⟩
      rw [hx] at x0 x1 x2 x3 x4 x5 x6 x7 x8 hsucc hmem
      obtain ⟨⟨y1, y2, y3, y4, y5, y6, y7⟩, ka, kc, ls, ma, mc, ms⟩ := x
      simp only at x0 x1 x2 x3 x4 x5 x6 x7 x8
      obtain ⟨nl, hnl⟩ : ∃ nl, ls.length = nl := ⟨_, rfl⟩
      obtain ⟨nm, hnm⟩ : ∃ nm, ms.length = nm := ⟨_, rfl⟩
      rw [hnl] at x7
      rw [hnm] at x8
      have Hb := Lib.hid hb
      have Hal := Lib.hid (fun o => hb.alloc hb.size o)
      by_cases h1 : bigX ⟨⟨y1, y2, y3, y4, y5, y6, y7⟩, ka, kc, ls, ma, mc, ms⟩ = true
      · have ht2 : t = true := by
          rw [← Ht.out]
          unfold manyB
          rw [List.any_eq_true.2 ⟨_, hmem, h1⟩]
          rfl
        have h2 : (20 : Int) < (nl : Int) ∨ (¬ (20 : Int) < (nl : Int) ∧ (20 : Int) < (nm : Int)) := by
          unfold bigX at h1
          simp only [Bool.or_eq_true, decide_eq_true_eq, hnl, hnm] at h1
          omega
        subst ht2
        clear h1 hb hany hx hsucc hmem hnl hnm
        rcases h2 with h2 | ⟨h2, h3⟩
        all_goals
          go_wp2
          go_ret
          exact ⟨rfl, Hal.out _⟩
      · have h2 : ¬ (20 : Int) < (nl : Int) ∧ ¬ (20 : Int) < (nm : Int) := by
          unfold bigX at h1
          simp only [Bool.or_eq_true, decide_eq_true_eq, hnl, hnm] at h1
          omega
        have Hany := Lib.hid (show (l.take (k + 1)).any bigX = false by rw [hsucc, List.any_append, hany]; simpa using h1)
        obtain ⟨h2, h3⟩ := h2
        clear h1 hb hany hx hsucc hmem hnl hnm
        go_wp2
        go_roundw
        case measure => simp [intOf]; omega
        case rel => exact ⟨k + 1, by go_num, hlt, Hany.out, Hal.out _⟩
    · have hkk : k = l.length := by omega
      subst hkk
      rw [List.take_length] at hany
      have ht2 : decide ((60 : Int) < (l.length : Int)) = t := by
        rw [← Ht.out]
        unfold manyB
        rw [hany, Bool.false_or, Bool.eq_iff_iff, decide_eq_true_eq, decide_eq_true_eq]
        omega
      have Ht2 := Lib.hid ht2
      have Hb := Lib.hid hb
      clear hb hany ht2
      go_wp2
      go_ret
      refine ⟨?_, Hb.out⟩
      rw [← Ht2.out]
      rfl

end Go.Proofs.YtpnbibokddhheaaGreat

/-
  Ages as floats: which are more than six apart.
-/
namespace Go.Proofs.YtpnbibokddhheaaGreat
open Go.RowKit

def sixB (a b : Nat) : Bool := match floatBits .sub .f64 (floatOfInt .f64 (a : Int)) (floatOfInt .f64 (b : Int)) with
  | some r => (FloatKind.f64.format.order r 4618441417868443648 == some .gt) == decide (b + 6 < a) && (FloatKind.f64.format.order r 13841813454723219456 == some .lt) == decide (a + 6 < b)
  | none => false
theorem six_all : ((List.range 61).all fun a => (List.range 61).all fun b => sixB a b) = true := by kernel_rfl
theorem six {a b : Int} (ha : 0 ≤ a) (ha' : a ≤ 60) (hb : 0 ≤ b) (hb' : b ≤ 60) : ∃ r, floatBits .sub .f64 (floatOfInt .f64 a) (floatOfInt .f64 b) = some r ∧
    (FloatKind.f64.format.order r 4618441417868443648 == some .gt) = decide (b + 6 < a) ∧ (FloatKind.f64.format.order r 13841813454723219456 == some .lt) = decide (a + 6 < b) := by
  obtain ⟨m, rfl⟩ := Int.eq_ofNat_of_zero_le ha
  obtain ⟨n, rfl⟩ := Int.eq_ofNat_of_zero_le hb
  have h := List.all_eq_true.1 (List.all_eq_true.1 six_all m (List.mem_range.2 (by omega))) n (List.mem_range.2 (by omega))
  unfold sixB at h
  split at h
  · rename_i r hr
    simp only [Bool.and_eq_true, beq_iff_eq] at h
    refine ⟨r, hr, h.1.trans (decide_eq_decide.2 (by omega)), h.2.trans (decide_eq_decide.2 (by omega))⟩
  · cases h

end Go.Proofs.YtpnbibokddhheaaGreat

/-
  order: which description is newer.
-/
namespace Go.Proofs.YtpnbibokddhheaaGreat
open Go.RowKit Go.Sort

def goneI (age : Int) : Int := if age = 60 then 1 else 0
set_option maxHeartbeats 400000 in
theorem gone_any (a b c d e f g : Int) (w : World) : Calls Tryz.prog 84 #[.agg #[.int .i64 a, .int .i64 b, .int .i64 c, .int .i64 d, .int .i64 e, .int .i64 f, .int .i64 g]] w fun r w' => r = .returned (.int .i64 (goneI a)) ∧ Below w.heap.size w w' := by
  have Hb0 := Lib.hid (fun o => (Below.refl w.heap.size w).alloc (Nat.le_refl _) o)
  by_cases h : a = 60
  · subst h
    go_enter Tryz.func84, Tryz.ntmps84
    go_wp2
    go_ret
    exact ⟨by simp [goneI], Hb0.out _⟩
  · go_enter Tryz.func84, Tryz.ntmps84
    go_wp2
    go_ret
    exact ⟨by simp [goneI, h], Hb0.out _⟩
def youngI (a b : Int) : Int := if b + 6 < a ∨ a + 6 < b then cmpI b a else 0

set_option maxHeartbeats 1000000 in
theorem young_any (a1 a2 a3 a4 a5 a6 a7 b1 b2 b3 b4 b5 b6 b7 : Int) (w : World) (ha : 0 ≤ a1) (ha' : a1 ≤ 60) (hb : 0 ≤ b1) (hb' : b1 ≤ 60) : Calls Tryz.prog 85 #[.agg #[.int .i64 a1, .int .i64 a2, .int .i64 a3, .int .i64 a4, .int .i64 a5, .int .i64 a6, .int .i64 a7], .agg #[.int .i64 b1, .int .i64 b2, .int .i64 b3, .int .i64 b4, .int .i64 b5, .int .i64 b6, .int .i64 b7]] w fun r w' => r = .returned (.int .i64 (youngI a1 b1)) ∧ Below w.heap.size w w' := by
  obtain ⟨r, hr, h1, h2⟩ := six ha ha' hb hb'
  have hsub : ∀ w, (binOp BinOp.sub 142 (.float .f64 (floatOfInt .f64 a1)) (.float .f64 (floatOfInt .f64 b1))).run Tryz.prog w = .ok (.float .f64 r) w := fun w => run_float_arith w _ _ _ _ _ _ hr
  have Hb0 := Lib.hid (fun o q => ((Below.refl w.heap.size w).alloc (Nat.le_refl _) o).alloc (by simp) q)
  clear hr ha ha' hb hb'
  by_cases g1 : b1 + 6 < a1
  · have e : youngI a1 b1 = cmpI b1 a1 := by simp [youngI, g1]
    rw [e]
    rw [decide_eq_true g1] at h1
    clear e g1
    go_enter Tryz.func85, Tryz.ntmps85
    go_wp2_with (go_at_call 60; (with_reducible refine Calls.mono (cmp_any _ _ _) ?_); rintro r w2 ⟨rfl, hb2⟩; have Hb2 := Lib.hid ((Hb0.out _ _).trans (hb2.mono (Hb0.out _ _).size)); clear hb2)
    go_ret
    exact ⟨rfl, Hb2.out⟩
  · by_cases g2 : a1 + 6 < b1
    · have e : youngI a1 b1 = cmpI b1 a1 := by simp [youngI, g2]
      rw [e]
      rw [decide_eq_false g1] at h1
      rw [decide_eq_true g2] at h2
      clear e g1 g2
      go_enter Tryz.func85, Tryz.ntmps85
      go_wp2_with (go_at_call 60; (with_reducible refine Calls.mono (cmp_any _ _ _) ?_); rintro r w2 ⟨rfl, hb2⟩; have Hb2 := Lib.hid ((Hb0.out _ _).trans (hb2.mono (Hb0.out _ _).size)); clear hb2)
      go_ret
      exact ⟨rfl, Hb2.out⟩
    · have e : youngI a1 b1 = 0 := by simp [youngI, g1, g2]
      rw [e]
      rw [decide_eq_false g1] at h1
      rw [decide_eq_false g2] at h2
      clear e g1 g2
      go_enter Tryz.func85, Tryz.ntmps85
      go_wp2_with fail
      go_ret
      exact ⟨rfl, Hb0.out _ _⟩

end Go.Proofs.YtpnbibokddhheaaGreat

/-
  order.Newer.
-/
namespace Go.Proofs.YtpnbibokddhheaaGreat
open Go.RowKit Go.Sort

def newerI (a b : Hd) : Int := orL [cmpI a.seq b.seq, cmpI a.sum b.sum, cmpI (goneI a.age) (goneI b.age), youngI a.age b.age]
def Hd.val (h : Hd) : Value := .agg #[.int .i64 h.age, .int .i64 h.kind, .int .i64 h.id, .int .i64 h.adv, .int .i64 h.seq, .int .i64 h.sum, .int .i64 h.long]

theorem lit4 (w : World) (x0 x1 x2 x3 : Int) (t : TypeId) : ∀ k, (hk : k < [x0, x1, x2, x3].length) → (w.alloc (.cells #[.int .i64 x0, .int .i64 x1, .int .i64 x2, .int .i64 x3] t)).cell? ⟨w.heap.size, k, none⟩ = some (.int .i64 [x0, x1, x2, x3][k]) := by
  intro k hk
  rw [(Blk.new w t _).cell k]
  match k, hk with
  | 0, _ => rfl
  | 1, _ => rfl
  | 2, _ => rfl
  | 3, _ => rfl

set_option maxHeartbeats 4000000 in
set_option maxRecDepth 100000 in
theorem newer_any (a1 a2 a3 a4 a5 a6 a7 b1 b2 b3 b4 b5 b6 b7 : Int) (w : World) (ha : 0 ≤ a1) (ha' : a1 ≤ 60) (hb : 0 ≤ b1) (hb' : b1 ≤ 60) {x : Int} (hx : newerI ⟨a1, a2, a3, a4, a5, a6, a7⟩ ⟨b1, b2, b3, b4, b5, b6, b7⟩ = x) :
    Calls Tryz.prog 49 #[.agg #[.int .i64 a1, .int .i64 a2, .int .i64 a3, .int .i64 a4, .int .i64 a5, .int .i64 a6, .int .i64 a7], .agg #[.int .i64 b1, .int .i64 b2, .int .i64 b3, .int .i64 b4, .int .i64 b5, .int .i64 b6, .int .i64 b7]] w
      fun r w' => r = .returned (.int .i64 x) ∧ Below w.heap.size w w' := by
  obtain ⟨w0, hW0⟩ : ∃ w0, (w.alloc (.cells #[.int .i64 a1, .int .i64 a2, .int .i64 a3, .int .i64 a4, .int .i64 a5, .int .i64 a6, .int .i64 a7] 27)).alloc (.cells #[.int .i64 b1, .int .i64 b2, .int .i64 b3, .int .i64 b4, .int .i64 b5, .int .i64 b6, .int .i64 b7] 27) = w0 := ⟨_, rfl⟩
  have hA : Blk w0 w.heap.size 27 #[.int .i64 a1, .int .i64 a2, .int .i64 a3, .int .i64 a4, .int .i64 a5, .int .i64 a6, .int .i64 a7] := by rw [← hW0]; exact (Blk.new w _ _).alloc _
  have hB : Blk w0 (w.heap.size + 1) 27 #[.int .i64 b1, .int .i64 b2, .int .i64 b3, .int .i64 b4, .int .i64 b5, .int .i64 b6, .int .i64 b7] := by rw [← hW0]; exact Blk.size (by simp)
  have Hb0 : Hid (Below w.heap.size w w0) := Lib.hid (by rw [← hW0]; exact ((Below.refl w.heap.size w).alloc (Nat.le_refl _) _).alloc (by simp) _)
  have hOr : ∀ W : World, Calls Tryz.prog 59 #[.slice (some ⟨W.heap.size, 0, none⟩) 4 4] (W.alloc (.cells #[.int .i64 (cmpI a5 b5), .int .i64 (cmpI a6 b6), .int .i64 (cmpI (goneI a1) (goneI b1)), .int .i64 (youngI a1 b1)] 3)) fun r w' => r = .returned (.int .i64 x) ∧ Below (W.alloc (.cells #[.int .i64 (cmpI a5 b5), .int .i64 (cmpI a6 b6), .int .i64 (cmpI (goneI a1) (goneI b1)), .int .i64 (youngI a1 b1)] 3)).heap.size (W.alloc (.cells #[.int .i64 (cmpI a5 b5), .int .i64 (cmpI a6 b6), .int .i64 (cmpI (goneI a1) (goneI b1)), .int .i64 (youngI a1 b1)] 3)) w' :=
    fun W => or_any [cmpI a5 b5, cmpI a6 b6, cmpI (goneI a1) (goneI b1), youngI a1 b1] (by simp) W.heap.size 4 _ (lit4 _ _ _ _ _ _) (by simp) 4 (by simp) hx
  have HOr := Lib.hid hOr
  clear hOr
  obtain ⟨a_0, a_1, a_2, a_3, a_4, a_5, a_6⟩ : _ ∧ _ ∧ _ ∧ _ ∧ _ ∧ _ ∧ _ := ⟨cell_regrown (hA.cell 0), cell_regrown (hA.cell 1), cell_regrown (hA.cell 2), cell_regrown (hA.cell 3), cell_regrown (hA.cell 4), cell_regrown (hA.cell 5), cell_regrown (hA.cell 6)⟩
  obtain ⟨b_0, b_1, b_2, b_3, b_4, b_5, b_6⟩ : _ ∧ _ ∧ _ ∧ _ ∧ _ ∧ _ ∧ _ := ⟨cell_regrown (hB.cell 0), cell_regrown (hB.cell 1), cell_regrown (hB.cell 2), cell_regrown (hB.cell 3), cell_regrown (hB.cell 4), cell_regrown (hB.cell 5), cell_regrown (hB.cell 6)⟩
  have cC : ∀ p q dd os, Calls Tryz.prog 60 #[.int .i64 p, .int .i64 q] (grow (redrawn w0 dd) os) fun r w'' => r = .returned (.int .i64 (cmpI p q)) ∧ ∃ p : Regrown, w'' = grow (redrawn w0 p.d) p.os := fun p q dd os => Calls.regrown_of (cmp_any p q _)
  have cG : ∀ a b c d e f g dd os, Calls Tryz.prog 84 #[.agg #[.int .i64 a, .int .i64 b, .int .i64 c, .int .i64 d, .int .i64 e, .int .i64 f, .int .i64 g]] (grow (redrawn w0 dd) os) fun r w'' => r = .returned (.int .i64 (goneI a)) ∧ ∃ p : Regrown, w'' = grow (redrawn w0 p.d) p.os := fun a b c d e f g dd os => Calls.regrown_of (gone_any a b c d e f g _)
  have cY : ∀ dd os, Calls Tryz.prog 85 #[.agg #[.int .i64 a1, .int .i64 a2, .int .i64 a3, .int .i64 a4, .int .i64 a5, .int .i64 a6, .int .i64 a7], .agg #[.int .i64 b1, .int .i64 b2, .int .i64 b3, .int .i64 b4, .int .i64 b5, .int .i64 b6, .int .i64 b7]] (grow (redrawn w0 dd) os) fun r w'' => r = .returned (.int .i64 (youngI a1 b1)) ∧ ∃ p : Regrown, w'' = grow (redrawn w0 p.d) p.os := fun dd os => Calls.regrown_of (young_any _ _ _ _ _ _ _ _ _ _ _ _ _ _ _ ha ha' hb hb')
  have CC := Lib.hid cC
  have CG := Lib.hid cG
  have CY := Lib.hid cY
  clear cC cG cY hA hB hx ha ha' hb hb'
  go_enter Tryz.func49, Tryz.ntmps49
  go_wp2_with fail
  refine wp_below_tail 18 (by kernel_rfl) (by kernel_rfl) ?_
  simp only [List.take_succ_cons, List.take_zero, List.drop_succ_cons, List.drop_zero]
  repeat (go_big_quiet_step (first | exact CC.out _ _ _ _ | exact CG.out _ _ _ _ _ _ _ _ _ | exact CY.out _ _))
  refine wpQuiet_nil ?_
  rintro w3 ⟨⟨dq, osq⟩, rfl⟩
  have hb3 := below_regrown w0 dq osq
  have Hb3 := Lib.hid (Hb0.out.trans (hb3.mono Hb0.out.size))
  generalize grow (redrawn w0 dq) osq = w3 at *
  clear hb3
  go_wp2_with (go_at_call 59; (with_reducible refine Calls.mono (HOr.out _) ?_); rintro r w4 ⟨rfl, hb4⟩; have Hb4 := Lib.hid ((Hb3.out.alloc Hb3.out.size _).trans (hb4.mono (Hb3.out.alloc Hb3.out.size _).size)); clear hb4)
  go_ret
  exact ⟨rfl, Hb4.out⟩

end Go.Proofs.YtpnbibokddhheaaGreat
