/-
  Layer 15: keys are answered by the descriptions that a database has of them.
-/
import Derived.Test.YtmjjmkdjjfmhhaaRdPut
import Derived.Test.YtmjjmkdjjfmhhaaWaAll
namespace Go.Proofs.Ytmjjmkdjjfmhhaa
open Go.RowKit Go.Sort

def foundB (M : List Lsa) (k : K3) : Bool := (getX k M).isSome
def gotV (M : List Lsa) (k : K3) : VX := vX ((getX k M).getD zeroX)
theorem gotV_some {M : List Lsa} {k : K3} {x : Lsa} (h : getX k M = some x) : gotV M k = vX x := by unfold gotV; rw [h]; rfl
def ansL (M : List Lsa) (ks : List K3) (t : Bool) : List VX := if t = true then ks.map (gotV M) else []
def AnsTo (w' : World) (v : Value) (M : List Lsa) (ks : List K3) (t : Bool) : Prop := ∃ O, XsAt w' 0 v O ∧ O.map vX = ansL M ks t
theorem own_zero {W : World} {v : Value} {L : List Lsa} (_h : XsAt W 0 v L) {x : Lsa} (hr : rowsX W x ∧ farX v x ∧ fromX 1 x ∧ (x.links.length ≤ 1000 ∧ x.members.length ≤ 1000)) : rowsX W x ∧ farX v x ∧ fromX 0 x ∧ (x.links.length ≤ 1000 ∧ x.members.length ≤ 1000) :=
  ⟨hr.1, hr.2.1, ⟨fun _ _ _ => Nat.zero_le _, fun _ _ _ => Nat.zero_le _⟩, hr.2.2.2⟩

set_option maxHeartbeats 8000000 in
set_option maxRecDepth 100000 in
theorem Answer_any (p b : Nat) (room : Int) (M : List Lsa) (A : Option Addr) (cap : Nat) (ks : List K3) (w : World) (B : Nat) (h : DbAt w p b room M) (hk : RowsAt 3 K3.cells w B A ks) (hB : B ≤ w.heap.size) (hlen : ks.length ≤ 1000) (n : Nat) (hn : n = ks.length) {t : Bool} (ht : ks.all (foundB M) = t) :
    Calls Try.prog 36 #[.pointer (some ⟨p, 0, none⟩), .slice A n cap] w fun r w' => ∃ v, r = .returned (.tuple #[v, .bool t]) ∧ AnsTo w' v M ks t ∧ Below w.heap.size w w' := by
  subst hn
  have HD := Lib.hid h
  have HK := Lib.hid (hk.more hB)
  have hw0 : 0 < w.heap.size := by have := h.ptr.lt; omega
  have Ht := Lib.hid ht
  clear h hk hB ht
  go_enter Try.func36, Try.ntmps36
  go_wp2
  go_loopw [6, 13] (fun o i wr => ∃ (j : Nat) (O : List Lsa), i = .int .i64 j ∧ j ≤ ks.length ∧ (ks.take j).all (foundB M) = true ∧ O.map vX = (ks.take j).map (gotV M) ∧ XsAt wr 0 o O ∧ (∀ m, o.ownBlock = some m → w.heap.size ≤ m) ∧ Below w.heap.size w wr) (fun _ i _ => ks.length - (intOf i).toNat)
  case atStart => exact ⟨0, [], rfl, Nat.zero_le _, rfl, rfl, XsAt.nil _ _, (by intro m e; cases e), Below.refl _ _⟩
  case round =>
    obtain ⟨j, O, rfl, hj, hall, hO, hxs, hnew, hb⟩ := hrel
    obtain ⟨A6, c6, hv6⟩ := hxs.own.shape
    subst hv6
    have hOl : O.length = j := by have := congrArg List.length hO; rw [List.length_map, List.length_map, List.length_take] at this; omega
    have HO := Lib.hid hO
    have Hall := Lib.hid hall
    have Hxs := Lib.hid hxs
    have Hnew := Lib.hid hnew
    have Hb := Lib.hid hb
    by_cases hlt : j < ks.length
    · obtain ⟨g, o, rfl, -, x0, x1, x2⟩ := row_k3b (HK.out.below hb) j hlt
      have hkl : (j : Int) < (ks.length : Int) := by omega
      have hsn := List.take_succ_eq_append_getElem hlt
      have hmem := List.getElem_mem hlt
      have Hlt := Lib.hid hlt
      have hOl2 : O.length ≤ 1000 := by omega
      generalize ks[j] = k at *
      obtain ⟨k1, k2, k3⟩ := k
      simp only at x0 x1 x2
      obtain ⟨u, hu⟩ : ∃ u, (getX ⟨k1, k2, k3⟩ M).getD zeroX = u := ⟨_, rfl⟩
      obtain ⟨is, his⟩ : ∃ is, (getX ⟨k1, k2, k3⟩ M).isSome = is := ⟨_, rfl⟩
      have hlens : u.links.length ≤ 1000 ∧ u.members.length ≤ 1000 := by
        rw [← hu]
        cases hg : getX ⟨k1, k2, k3⟩ M with
        | none => simp [zeroX]
        | some x => exact HD.out.lens x (getX_mem hg).1
      have hgv : gotV M ⟨k1, k2, k3⟩ = vX u := by unfold gotV; rw [hu]
      obtain ⟨⟨u1, u2, u3, u4, u5, u6, u7⟩, xa, xc, xs, va, vc, vs⟩ := u
      obtain ⟨ul, hul⟩ : ∃ ul, ul = xs.length := ⟨_, rfl⟩
      obtain ⟨um, hum⟩ : ∃ um, um = vs.length := ⟨_, rfl⟩
      obtain ⟨w8, hw8⟩ : ∃ w8, wr.alloc (.cells #[.int .i64 k1, .int .i64 k2, .int .i64 k3] 39) = w8 := ⟨_, rfl⟩
      have hb8 := below_new wr (.cells #[.int .i64 k1, .int .i64 k2, .int .i64 k3] 39)
      have hk8 := Blk.new wr 39 #[.int .i64 k1, .int .i64 k2, .int .i64 k3]
      rw [hw8] at hb8 hk8
      have HG := Lib.hid (DbGet p b room M k1 k2 k3 w8 ((HD.out.keep hb).keep hb8) hu his ul um hul hum)
      have Hb8 := Lib.hid (below_trans hb hb.size hb8)
      have Hx8 := Lib.hid (hxs.keep hb8)
      obtain ⟨q0, q1, q2⟩ : _ ∧ _ ∧ _ := ⟨hk8.cell 0, hk8.cell 1, hk8.cell 2⟩
      simp only [List.getElem?_toArray, List.getElem?_cons_zero, List.getElem?_cons_succ] at q0 q1 q2
      have Hul := Lib.hid (show _ ∧ _ ∧ _ ∧ _ from ⟨hul, hum, hlens⟩)
      have Hgv := Lib.hid hgv
      have Hsn := Lib.hid hsn
      have Hmem := Lib.hid hmem
      have His := Lib.hid his
      clear hO hall hxs hnew hb hOl hu his hul hum hlens hgv hsn hmem hb8 hk8 hlt
      go_wp2_with fail
      with_reducible refine Calls.mono HG.out ?_
      rintro r w9 ⟨Aa, ca, Ab, cb, rfl, oa, ob, hb9⟩
      have HX := Lib.hid (own_zero (Hx8.out.keep hb9) (seal_el (q := 0) Hx8.out.own (by have := Hb8.out.size; omega) Hul.out.1 Hul.out.2.1 Hul.out.2.2.1 Hul.out.2.2.2 oa ob (h := ⟨u1, u2, u3, u4, u5, u6, u7⟩)))
      have Hb9 := Lib.hid (below_trans Hb8.out Hb8.out.size hb9)
      have Hx9 := Lib.hid (Hx8.out.keep hb9)
      clear oa ob hb9 q0 q1 q2
      cases is with
      | false =>
        have hno : ks.all (foundB M) = false := by
          rw [List.all_eq_false]
          exact ⟨⟨k1, k2, k3⟩, Hmem.out, by unfold foundB; rw [His.out]; decide⟩
        obtain rfl : t = false := by rw [← Ht.out]; exact hno
        have Hbz := Lib.hid (fun o => Hb9.out.alloc Hb9.out.size o)
        clear hno
        go_wp2
        go_ret2
        exact ⟨_, rfl, ⟨[], XsAt.nil _ _, rfl⟩, Hbz.out _⟩
      | true =>
        have hall2 : (ks.take (j + 1)).all (foundB M) = true := by
          rw [Hsn.out, List.all_append, Hall.out]
          simp [foundB, His.out]
        have Hall2 := Lib.hid hall2
        have HO2 := Lib.hid (show (O ++ [(⟨⟨u1, u2, u3, u4, u5, u6, u7⟩, Aa, ca, xs, Ab, cb, vs⟩ : Lsa)]).map vX = (ks.take (j + 1)).map (gotV M) by
          rw [Hsn.out, List.map_append, List.map_append, HO.out, List.map_singleton, List.map_singleton, Hgv.out]
          rfl)
        have Hbk := Lib.hid (show ∀ o, Blk ((w9.alloc o).alloc (.cells #[.int .i64 u1, .int .i64 u2, .int .i64 u3, .int .i64 u4, .int .i64 u5, .int .i64 u6, .int .i64 u7, .slice Aa ul ca, .slice Ab um cb] 27)) (w9.heap.size + 1) 27 (Lsa.cells ⟨⟨u1, u2, u3, u4, u5, u6, u7⟩, Aa, ca, xs, Ab, cb, vs⟩).toArray from fun o => by
          unfold Lsa.cells
          simp only
          rw [← Hul.out.1, ← Hul.out.2.1]
          exact Blk.size (w := w9.alloc o) (by simp))
        have Hba := Lib.hid (fun o o' => (below_new w9 o).alloc (by simp) o')
        clear hall2
        go_wp2_with (at_builtin; (refine app_row Lsa.cells (fun _ => rfl) (by decide) (bytes := 104) (by decide) infoX rfl Try.underlying35 onesX (by rfl) _ _ (by rfl) 0 _ O (by rfl) (Hx9.out.own.below (Hba.out _ _)) (w9.heap.size + 1) ⟨⟨u1, u2, u3, u4, u5, u6, u7⟩, Aa, ca, xs, Ab, cb, vs⟩ (by rfl) (Hbk.out _) (by omega) (Nat.zero_le _) ?_); intro v6 w6 hown6 hg6 hor6; have Hx6 := Lib.hid ((Hx9.out.keep (Hba.out _ _)).app hown6 hg6 hor6 (HX.out.1.keep (Hba.out _ _)) HX.out.2.1 HX.out.2.2.1 HX.out.2.2.2); have Hn6 := Lib.hid (own_new Hnew.out hor6 (Nat.le_trans Hb9.out.size (Hba.out _ _).size)); have Hb6 := Lib.hid ((below_trans Hb9.out Hb9.out.size (Hba.out _ _)).grown hg6 (Nat.le_trans Hb9.out.size (Hba.out _ _).size) (fun m hm => Hnew.out m hm)); clear hown6 hg6 hor6)
        go_roundw
        case measure => have := Hlt.out; simp [intOf]; omega
        case rel => exact ⟨j + 1, _, by go_num, Hlt.out, Hall2.out, HO2.out, Hx6.out, Hn6.out, Hb6.out⟩
    · have hjj : j = ks.length := by omega
      rw [hjj, List.take_length] at hall hO
      obtain rfl : t = true := by rw [← Ht.out]; exact hall
      have HO2 := Lib.hid hO
      have hkl : ¬ (j : Int) < (ks.length : Int) := by omega
      clear hall hO hxs hnew hb hOl hjj
      go_wp2
      go_ret2
      exact ⟨.slice A6 O.length c6, rfl, ⟨O, Hxs.out, HO2.out⟩, Hb.out⟩

end Go.Proofs.Ytmjjmkdjjfmhhaa
