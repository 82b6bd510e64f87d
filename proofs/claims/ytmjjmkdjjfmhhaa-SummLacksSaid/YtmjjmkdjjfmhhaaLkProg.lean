/-
  Layer 13: what a database lacks of heads: the program's way.
-/
import Derived.Test.YtmjjmkdjjfmhhaaLkPlain
import Derived.Test.YtmjjmkdjjfmhhaaSuNil
import Derived.Test.YtmjjmkdjjfmhhaaQuietTail
namespace Go.Proofs.Ytmjjmkdjjfmhhaa
open Go.RowKit Go.Sort

theorem set_flatH13 (l : List Hd) (k : Nat) (c : Hd) (hk : k < l.length) :
    (l.set k c).flatMap Hd.cells = (((((((l.flatMap Hd.cells).set (k * 7) (.int .i64 c.age)).set (k * 7 + 1) (.int .i64 c.kind)).set (k * 7 + 2) (.int .i64 c.id)).set (k * 7 + 3) (.int .i64 c.adv)).set (k * 7 + 4) (.int .i64 c.seq)).set (k * 7 + 5) (.int .i64 c.sum)).set (k * 7 + 6) (.int .i64 c.long) := by
  induction l generalizing k with
  | nil => simp at hk
  | cons d l ih =>
    cases k with
    | zero => simp [Hd.cells]
    | succ k =>
      have h := ih k (by simpa using hk)
      simp only [List.set_cons_succ, List.flatMap_cons, h]
      have h4 : d.cells.length = 7 := rfl
      rw [List.set_append_right _ _ (by omega), List.set_append_right _ _ (by omega), List.set_append_right _ _ (by omega), List.set_append_right _ _ (by omega), List.set_append_right _ _ (by omega), List.set_append_right _ _ (by omega), List.set_append_right _ _ (by omega)]
      simp only [h4, show (k + 1) * 7 - 7 = k * 7 by omega, show (k + 1) * 7 + 1 - 7 = k * 7 + 1 by omega, show (k + 1) * 7 + 2 - 7 = k * 7 + 2 by omega, show (k + 1) * 7 + 3 - 7 = k * 7 + 3 by omega, show (k + 1) * 7 + 4 - 7 = k * 7 + 4 by omega, show (k + 1) * 7 + 5 - 7 = k * 7 + 5 by omega, show (k + 1) * 7 + 6 - 7 = k * 7 + 6 by omega]
section
variable {w : World} {B g cap n : Nat} {l : List Hd}
theorem OwnH13.set7 (h : OwnR 23 7 Hd.cells w B (.slice (some ⟨g, 0, none⟩) n cap) l) (hn : n = l.length) (k : Nat) (hk : k < l.length) (c : Hd) :
    OwnR 23 7 Hd.cells (((((((w.setCell ⟨g, k * 7, none⟩ (.int .i64 c.age)).setCell ⟨g, k * 7 + 1, none⟩ (.int .i64 c.kind)).setCell ⟨g, k * 7 + 2, none⟩ (.int .i64 c.id)).setCell ⟨g, k * 7 + 3, none⟩ (.int .i64 c.adv)).setCell ⟨g, k * 7 + 4, none⟩ (.int .i64 c.seq)).setCell ⟨g, k * 7 + 5, none⟩ (.int .i64 c.sum)).setCell ⟨g, k * 7 + 6, none⟩ (.int .i64 c.long)) B (.slice (some ⟨g, 0, none⟩) n cap) (l.set k c) := by
  subst hn
  unfold OwnR
  rw [set_flatH13 l k c hk, List.length_set]
  exact (((((((World.ownsRow.stored h (k * 7) (.int .i64 c.age)).1.stored (k * 7 + 1) (.int .i64 c.kind)).1.stored (k * 7 + 2) (.int .i64 c.id)).1.stored (k * 7 + 3) (.int .i64 c.adv)).1.stored (k * 7 + 4) (.int .i64 c.seq)).1.stored (k * 7 + 5) (.int .i64 c.sum)).1.stored (k * 7 + 6) (.int .i64 c.long)).1

end
section
variable {w w' : World} {B g cap n : Nat} {l : List Hd} {v0 : Value}
theorem OwnH13.frozen (h : OwnR 23 7 Hd.cells w B (.slice (some ⟨g, 0, none⟩) n cap) l) (i : Nat) : w.frozen? ⟨g, i, none⟩ = false := by
  rcases h.2 with ⟨hv, -⟩ | ⟨g', cap', cur, hv, -, hb, -⟩
  · cases hv
  · simp only [Value.slice.injEq, Option.some.injEq, Addr.mk.injEq, and_true] at hv
    obtain ⟨rfl, -, -⟩ := hv
    simp [World.frozen?, hb]
theorem grown7 (w : World) (g o : Nat) (a b c d e f x : Value) : w.grownBy (((((((w.setCell ⟨g, o, none⟩ a).setCell ⟨g, o + 1, none⟩ b).setCell ⟨g, o + 2, none⟩ c).setCell ⟨g, o + 3, none⟩ d).setCell ⟨g, o + 4, none⟩ e).setCell ⟨g, o + 5, none⟩ f).setCell ⟨g, o + 6, none⟩ x) (some g) :=
  (((((((World.grownBy.refl w (some g)).set rfl _).set rfl _).set rfl _).set rfl _).set rfl _).set rfl _).set rfl _
theorem below_set7k (h : Below B w w') (hg : B ≤ g) (o : Nat) (a b c d e f x : Value) : Below B w (((((((w'.setCell ⟨g, o, none⟩ a).setCell ⟨g, o + 1, none⟩ b).setCell ⟨g, o + 2, none⟩ c).setCell ⟨g, o + 3, none⟩ d).setCell ⟨g, o + 4, none⟩ e).setCell ⟨g, o + 5, none⟩ f).setCell ⟨g, o + 6, none⟩ x) :=
  ((((((h.setCell hg _).setCell hg _).setCell hg _).setCell hg _).setCell hg _).setCell hg _).setCell hg _
theorem row_own7 (h : OwnR 23 7 Hd.cells w B v0 l) (k : Nat) (hk : k < l.length) : ∃ g c, v0 = .slice (some ⟨g, 0, none⟩) l.length c ∧ w.cell? ⟨g, k * 7, none⟩ = some (.int .i64 l[k].age) ∧ w.cell? ⟨g, k * 7 + 1, none⟩ = some (.int .i64 l[k].kind) ∧ w.cell? ⟨g, k * 7 + 2, none⟩ = some (.int .i64 l[k].id) ∧ w.cell? ⟨g, k * 7 + 3, none⟩ = some (.int .i64 l[k].adv) ∧ w.cell? ⟨g, k * 7 + 4, none⟩ = some (.int .i64 l[k].seq) ∧ w.cell? ⟨g, k * 7 + 5, none⟩ = some (.int .i64 l[k].sum) ∧ w.cell? ⟨g, k * 7 + 6, none⟩ = some (.int .i64 l[k].long) := by
  rcases h.shape2 with ⟨-, hn⟩ | ⟨g, c, rfl, hc⟩
  · subst hn; simp at hk
  · obtain ⟨b, o, e, -, hcl⟩ := (OwnR.rows (C := 7) (cells := Hd.cells) (fun _ => rfl) h).2 (by omega)
    injection e with e
    injection e with e1 e2
    subst e1 e2
    have z := fun i u hi hu => hcl k hk i u hi hu
    simp only [Nat.zero_add] at z
    exact ⟨g, c, rfl, by simpa using z 0 _ (by omega) rfl, z 1 _ (by omega) rfl, z 2 _ (by omega) rfl, z 3 _ (by omega) rfl, z 4 _ (by omega) rfl, z 5 _ (by omega) rfl, z 6 _ (by omega) rfl⟩
theorem row_hd7 {A : Option Addr} (h : RowsAt 7 Hd.cells w B A l) (k : Nat) (hk : k < l.length) : ∃ b o, A = some ⟨b, o, none⟩ ∧ b < B ∧ w.cell? ⟨b, o + k * 7, none⟩ = some (.int .i64 l[k].age) ∧ w.cell? ⟨b, o + k * 7 + 1, none⟩ = some (.int .i64 l[k].kind) ∧ w.cell? ⟨b, o + k * 7 + 2, none⟩ = some (.int .i64 l[k].id) ∧ w.cell? ⟨b, o + k * 7 + 3, none⟩ = some (.int .i64 l[k].adv) ∧ w.cell? ⟨b, o + k * 7 + 4, none⟩ = some (.int .i64 l[k].seq) ∧ w.cell? ⟨b, o + k * 7 + 5, none⟩ = some (.int .i64 l[k].sum) ∧ w.cell? ⟨b, o + k * 7 + 6, none⟩ = some (.int .i64 l[k].long) := by
  obtain ⟨b, o, e, hb, hc⟩ := h (by omega)
  exact ⟨b, o, e, hb, by simpa using hc k hk 0 _ (by omega) rfl, hc k hk 1 _ (by omega) rfl, hc k hk 2 _ (by omega) rfl, hc k hk 3 _ (by omega) rfl, hc k hk 4 _ (by omega) rfl, hc k hk 5 _ (by omega) rfl, hc k hk 6 _ (by omega) rfl⟩
end
set_option maxHeartbeats 8000000 in
set_option maxRecDepth 100000 in
theorem Lacks_any (p bd : Nat) (room : Int) (M : List Lsa) (A : Option Addr) (c : Nat) (hs : List Hd) (w : World) (B : Nat) (hdb : DbAt w p bd room M) (hag : ages13 M) (hR : RowsAt 7 Hd.cells w B A hs) (hB : B ≤ w.heap.size) (hm : hs.length ≤ 2 ^ 20) (hha : agesH hs) (nn : Nat) (hnn : nn = hs.length) :
    Calls Try.prog 38 #[.pointer (some ⟨p, 0, none⟩), .slice A nn c] w fun r w' => (∃ v, r = .returned v ∧ OwnR 23 7 Hd.cells w' w.heap.size v (lackAll M hs)) ∧ Below w.heap.size w w' := by
  subst hnn
  have HDb := Lib.hid hdb
  have HAg := Lib.hid hag
  have HR := Lib.hid hR
  have HHa := Lib.hid hha
  have hm' : (hs.length : Int) ≤ 9223372036854775807 := by omega
  obtain ⟨b, hb⟩ : ∃ b, w.heap.size = b := ⟨_, rfl⟩
  have Hbw := Lib.hid (show b = w.heap.size from hb.symm)
  have hmm := @run_makeMap Try.prog
  have HM0 := Lib.hid (MapAt.new (enc := K3.enc) w)
  clear hdb hag hR hha
  go_enter Try.func38, Try.ntmps38
  go_wp2
  clear hmm hb
  go_loopw [5, 17] (fun v i wr => ∃ (k : Nat) (S : List (K3 × Value)), i = .int .i64 k ∧ k ≤ hs.length ∧ OwnR 23 7 Hd.cells wr (w.heap.size + 1) v (lackAll M (hs.take k)) ∧ MapAt K3.enc wr b S ∧ AtIs S (lackAll M (hs.take k)) ∧ Below w.heap.size w wr) (fun _ i _ => hs.length - (intOf i).toNat)
  case atStart => exact ⟨0, [], rfl, Nat.zero_le _, OwnR.nil _ _, by rw [Hbw.out]; exact HM0.out, AtIs.nil, (Below.refl _ _).alloc (Nat.le_refl _) _⟩
  case round =>
    obtain ⟨k, S, rfl, hk, hown, hmap, hat, hbel⟩ := hrel
    obtain ⟨A7, c7, hv7⟩ := hown.shape
    subst hv7
    by_cases hlt : k < hs.length
    · obtain ⟨g, o, hA, -, x0, x1, x2, x3, x4, x5, x6⟩ := row_hd7 (HR.out.below (hbel.mono hB)) k hlt
      have hya := HHa.out hs[k] (List.getElem_mem hlt)
      have hkl : (k : Int) < (hs.length : Int) := by omega
      have hmore := lack_more M hlt
      have hta : agesH (hs.take k) := fun x hx => HHa.out x (List.mem_of_mem_take hx)
      have hoa := lack_ages (M := M) hta
      have hol : (lackAll M (hs.take k)).length ≤ 2 ^ 20 := Nat.le_trans (lack_len hta) (by rw [List.length_take]; omega)
      have HA := Lib.hid hA
      rw [hA]
      have Hlt := Lib.hid hlt
      generalize hs[k] = x at *
      obtain ⟨y1, y2, y3, y4, y5, y6, y7⟩ := x
      simp only at x0 x1 x2 x3 x4 x5 x6 hya
      obtain ⟨O, hO⟩ : ∃ O, lackAll M (hs.take k) = O := ⟨_, rfl⟩
      rw [hO] at hown hat hmore hoa hol ⊢
      have Hmore := Lib.hid hmore
      have HOa := Lib.hid hoa
      have HOl := Lib.hid hol
      have HAt := Lib.hid hat
      have Hya := Lib.hid hya
      obtain ⟨w8, hw8⟩ : ∃ w8, wr.alloc (.cells #[.int .i64 y1, .int .i64 y2, .int .i64 y3, .int .i64 y4, .int .i64 y5, .int .i64 y6, .int .i64 y7] 23) = w8 := ⟨_, rfl⟩
      obtain ⟨g8, hg8⟩ : ∃ g8, wr.heap.size = g8 := ⟨_, rfl⟩
      have hk8 := Blk.new wr 23 #[.int .i64 y1, .int .i64 y2, .int .i64 y3, .int .i64 y4, .int .i64 y5, .int .i64 y6, .int .i64 y7]
      have hb8 := below_new wr (.cells #[.int .i64 y1, .int .i64 y2, .int .i64 y3, .int .i64 y4, .int .i64 y5, .int .i64 y6, .int .i64 y7] 23)
      rw [hw8, hg8] at hk8
      rw [hw8] at hb8
      have K8 := Lib.hid hk8
      have O8 := Lib.hid (hown.below hb8)
      have M8 := Lib.hid (hmap.below hb8 hmap.lt)
      have B8 := Lib.hid (below_trans hbel hbel.size hb8)
      have HBg := Lib.hid (show g8 ≠ b by have := hmap.lt; omega)
      obtain ⟨z0, z1, z2, z3, z4, z5, z6⟩ := blk7n hk8
      clear hk8 hb8 hmap hbel hown hat hmore hoa hol hta hya hA hlt hO hk
      go_wp2_with fail
      with_reducible refine Calls.mono (keyOf_any _ _ _ _ _ _ _ _) ?_
      rintro r w9 ⟨rfl, hb9⟩
      obtain ⟨w10, hw10⟩ : ∃ w10, w9.alloc (.cells #[.int .i64 y2, .int .i64 y3, .int .i64 y4] 39) = w10 := ⟨_, rfl⟩
      obtain ⟨g10, hg10⟩ : ∃ g10, w9.heap.size = g10 := ⟨_, rfl⟩
      have hk10 := Blk.new w9 39 #[.int .i64 y2, .int .i64 y3, .int .i64 y4]
      have hb10 := below_new w9 (.cells #[.int .i64 y2, .int .i64 y3, .int .i64 y4] 39)
      rw [hw10, hg10] at hk10
      rw [hw10] at hb10
      have hb910 := below_trans hb9 hb9.size hb10
      have K10 := Lib.hid hk10
      have H10 := Lib.hid (K8.out.below hb910 K8.out.lt)
      have O10 := Lib.hid (O8.out.below hb910)
      have M10 := Lib.hid (M8.out.below hb910 M8.out.lt)
      have B10 := Lib.hid (below_trans B8.out B8.out.size hb910)
      obtain ⟨q0, q1, q2⟩ := blk3n hk10
      obtain ⟨u, hu⟩ : ∃ u, (getX ⟨y2, y3, y4⟩ M).getD zeroX = u := ⟨_, rfl⟩
      obtain ⟨is, his⟩ : ∃ is, (getX ⟨y2, y3, y4⟩ M).isSome = is := ⟨_, rfl⟩
      obtain ⟨⟨u1, u2, u3, u4, u5, u6, u7⟩, xa, xc, xs, va, vc, vs⟩ := u
      obtain ⟨ul, hul⟩ : ∃ ul, ul = xs.length := ⟨_, rfl⟩
      obtain ⟨um, hum⟩ : ∃ um, um = vs.length := ⟨_, rfl⟩
      have HG := Lib.hid (DbGet p bd room M y2 y3 y4 w10 (HDb.out.keep B10.out) hu his ul um hul hum)
      have Hu := Lib.hid hu
      have His := Lib.hid his
      clear hk10 hb10 hb9 hb910 z0 z1 z2 z3 z4 z5 z6 hu his hul hum
      go_wp2_with fail
      with_reducible refine Calls.mono HG.out ?_
      rintro r w11 ⟨Aa, ca, Ab, cb, rfl, -, -, hb11⟩
      obtain ⟨w12, hw12⟩ : ∃ w12, w11.alloc (.cells #[.int .i64 u1, .int .i64 u2, .int .i64 u3, .int .i64 u4, .int .i64 u5, .int .i64 u6, .int .i64 u7, .slice Aa ul ca, .slice Ab um cb] 27) = w12 := ⟨_, rfl⟩
      obtain ⟨g12, hg12⟩ : ∃ g12, w11.heap.size = g12 := ⟨_, rfl⟩
      have hk12 := Blk.new w11 27 #[.int .i64 u1, .int .i64 u2, .int .i64 u3, .int .i64 u4, .int .i64 u5, .int .i64 u6, .int .i64 u7, .slice Aa ul ca, .slice Ab um cb]
      have hb12 := below_new w11 (.cells #[.int .i64 u1, .int .i64 u2, .int .i64 u3, .int .i64 u4, .int .i64 u5, .int .i64 u6, .int .i64 u7, .slice Aa ul ca, .slice Ab um cb] 27)
      rw [hw12, hg12] at hk12
      rw [hw12] at hb12
      have hb12' : Below w10.heap.size w10 w12 := below_trans hb11 hb11.size hb12
      have K12 := Lib.hid (K10.out.below hb12' K10.out.lt)
      have H12 := Lib.hid (H10.out.below hb12' H10.out.lt)
      have O12 := Lib.hid (O10.out.below hb12')
      have M12 := Lib.hid (M10.out.below hb12' M10.out.lt)
      have B12 := Lib.hid (below_trans B10.out B10.out.size hb12')
      obtain ⟨a0, a1, a2, a3, a4, a5, a6, a7, a8, af⟩ := blk9 hk12
      clear hb11 hb12 hb12' hk12 q0 q1 q2
      cases is with
      | false =>
        have hno : ¬ hasIt M ⟨y1, y2, y3, y4, y5, y6, y7⟩ = true := by
          have := His.out
          unfold hasIt
          cases hg : getX (keyH ⟨y1, y2, y3, y4, y5, y6, y7⟩) M with
          | none => simp
          | some a => rw [show getX ⟨y2, y3, y4⟩ M = some a from hg] at this; cases this
        have HNo := Lib.hid hno
        clear hno a0 a1 a2 a3 a4 a5 a6 a7 a8 af
        obtain ⟨WB, hWB⟩ : ∃ WB, WB = w12 := ⟨_, rfl⟩
        subst hWB
        have KB := K12
        have HB := H12
        have OB := O12
        have MB := M12
        have BB := B12
        have hl0 := MB.out.look_run keyK3 Try.underlying131 (zeroI13 _) ⟨y2, y3, y4⟩ true
        rw [HAt.out ⟨y2, y3, y4⟩] at hl0
        obtain ⟨q0, q1, q2⟩ := blk3n KB.out
        obtain ⟨z0, z1, z2, z3, z4, z5, z6⟩ := blk7n HB.out
        rcases placeH_get (k := ⟨y2, y3, y4⟩) (L := O) with ⟨h1, h2⟩ | ⟨j, hj, h1, h2, h3, h4⟩
        · have hput : lackStep M O ⟨y1, y2, y3, y4, y5, y6, y7⟩ = O ++ [⟨y1, y2, y3, y4, y5, y6, y7⟩] := by
            unfold lackStep putIt; rw [if_neg HNo.out, show getH (keyH ⟨y1, y2, y3, y4, y5, y6, y7⟩) O = none from h2]
          simp only [if_true, K3.enc, if_pos h1, Option.getD, Option.isSome] at hl0
          have HP := Lib.hid hput
          have H1 := Lib.hid h1
          clear hput h1 h2
          go_wp2_with (first
            | (at_mapUpdate; (refine wpList_update_st _ (by rfl) _ _ _ 131 (by rfl) 39 3 keyK3 Try.underlying131 (by rfl) MB.out ⟨y2, y3, y4⟩ (by rfl) (.int .i64 O.length) (by rfl) ?_); intro w13 hm13 hg13 hs13; have M13 := Lib.hid hm13; have O13 := Lib.hid (OB.out.kept hg13 (.inr (fun e => by have := (OB.out.block _ e).1; have := Hbw.out; omega))); have hb13 : Below w.heap.size w w13 := BB.out.grown hg13 BB.out.size (fun k e => by injection e with e; have := Hbw.out; omega); have H13 := Lib.hid (HB.out.grown hg13 (fun e => HBg.out (by injection e))); have B13 := Lib.hid hb13; clear hm13 hg13 hs13 hb13; obtain ⟨s0, s1, s2, s3, s4, s5, s6⟩ := blk7n H13.out)
            | (at_builtin; (refine app_row Hd.cells (fun _ => rfl) (by decide) (bytes := 56) (by decide) infoHd13 rfl Try.underlying37 onesHd13 (by rfl) _ _ (by rfl) (w.heap.size + 1) _ O (by rfl) (O13.out.alloc _) w13.heap.size ⟨y1, y2, y3, y4, y5, y6, y7⟩ (by rfl) (Blk.new _ _ _) (by have := HOl.out; omega) (by have := M13.out.lt; have := Hbw.out; simp; omega) ?_); intro v14 w14 hown14 hg14 hor14; have O14 := Lib.hid hown14; have M14 := Lib.hid ((M13.out.alloc _).grown hg14 (fun e => by have := (O13.out.block _ e.symm).1; have := Hbw.out; omega)); have B14 := Lib.hid (show Below w.heap.size w w14 from (B13.out.alloc B13.out.size _).grown hg14 (by have := B13.out.size; simp; omega) (fun m e => by have := (O13.out.block _ e).1; omega)); clear hown14 hg14 hor14)
            | fail)
          go_roundw
          case measure => have := Hlt.out; simp only [intOf]; omega
          case rel => exact ⟨k + 1, _, by go_num, Hlt.out, by rw [Hmore.out, HP.out]; exact O14.out, M14.out, by rw [Hmore.out, HP.out]; exact HAt.out.snoc ⟨y1, y2, y3, y4, y5, y6, y7⟩ H1.out, B14.out⟩
        · have hj0 : ¬ (j : Int) < 0 := by omega
          have hjl : (j : Int) < (O.length : Int) := by omega
          simp only [if_true, K3.enc, h1, if_neg hj0, Option.getD, Option.isSome] at hl0
          have hput : lackStep M O ⟨y1, y2, y3, y4, y5, y6, y7⟩ = if 0 < newerI ⟨y1, y2, y3, y4, y5, y6, y7⟩ O[j] then O.set j ⟨y1, y2, y3, y4, y5, y6, y7⟩ else O := by
            unfold lackStep putIt; rw [if_neg HNo.out, show getH (keyH ⟨y1, y2, y3, y4, y5, y6, y7⟩) O = some O[j] from h2, h4 ⟨y1, y2, y3, y4, y5, y6, y7⟩ rfl]
          have hoa := HOa.out O[j] (List.getElem_mem hj)
          obtain ⟨g7, c8, hv, e0, e1, e2, e3, e4, e5, e6⟩ := row_own7 OB.out j hj
          injection hv with hA hnn hcc
          subst hA hcc
          have Hj := Lib.hid hj
          have Hkj := Lib.hid h3
          generalize hx : O[j] = x at hput hoa e0 e1 e2 e3 e4 e5 e6
          obtain ⟨x1, x2, x3, x4, x5, x6, x7⟩ := x
          simp only at e0 e1 e2 e3 e4 e5 e6 hoa
          obtain ⟨m2, hm2⟩ : ∃ m, newerI ⟨y1, y2, y3, y4, y5, y6, y7⟩ ⟨x1, x2, x3, x4, x5, x6, x7⟩ = m := ⟨_, rfl⟩
          rw [hm2] at hput
          have HP := Lib.hid hput
          have CN := Lib.hid (fun dd os => Calls.regrown_of (w := WB) (d := dd) (os := os) (newer_any y1 y2 y3 y4 y5 y6 y7 x1 x2 x3 x4 x5 x6 x7 _ Hya.out.1 Hya.out.2 hoa.1 hoa.2 hm2))
          clear hput h1 h2 h3 h4 hx hm2 hoa hnn
          go_upto_region 13 with fail
          have z0 := cell_regrown z0
          have z1 := cell_regrown z1
          have z2 := cell_regrown z2
          have z3 := cell_regrown z3
          have z4 := cell_regrown z4
          have z5 := cell_regrown z5
          have z6 := cell_regrown z6
          have e0 := cell_regrown e0
          have e1 := cell_regrown e1
          have e2 := cell_regrown e2
          have e3 := cell_regrown e3
          have e4 := cell_regrown e4
          have e5 := cell_regrown e5
          have e6 := cell_regrown e6
          refine wp_below_tail 6 (by kernel_rfl) (by kernel_rfl) ?_
          simp only [List.take_succ_cons, List.take_zero, List.drop_succ_cons, List.drop_zero]
          repeat (go_big_quiet_step (exact CN.out _ _))
          refine wpQuiet_nil ?_
          rintro w15 ⟨⟨dq, osq⟩, rfl⟩
          have hb15 := below_regrown WB dq osq
          generalize grow (redrawn WB dq) osq = w15 at *
          have O15 := Lib.hid (OB.out.below hb15)
          have M15 := Lib.hid (MB.out.below hb15 MB.out.lt)
          have B15 := Lib.hid (below_trans BB.out BB.out.size hb15)
          have H15 := Lib.hid (HB.out.below hb15 HB.out.lt)
          clear hb15 z0 z1 z2 z3 z4 z5 z6 e0 e1 e2 e3 e4 e5 e6 q0 q1 q2 hl0 CN
          by_cases hm1 : 0 < m2
          · rw [if_pos hm1] at HP
            have hm1' : m2 > 0 := hm1
            have hfz := fun i => OwnH13.frozen O15.out i
            obtain ⟨z0, z1, z2, z3, z4, z5, z6⟩ := blk7n H15.out
            obtain ⟨g9, c9, hv9, e0, e1, e2, e3, e4, e5, e6⟩ := row_own7 O15.out j Hj.out
            injection hv9 with hA9 hnn9 hcc9
            injection hA9 with hA9
            injection hA9 with hA9
            subst hA9 hcc9
            go_wp2
            go_roundw
            case measure => have := Hlt.out; simp only [intOf]; omega
            case rel => exact ⟨k + 1, _, by go_num, Hlt.out, by rw [Hmore.out, HP.out, show O.length = (O.set j ⟨y1, y2, y3, y4, y5, y6, y7⟩).length by simp]; exact OwnH13.set7 (by simpa using O15.out) (by simp) j Hj.out ⟨y1, y2, y3, y4, y5, y6, y7⟩, M15.out.grown (grown7 _ _ _ _ _ _ _ _ _ _) (fun e => by injection e with e; have := (O15.out.block g7 rfl).1; have := Hbw.out; omega), by rw [Hmore.out, HP.out]; exact HAt.out.set ⟨y1, y2, y3, y4, y5, y6, y7⟩ j Hj.out Hkj.out, below_set7k B15.out (by have := (O15.out.block g7 rfl).1; have := Hbw.out; omega) _ _ _ _ _ _ _ _⟩
          · rw [if_neg hm1] at HP
            have hm1' : ¬ m2 > 0 := hm1
            go_wp2
            go_roundw
            case measure => have := Hlt.out; simp only [intOf]; omega
            case rel => exact ⟨k + 1, _, by go_num, Hlt.out, by rw [Hmore.out, HP.out]; exact O15.out, M15.out, by rw [Hmore.out, HP.out]; exact HAt.out, B15.out⟩
      | true =>
        obtain ⟨m, hm1⟩ : ∃ m, newerI ⟨y1, y2, y3, y4, y5, y6, y7⟩ ⟨u1, u2, u3, u4, u5, u6, u7⟩ = m := ⟨_, rfl⟩
        have hgx : getX (keyH ⟨y1, y2, y3, y4, y5, y6, y7⟩) M = some ⟨⟨u1, u2, u3, u4, u5, u6, u7⟩, xa, xc, xs, va, vc, vs⟩ := by
          have h1 := His.out
          have h2 := Hu.out
          cases hg : getX ⟨y2, y3, y4⟩ M with
          | none => rw [hg] at h1; cases h1
          | some a => rw [hg] at h2; rw [show getX (keyH ⟨y1, y2, y3, y4, y5, y6, y7⟩) M = some a from hg]; exact congrArg some h2
        have hua := HAg.out _ (getX_mem hgx).1
        simp only at hua
        have hhas : hasIt M ⟨y1, y2, y3, y4, y5, y6, y7⟩ = decide (m ≤ 0) := by
          unfold hasIt
          rw [hgx]
          simp only
          rw [hm1]
        obtain ⟨z0, z1, z2, z3, z4, z5, z6⟩ := blk7n H12.out
        have HN := Lib.hid (newer_any y1 y2 y3 y4 y5 y6 y7 u1 u2 u3 u4 u5 u6 u7 w12 Hya.out.1 Hya.out.2 hua.1 hua.2 hm1)
        have Hhas := Lib.hid hhas
        clear hgx hua hhas hm1
        go_wp2_with fail
        with_reducible refine Calls.mono HN.out ?_
        rintro r WB ⟨rfl, hb13⟩
        have KB := Lib.hid (K12.out.below hb13 K12.out.lt)
        have HB := Lib.hid (H12.out.below hb13 H12.out.lt)
        have OB := Lib.hid (O12.out.below hb13)
        have MB := Lib.hid (M12.out.below hb13 M12.out.lt)
        have BB := Lib.hid (below_trans B12.out B12.out.size hb13)
        clear hb13 a0 a1 a2 a3 a4 a5 a6 a7 a8 af z0 z1 z2 z3 z4 z5 z6
        by_cases hm0 : m ≤ 0
        · have HP := Lib.hid (show lackStep M O ⟨y1, y2, y3, y4, y5, y6, y7⟩ = O by unfold lackStep; rw [if_pos (by rw [Hhas.out]; exact decide_eq_true hm0)])
          go_wp2
          go_roundw
          case measure => have := Hlt.out; simp only [intOf]; omega
          case rel => exact ⟨k + 1, _, by go_num, Hlt.out, by rw [Hmore.out, HP.out]; exact OB.out, MB.out, by rw [Hmore.out, HP.out]; exact HAt.out, BB.out⟩
        · have HNo := Lib.hid (show ¬ hasIt M ⟨y1, y2, y3, y4, y5, y6, y7⟩ = true by rw [Hhas.out]; simpa using hm0)
          have hl0 := MB.out.look_run keyK3 Try.underlying131 (zeroI13 _) ⟨y2, y3, y4⟩ true
          rw [HAt.out ⟨y2, y3, y4⟩] at hl0
          obtain ⟨q0, q1, q2⟩ := blk3n KB.out
          obtain ⟨z0, z1, z2, z3, z4, z5, z6⟩ := blk7n HB.out
          rcases placeH_get (k := ⟨y2, y3, y4⟩) (L := O) with ⟨h1, h2⟩ | ⟨j, hj, h1, h2, h3, h4⟩
          · have hput : lackStep M O ⟨y1, y2, y3, y4, y5, y6, y7⟩ = O ++ [⟨y1, y2, y3, y4, y5, y6, y7⟩] := by
              unfold lackStep putIt; rw [if_neg HNo.out, show getH (keyH ⟨y1, y2, y3, y4, y5, y6, y7⟩) O = none from h2]
            simp only [if_true, K3.enc, if_pos h1, Option.getD, Option.isSome] at hl0
            have HP := Lib.hid hput
            have H1 := Lib.hid h1
            clear hput h1 h2
            go_wp2_with (first
              | (at_mapUpdate; (refine wpList_update_st _ (by rfl) _ _ _ 131 (by rfl) 39 3 keyK3 Try.underlying131 (by rfl) MB.out ⟨y2, y3, y4⟩ (by rfl) (.int .i64 O.length) (by rfl) ?_); intro w13 hm13 hg13 hs13; have M13 := Lib.hid hm13; have O13 := Lib.hid (OB.out.kept hg13 (.inr (fun e => by have := (OB.out.block _ e).1; have := Hbw.out; omega))); have hb13 : Below w.heap.size w w13 := BB.out.grown hg13 BB.out.size (fun k e => by injection e with e; have := Hbw.out; omega); have H13 := Lib.hid (HB.out.grown hg13 (fun e => HBg.out (by injection e))); have B13 := Lib.hid hb13; clear hm13 hg13 hs13 hb13; obtain ⟨s0, s1, s2, s3, s4, s5, s6⟩ := blk7n H13.out)
              | (at_builtin; (refine app_row Hd.cells (fun _ => rfl) (by decide) (bytes := 56) (by decide) infoHd13 rfl Try.underlying37 onesHd13 (by rfl) _ _ (by rfl) (w.heap.size + 1) _ O (by rfl) (O13.out.alloc _) w13.heap.size ⟨y1, y2, y3, y4, y5, y6, y7⟩ (by rfl) (Blk.new _ _ _) (by have := HOl.out; omega) (by have := M13.out.lt; have := Hbw.out; simp; omega) ?_); intro v14 w14 hown14 hg14 hor14; have O14 := Lib.hid hown14; have M14 := Lib.hid ((M13.out.alloc _).grown hg14 (fun e => by have := (O13.out.block _ e.symm).1; have := Hbw.out; omega)); have B14 := Lib.hid (show Below w.heap.size w w14 from (B13.out.alloc B13.out.size _).grown hg14 (by have := B13.out.size; simp; omega) (fun m e => by have := (O13.out.block _ e).1; omega)); clear hown14 hg14 hor14)
              | fail)
            go_roundw
            case measure => have := Hlt.out; simp only [intOf]; omega
            case rel => exact ⟨k + 1, _, by go_num, Hlt.out, by rw [Hmore.out, HP.out]; exact O14.out, M14.out, by rw [Hmore.out, HP.out]; exact HAt.out.snoc ⟨y1, y2, y3, y4, y5, y6, y7⟩ H1.out, B14.out⟩
          · have hj0 : ¬ (j : Int) < 0 := by omega
            have hjl : (j : Int) < (O.length : Int) := by omega
            simp only [if_true, K3.enc, h1, if_neg hj0, Option.getD, Option.isSome] at hl0
            have hput : lackStep M O ⟨y1, y2, y3, y4, y5, y6, y7⟩ = if 0 < newerI ⟨y1, y2, y3, y4, y5, y6, y7⟩ O[j] then O.set j ⟨y1, y2, y3, y4, y5, y6, y7⟩ else O := by
              unfold lackStep putIt; rw [if_neg HNo.out, show getH (keyH ⟨y1, y2, y3, y4, y5, y6, y7⟩) O = some O[j] from h2, h4 ⟨y1, y2, y3, y4, y5, y6, y7⟩ rfl]
            have hoa := HOa.out O[j] (List.getElem_mem hj)
            obtain ⟨g7, c8, hv, e0, e1, e2, e3, e4, e5, e6⟩ := row_own7 OB.out j hj
            injection hv with hA hnn hcc
            subst hA hcc
            have Hj := Lib.hid hj
            have Hkj := Lib.hid h3
            generalize hx : O[j] = x at hput hoa e0 e1 e2 e3 e4 e5 e6
            obtain ⟨x1, x2, x3, x4, x5, x6, x7⟩ := x
            simp only at e0 e1 e2 e3 e4 e5 e6 hoa
            obtain ⟨m2, hm2⟩ : ∃ m, newerI ⟨y1, y2, y3, y4, y5, y6, y7⟩ ⟨x1, x2, x3, x4, x5, x6, x7⟩ = m := ⟨_, rfl⟩
            rw [hm2] at hput
            have HP := Lib.hid hput
            have CN := Lib.hid (fun dd os => Calls.regrown_of (w := WB) (d := dd) (os := os) (newer_any y1 y2 y3 y4 y5 y6 y7 x1 x2 x3 x4 x5 x6 x7 _ Hya.out.1 Hya.out.2 hoa.1 hoa.2 hm2))
            clear hput h1 h2 h3 h4 hx hm2 hoa hnn
            go_upto_region 13 with fail
            have z0 := cell_regrown z0
            have z1 := cell_regrown z1
            have z2 := cell_regrown z2
            have z3 := cell_regrown z3
            have z4 := cell_regrown z4
            have z5 := cell_regrown z5
            have z6 := cell_regrown z6
            have e0 := cell_regrown e0
            have e1 := cell_regrown e1
            have e2 := cell_regrown e2
            have e3 := cell_regrown e3
            have e4 := cell_regrown e4
            have e5 := cell_regrown e5
            have e6 := cell_regrown e6
            refine wp_below_tail 6 (by kernel_rfl) (by kernel_rfl) ?_
            simp only [List.take_succ_cons, List.take_zero, List.drop_succ_cons, List.drop_zero]
            repeat (go_big_quiet_step (exact CN.out _ _))
            refine wpQuiet_nil ?_
            rintro w15 ⟨⟨dq, osq⟩, rfl⟩
            have hb15 := below_regrown WB dq osq
            generalize grow (redrawn WB dq) osq = w15 at *
            have O15 := Lib.hid (OB.out.below hb15)
            have M15 := Lib.hid (MB.out.below hb15 MB.out.lt)
            have B15 := Lib.hid (below_trans BB.out BB.out.size hb15)
            have H15 := Lib.hid (HB.out.below hb15 HB.out.lt)
            clear hb15 z0 z1 z2 z3 z4 z5 z6 e0 e1 e2 e3 e4 e5 e6 q0 q1 q2 hl0 CN
            by_cases hm1 : 0 < m2
            · rw [if_pos hm1] at HP
              have hm1' : m2 > 0 := hm1
              have hfz := fun i => OwnH13.frozen O15.out i
              obtain ⟨z0, z1, z2, z3, z4, z5, z6⟩ := blk7n H15.out
              obtain ⟨g9, c9, hv9, e0, e1, e2, e3, e4, e5, e6⟩ := row_own7 O15.out j Hj.out
              injection hv9 with hA9 hnn9 hcc9
              injection hA9 with hA9
              injection hA9 with hA9
              subst hA9 hcc9
              go_wp2
              go_roundw
              case measure => have := Hlt.out; simp only [intOf]; omega
              case rel => exact ⟨k + 1, _, by go_num, Hlt.out, by rw [Hmore.out, HP.out, show O.length = (O.set j ⟨y1, y2, y3, y4, y5, y6, y7⟩).length by simp]; exact OwnH13.set7 (by simpa using O15.out) (by simp) j Hj.out ⟨y1, y2, y3, y4, y5, y6, y7⟩, M15.out.grown (grown7 _ _ _ _ _ _ _ _ _ _) (fun e => by injection e with e; have := (O15.out.block g7 rfl).1; have := Hbw.out; omega), by rw [Hmore.out, HP.out]; exact HAt.out.set ⟨y1, y2, y3, y4, y5, y6, y7⟩ j Hj.out Hkj.out, below_set7k B15.out (by have := (O15.out.block g7 rfl).1; have := Hbw.out; omega) _ _ _ _ _ _ _ _⟩
            · rw [if_neg hm1] at HP
              have hm1' : ¬ m2 > 0 := hm1
              go_wp2
              go_roundw
              case measure => have := Hlt.out; simp only [intOf]; omega
              case rel => exact ⟨k + 1, _, by go_num, Hlt.out, by rw [Hmore.out, HP.out]; exact O15.out, M15.out, by rw [Hmore.out, HP.out]; exact HAt.out, B15.out⟩
    · have hke : k = hs.length := by omega
      subst hke
      have hkl : ¬ (hs.length : Int) < (hs.length : Int) := by omega
      rw [List.take_length] at hown ⊢
      have O5 := Lib.hid hown
      have B5 := Lib.hid hbel
      clear hown hbel hat hmap hlt
      have hS5 : OwnR 23 7 Hd.cells wr w.heap.size (.slice A7 (lackAll M hs).length c7) (lackAll M hs) := O5.out.lower (by omega)
      have S5 := Lib.hid hS5
      clear hS5
      go_wp2
      go_ret
      exact ⟨⟨_, rfl, S5.out⟩, B5.out⟩

end Go.Proofs.Ytmjjmkdjjfmhhaa
