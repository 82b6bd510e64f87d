/-
  The law FloodLan: its walk.
-/
import Derived.Test.YtfhikkmgclkcdaaFlLanM
namespace Go.Proofs.Ytfhikkmgclkcdaa
open Go.RowKit Go.Maps

theorem lanR0 {w w1 : World} {xs ys : Array Value} {t t' : TypeId} (hb1 : Below ((w.alloc (.cells xs t)).alloc (.cells ys t')).heap.size ((w.alloc (.cells xs t)).alloc (.cells ys t')) w1) :
    Blk w1 w.heap.size t xs ∧ Blk w1 (w.heap.size + 1) t' ys ∧ Below w.heap.size w w1 :=
  ⟨((Blk.new w _ _).alloc _).below hb1 (by simp; omega), (Blk.size (w := w.alloc (.cells xs t)) (by simp)).below hb1 (by simp), (((Below.refl _ _).alloc (Nat.le_refl _) _).alloc (by simp) _).trans (hb1.mono (by simp; omega))⟩
theorem Blk.cells3 {w : World} {g : Nat} {t : TypeId} {a b c : Value} (h : Blk w g t #[a, b, c]) : w.cell? ⟨g, 0, none⟩ = some a ∧ w.cell? ⟨g, 1, none⟩ = some b ∧ w.cell? ⟨g, 2, none⟩ = some c := ⟨h.cell 0, h.cell 1, h.cell 2⟩
theorem rows_cell {w : World} {B : Nat} {b o : Nat} {l : List Int} (h : RowsAt 1 icell w B (some ⟨b, o, none⟩) l) (k : Nat) (hk : k < l.length) : w.cell? ⟨b, o + k, none⟩ = some (.int .i64 l[k]) := by
  obtain ⟨b', o', e, _, hc⟩ := RowsAt.at_ h k hk
  injection e with e
  injection e with e1 e2
  subst e1 e2
  have := hc 0 (.int .i64 l[k]) (by omega) rfl
  simpa using this
/-- the members' row of a mask -/
theorem members_v {m : Nat} (hm : m ≤ 255) {l : List Int} (hl : membersK m 8 = l) (w : World) : Calls Try.prog 16 #[.int .u8 (m : Int)] w fun r w' => ∃ A cap, r = .returned (.slice A l.length cap) ∧ OwnI w' w.heap.size (.slice A l.length cap) l ∧ Below w.heap.size w w' :=
  (members_any m hm w).mono fun r w' ⟨v, e, hown, hb⟩ => by
    subst hl
    obtain ⟨A, cap, rfl⟩ := hown.shape
    exact ⟨A, cap, e, hown, hb⟩
theorem wf_small {y : Int} (h : 1 ≤ y ∧ y ≤ 8) : (Lit.int .i64 y).wf = true := by
  have hmin : IntKind.i64.min = -9223372036854775808 := rfl
  have hmax : IntKind.i64.max = 9223372036854775807 := rfl
  simp only [Lit.wf, Bool.and_eq_true, decide_eq_true_eq]
  omega
/-- where it begins: the hall lies there, and an empty map -/
theorem lan_start {w wd : World} {o : Obj} {x : Hd} {A : Option Addr} {cap : Nat} {l : List Int} {dr bdr : Int} {w5 : World} (hb : Below w.heap.size w wd) (hrow : OwnI wd w.heap.size (.slice A l.length cap) l)
    (hk : Below wd.heap.size wd w5) (h5 : Blk w5 wd.heap.size 31 #[.int .i64 x.age, .int .i64 x.kind, .int .i64 x.id, .int .i64 x.adv, .int .i64 x.seq, .int .i64 x.sum, .int .i64 x.long, .slice A l.length cap, .int .i64 dr, .int .i64 bdr, .slice none 0 0]) (ho : o = .map #[] 0) :
    LanAt w (w5.alloc o) wd.heap.size w5.heap.size x A cap l dr bdr (.slice none 0 0) [] [] where
  hall := ⟨h5.alloc _, OwnR.nil _ _, by simp [Value.ownBlock]⟩
  got := by subst ho; exact World.ownsMap_made _ _ _ _
  row := (hrow.below hk).alloc _
  apM := by have := h5.lt; omega
  apF := by simp [Value.ownBlock]
  apL := fun k hk' => by
    have h1 := (hrow.block k hk').2
    have h2 := h5.lt
    exact ⟨by omega, by omega, by simp [Value.ownBlock]⟩
  low := ⟨hb.size, Nat.le_trans hb.size hk.size⟩
  bel := ((hb.trans (hk.mono hb.size)).alloc (Nat.le_trans hb.size hk.size) _)

theorem inner_len {dr bdr : Int} {l : List Int} {f : Frm} (L : List Int) (s : List Frm × List Int) : (L.foldl (stepG dr bdr l f) s).2.length ≤ s.2.length + L.length := by
  induction L generalizing s with
  | nil => simp
  | cons y L ih =>
    rw [List.foldl_cons]
    refine Nat.le_trans (ih _) ?_
    unfold stepG
    split <;> simp <;> omega
theorem outer_len {dr bdr : Int} {l : List Int} {first : Int} (k : Nat) : (outerG dr bdr l first k).2.length ≤ 1 + k * l.length := by
  induction k with
  | zero => simp [outerG, startG]
  | succ k ih =>
    rw [outerG, Nat.add_mul]
    split
    · omega
    · unfold innerG
      have := inner_len (dr := dr) (bdr := bdr) (l := l) (f := by assumption) (l.take l.length) (outerG dr bdr l first k)
      rw [List.length_take] at this
      omega
theorem inner_grow {dr bdr : Int} {l : List Int} {f : Frm} (L : List Int) (s : List Frm × List Int) : s.1.length ≤ (L.foldl (stepG dr bdr l f) s).1.length := by
  induction L generalizing s with
  | nil => simp
  | cons y L ih =>
    rw [List.foldl_cons]
    refine Nat.le_trans ?_ (ih _)
    unfold stepG
    split
    · exact Nat.le_refl _
    · simp only [sendF]
      split <;> simp
theorem outer_nodup {dr bdr : Int} {l : List Int} {first : Int} (k : Nat) : (outerG dr bdr l first k).2.Nodup := by
  induction k with
  | zero => simp [outerG, startG]
  | succ k ih =>
    rw [outerG]
    split
    · exact ih
    · exact inner_nodup _ _ ih
theorem apart_sent {fv fv8 : Value} {g : Nat} {w5 : World} (h : some g ≠ fv.ownBlock) (hlt : g < w5.heap.size) (hv : fv8.ownBlock = fv.ownBlock ∨ ∃ k, fv8.ownBlock = some k ∧ w5.heap.size ≤ k) : some g ≠ fv8.ownBlock := by
  rcases hv with e | ⟨q, e, hq⟩
  · rw [e]; exact h
  · rw [e]; intro e2; injection e2 with e2; omega
theorem step_cases {dr bdr : Int} {l : List Int} {fr to y : Int} {t s : List Frm × List Int} (h : s = stepG dr bdr l (fr, to) t y) :
    ((y == fr) = true ∧ s = t) ∨ ((y == fr) = false ∧ y ∈ t.2 ∧ s = t) ∨ ((y == fr) = false ∧ ¬ y ∈ t.2 ∧ (to == 16) = true ∧ (y != dr) = true ∧ (y != bdr) = true ∧ s = t) ∨
    ((y == fr) = false ∧ ¬ y ∈ t.2 ∧ (to == 16) = false ∧ s = (sendF dr bdr l true fr y t.1, t.2 ++ [y])) ∨ ((y == fr) = false ∧ ¬ y ∈ t.2 ∧ (to == 16) = true ∧ (y != dr) = false ∧ s = (sendF dr bdr l true fr y t.1, t.2 ++ [y])) ∨
    ((y == fr) = false ∧ ¬ y ∈ t.2 ∧ (to == 16) = true ∧ (y != dr) = true ∧ (y != bdr) = false ∧ s = (sendF dr bdr l true fr y t.1, t.2 ++ [y])) := by
  subst h
  unfold stepG skipB
  simp only
  by_cases hg : y ∈ t.2
  · have hc : t.2.contains y = true := by simpa using hg
    rw [hc]
    cases (y == fr) <;> simp [hg]
  · have hc : t.2.contains y = false := by simpa using hg
    rw [hc]
    cases (y == fr) <;> cases (to == 16) <;> cases (y != dr) <;> cases (y != bdr) <;> simp [hg]

set_option maxHeartbeats 8000000 in
set_option maxRecDepth 100000 in
theorem floodLan_any (m p0 p1 p2 : Nat) (hm : m ≤ 255) (hp0 : p0 ≤ 255) (hp1 : p1 ≤ 255) (hp2 : p2 ≤ 255) (x : Hd) (w : World) :
    Calls Try.prog 3 #[.int .u8 (m : Int), .agg #[.int .u8 (p0 : Int), .int .u8 (p1 : Int), .int .u8 (p2 : Int)], .agg #[.int .i64 x.age, .int .i64 x.kind, .int .i64 x.id, .int .i64 x.adv, .int .i64 x.seq, .int .i64 x.sum, .int .i64 x.long]] w
      fun r w' => r = .returned (.bool true) ∧ Below w.heap.size w w' := by
  obtain ⟨l, hl⟩ : ∃ l, membersK m 8 = l := ⟨_, rfl⟩
  have hin : ∀ y ∈ l, 1 ≤ y ∧ y ≤ 8 := fun y hy => by have := mem_members (hl ▸ hy : y ∈ membersK m 8); omega
  have hnd : l.Nodup := hl ▸ members_nodup m 8
  have hlen : l.length ≤ 8 := hl ▸ membersK_len m 8
  have HM := Lib.hid (members_v hm hl)
  have Hin := Lib.hid hin
  have Hnd := Lib.hid hnd
  clear hl hin hnd
  rcases x with ⟨a1, a2, a3, a4, a5, a6, a7⟩
  simp only
  by_cases hbad : l.length = 0 ∨ a1 < 0 ∨ 60 < a1
  · have hb3 : (l.length = 0) ∨ (0 < l.length ∧ a1 < 0) ∨ (0 < l.length ∧ 0 ≤ a1 ∧ 60 < a1) := by omega
    clear hbad
    rcases hb3 with h0 | ⟨h0, hA⟩ | ⟨h0, hA, hC⟩
    all_goals
      have t0 : ((l.length : Int) == 0) = decide (l.length = 0) := by rw [Bool.eq_iff_iff]; simp
      first | rw [decide_eq_true h0] at t0 | rw [decide_eq_false (by omega)] at t0
      clear h0
      go_enter Try.func3, Try.ntmps3
      go_wp2_with (first
        | (go_at_call 15; (with_reducible refine Calls.mono (wakes18 _) ?_); rintro r w1 ⟨rfl, hb1⟩; obtain ⟨hX, hY, hb⟩ := lanR0 hb1; have HY := Lib.hid hY; have Hb := Lib.hid hb; clear hX hY hb hb1)
        | (go_at_call 16; (with_reducible refine Calls.mono (HM.out _) ?_); rintro r w2 ⟨A, cap, rfl, hown, hb2⟩; have hY := HY.out.below hb2 HY.out.lt; have c0 : w2.cell? ⟨w.heap.size + 1, 0, none⟩ = some (.int .i64 a1) := hY.cell 0; have Hb := Lib.hid (Hb.out.trans (hb2.mono Hb.out.size)); clear hb2 hown hY))
      go_ret
      exact ⟨rfl, Hb.out⟩
  · have hA : ¬ a1 < 0 := by omega
    have hC : ¬ 60 < a1 := by omega
    have hpos : 0 < l.length := by omega
    clear hbad
    have t0 : ((l.length : Int) == 0) = false := by rw [beq_eq_false_iff_ne]; omega
    obtain ⟨k0, hk0⟩ : ∃ k, k = p0 % l.length := ⟨_, rfl⟩
    obtain ⟨k1, hk1⟩ : ∃ k, k = p1 % l.length := ⟨_, rfl⟩
    obtain ⟨k2, hk2⟩ : ∃ k, k = p2 % l.length := ⟨_, rfl⟩
    have hl0 : k0 < l.length := by rw [hk0]; exact Nat.mod_lt _ hpos
    have hl1 : k1 < l.length := by rw [hk1]; exact Nat.mod_lt _ hpos
    have hl2 : k2 < l.length := by rw [hk2]; exact Nat.mod_lt _ hpos
    have hi0 : (p0 : Int) % (l.length : Int) = (k0 : Int) := by rw [hk0]; omega
    have hi1 : (p1 : Int) % (l.length : Int) = (k1 : Int) := by rw [hk1]; omega
    have hi2 : (p2 : Int) % (l.length : Int) = (k2 : Int) := by rw [hk2]; omega
    clear hk0 hk1 hk2
    obtain ⟨dr, hdr⟩ : ∃ d, l[k0] = d := ⟨_, rfl⟩
    obtain ⟨b1, hb1e⟩ : ∃ d, l[k1] = d := ⟨_, rfl⟩
    obtain ⟨first, hfirst⟩ : ∃ d, l[k2] = d := ⟨_, rfl⟩
    have hdrl : dr ∈ l := hdr ▸ List.getElem_mem hl0
    have hb1l : b1 ∈ l := hb1e ▸ List.getElem_mem hl1
    have hfil : first ∈ l := hfirst ▸ List.getElem_mem hl2
    have Hmem := Lib.hid (And.intro hdrl (And.intro hb1l hfil))
    have Hd := Lib.hid (And.intro hdr (And.intro hb1e hfirst))
    clear hdrl hb1l hfil hdr hb1e hfirst
    have hcase : ∃ bdr : Int, bdr ≠ dr ∧ (bdr = 0 ∨ bdr ∈ l) ∧ (((b1 == dr) = true ∧ bdr = 0) ∨ ((b1 == dr) = false ∧ bdr = b1)) := by
      by_cases hbb : b1 = dr
      · exact ⟨0, by have := (Hin.out dr Hmem.out.1).1; omega, .inl rfl, .inl ⟨by simpa using hbb, rfl⟩⟩
      · exact ⟨b1, hbb, .inr Hmem.out.2.1, .inr ⟨by simpa using hbb, rfl⟩⟩
    obtain ⟨bdr, hne, hmem, hcase⟩ := hcase
    have hgood := round_good Hnd.out Hmem.out.1 hne Hmem.out.2.2 hmem (fun y hy => (Hin.out y hy).1)
    have Hgood := Lib.hid hgood
    clear hgood hne hmem
    have hkey := keyOf_int_mk (P := Try.prog) Try.underlying3 (show (Lit.int .i64 first).wf = true from wf_small (Hin.out first Hmem.out.2.2))
    have hel := plainElem_int (H := Unit) Try.underlying3 (show (Lit.int .i64 1).wf = true by decide)
    have Hkey := Lib.hid hkey
    have Hel := Lib.hid hel
    clear hkey hel
    rcases hcase with ⟨t1, hbz⟩ | ⟨t1, hbz⟩
    all_goals
      have Hbz := Lib.hid hbz
      clear hbz
      go_enter Try.func3, Try.ntmps3
      go_wp2_with (first
        | (go_at_call 15; (with_reducible refine Calls.mono (wakes18 _) ?_); rintro r w1 ⟨rfl, hb1⟩; obtain ⟨hX, hY, hb⟩ := lanR0 hb1; have HX := Lib.hid hX; have HY := Lib.hid hY; have Hb := Lib.hid hb; clear hX hY hb hb1)
        | (go_at_call 16; (with_reducible refine Calls.mono (HM.out _) ?_); rintro r w2 ⟨A, cap, rfl, hown, hb2⟩; have hY := HY.out.below hb2 HY.out.lt; have hX := HX.out.below hb2 HX.out.lt; obtain ⟨c0, c1, c2, c3, c4, c5, c6⟩ := Blk.cells7 hY; obtain ⟨d0, d1, d2⟩ := Blk.cells3 hX; have Hown := Lib.hid (hown.lower Hb.out.size); have HX := Lib.hid hX; have Hb := Lib.hid (Hb.out.trans (hb2.mono Hb.out.size)); clear hb2 hown hY hX))
      obtain ⟨b, o, hA0, -, -⟩ := RowsAt.at_ Hown.out.rows.2 k0 hl0
      subst hA0
      have r0 := rows_cell Hown.out.rows.2 k0 hl0
      have r1 := rows_cell Hown.out.rows.2 k1 hl1
      rw [Hd.out.1] at r0
      rw [Hd.out.2.1] at r1
      have hkl0 : (k0 : Int) < (l.length : Int) := by omega
      have hkl1 : (k1 : Int) < (l.length : Int) := by omega
      have hkl2 : (k2 : Int) < (l.length : Int) := by omega
      have hnil : ¬ l = [] := by intro e; rw [e] at hpos; simp at hpos
      have q0 : IntKind.i64.wrap (p0 : Int) = p0 := IntWalk.i64_in _ (by omega)
      have q1 : IntKind.i64.wrap (p1 : Int) = p1 := IntWalk.i64_in _ (by omega)
      have s0 : (p0 : Int).tmod (l.length : Int) = (k0 : Int) := by rw [Int.tmod_eq_emod_of_nonneg (by omega)]; exact hi0
      have s1 : (p1 : Int).tmod (l.length : Int) = (k1 : Int) := by rw [Int.tmod_eq_emod_of_nonneg (by omega)]; exact hi1
      refine wp_draw_tail 21 (by kernel_rfl) (by kernel_rfl) ?_
      intro wd hwd hcell hfr hz1 hz2
      simp only [List.take_succ_cons, List.take_zero, List.drop_succ_cons, List.drop_zero]
      repeat still_step
      refine wpStill_nil ?_
      have hbd : Below w.heap.size w wd := by rw [hwd.out]; exact Hb.out.drew
      have hownd : OwnI wd w.heap.size (.slice (some ⟨b, o, none⟩) l.length cap) l := by rw [hwd.out]; exact Hown.out
      have hXd : Blk wd w.heap.size 22 #[.int .u8 (p0 : Int), .int .u8 (p1 : Int), .int .u8 (p2 : Int)] := by rw [hwd.out]; exact HX.out
      clear hwd hcell hfr hz1 hz2 c0 c1 c2 c3 c4 c5 c6 d0 d1 d2 r0 r1 q0 q1 s0 s1
      obtain ⟨w3, hW3, h3, hb3⟩ : ∃ w3, wd.alloc (.cells #[.int .i64 a1, .int .i64 a2, .int .i64 a3, .int .i64 a4, .int .i64 a5, .int .i64 a6, .int .i64 a7, .slice (some ⟨b, o, none⟩) l.length cap, .int .i64 dr, .int .i64 b1, .slice none 0 0] 31) = w3 ∧
        Blk w3 wd.heap.size 31 #[.int .i64 a1, .int .i64 a2, .int .i64 a3, .int .i64 a4, .int .i64 a5, .int .i64 a6, .int .i64 a7, .slice (some ⟨b, o, none⟩) l.length cap, .int .i64 dr, .int .i64 b1, .slice none 0 0] ∧ Below wd.heap.size wd w3 := ⟨_, rfl, Blk.new _ _ _, (Below.refl _ _).alloc (Nat.le_refl _) _⟩
      have Hbd := Lib.hid hbd
      have Hownd := Lib.hid hownd
      have HXd := Lib.hid hXd
      have H3 := Lib.hid h3
      have Hb3 := Lib.hid hb3
      clear hbd hownd hXd h3 hb3
      go_wp2_with fail
      have v9 : w3.cell? ⟨wd.heap.size, 9, none⟩ = some (.int .i64 b1) := H3.out.cell 9
      have v8 : w3.cell? ⟨wd.heap.size, 8, none⟩ = some (.int .i64 dr) := H3.out.cell 8
      refine wp_draw_tail 8 (by kernel_rfl) (by kernel_rfl) ?_
      intro we hwe hcell hfr hz1 hz2
      simp only [List.take_succ_cons, List.take_zero, List.drop_succ_cons, List.drop_zero]
      repeat still_step
      refine wpStill_nil ?_
      have hbe : Below wd.heap.size wd we := by rw [hwe.out]; exact Hb3.out.drew
      have he : Blk we wd.heap.size 31 #[.int .i64 a1, .int .i64 a2, .int .i64 a3, .int .i64 a4, .int .i64 a5, .int .i64 a6, .int .i64 a7, .slice (some ⟨b, o, none⟩) l.length cap, .int .i64 dr, .int .i64 b1, .slice none 0 0] := by rw [hwe.out]; exact H3.out
      have He := Lib.hid he
      have Hbe := Lib.hid hbe
      clear hwe hcell hfr hz1 hz2 v9 v8 hbe he hW3 H3 Hb3
      have v9 : we.cell? ⟨wd.heap.size, 9, none⟩ = some (.int .i64 b1) := He.out.cell 9
      have f9 : we.frozen? ⟨wd.heap.size, 9, none⟩ = false := He.out.frozen 9
      have hX : ∃ wX, Below wd.heap.size wd wX ∧ Blk wX wd.heap.size 31 #[.int .i64 a1, .int .i64 a2, .int .i64 a3, .int .i64 a4, .int .i64 a5, .int .i64 a6, .int .i64 a7, .slice (some ⟨b, o, none⟩) l.length cap, .int .i64 dr, .int .i64 bdr, .slice none 0 0] ∧
          ((b1 == dr) = true → we.setCell ⟨wd.heap.size, 9, none⟩ (.int .i64 0) = wX) ∧ ((b1 == dr) = false → we = wX) := by
        first
          | exact ⟨_, Hbe.out.setCell (Nat.le_refl _) _, by rw [Hbz.out]; simpa using He.out.set_ 9 (.int .i64 0), fun _ => rfl, fun h => by have := h.symm.trans t1; cases this⟩
          | exact ⟨we, Hbe.out, by rw [Hbz.out]; exact He.out, (fun h => by have := h.symm.trans t1; cases this), fun _ => rfl⟩
      obtain ⟨wX, hbX, hhX, e1, e2⟩ := hX
      first
        | (have hWX := e1 t1; clear e1 e2)
        | (have hWX := (e2 t1).symm; clear e1 e2; subst hWX)
      have d2 : wX.cell? ⟨w.heap.size, 2, none⟩ = some (.int .u8 (p2 : Int)) := (HXd.out.below hbX HXd.out.lt).cell 2
      have r2 := rows_cell (Hownd.out.below hbX).rows.2 k2 hl2
      rw [Hd.out.2.2] at r2
      have HLs := Lib.hid (lan_start (o := .map #[] 0) (x := ⟨a1, a2, a3, a4, a5, a6, a7⟩) Hbd.out Hownd.out hbX hhX rfl)
      clear hbX hhX
      have hmm := @run_makeMap Try.prog
      go_wp2_with (first
        | (refine wpList_insert_own _ rfl _ _ _ 32 rfl 3 3 lawInt Try.underlying32 (plainElem Try.prog 3) wX.heap.size 0 (gotD []) rfl HLs.out.got (by decide) _ _ (.int .i64 first) rfl rfl Hkey.out (.lit (.int .i64 1)) [] Hel.out ?_; intro w7 hown7 hg7; have HL7 := Lib.hid (HLs.out.put hown7 hg7); clear hown7 hg7)
        | (go_at_call 17; (with_reducible refine Calls.mono (send_v (F' := (startG dr bdr l first).1) HL7.out.hall HL7.out.rows (by omega) (by simp) HL7.out.bel.size (fun y hy => (Hin.out y hy).1) (.inr rfl) rfl Hgood.out.1) ?_); rintro r w8 ⟨fv8, rfl, hh8, hk8, hv8⟩; have HL8 := Lib.hid (HL7.out.sent hh8 hk8 hv8); clear hh8 hk8 hv8))
      clear d2 r2 t0 t1 hi0 hi1 hi2 hkl0 hkl1 hkl2 Hd hl0 hl1 hl2 hA hC v9 f9 hmm
      try clear hWX
      go_loopw [11] (fun i wr => ∃ (k : Nat) (fv : Value), i = .int .i64 k ∧ k ≤ (outerG dr bdr l first k).1.length ∧ LanAt w wr wd.heap.size wX.heap.size ⟨a1, a2, a3, a4, a5, a6, a7⟩ (some ⟨b, o, none⟩) cap l dr bdr fv (outerG dr bdr l first k).1 (outerG dr bdr l first k).2) (fun i _ => 2 - (intOf i).toNat)
      case atStart => exact ⟨0, _, rfl, Nat.zero_le _, HL8.out⟩
      case round =>
        obtain ⟨wo, rfl⟩ : ∃ wo : World, wo = wr := ⟨_, rfl⟩
        obtain ⟨k, fv, rfl, hk, hlan⟩ := hrel
        have hF2 := Hgood.out.2.2.2.2 k
        have hfin := Hgood.out.2.2.1 k
        have hinn := Hgood.out.2.1 k
        have hone := Hgood.out.2.2.2.1 k
        have hGl := outer_len (dr := dr) (bdr := bdr) (l := l) (first := first) k
        have hnx : outerG dr bdr l first (k + 1) = _ := outerG.eq_2 dr bdr l first k
        rcases hS : outerG dr bdr l first k with ⟨F, G⟩
        rw [hS] at hk hlan hF2 hfin hinn hone hnx hGl
        simp only at hk hlan hF2 hfin hinn hone hnx hGl
        obtain ⟨A9, c9, hfv⟩ := hlan.hall.own.shape
        subst hfv
        have v10 : wo.cell? ⟨wd.heap.size, 10, none⟩ = some (.slice A9 F.length c9) := hlan.hall.blk.cell 10
        by_cases hlt : k < F.length
        · obtain ⟨-, hrow⟩ := OwnR.rows (C := 2) (cells := frmCells) (fun _ => rfl) hlan.hall.own
          obtain ⟨b9, o9, hA9, -, hc9⟩ := RowsAt.at_ hrow k hlt
          subst hA9
          have x0 := hc9 0 (.int .i64 F[k].1) (by omega) rfl
          have x1 := hc9 1 (.int .i64 F[k].2) (by omega) rfl
          have hfk : F[k]? = some F[k] := List.getElem?_eq_getElem hlt
          have hfm : F[k] ∈ F := List.getElem_mem hlt
          simp only [Nat.add_zero] at x0
          rcases hf : F[k] with ⟨fr, to⟩
          rw [hf] at hfk hfm x0 x1
          simp only at x0 x1
          rw [hfk] at hnx
          simp only at hnx
          have hinn := hinn _ hfk
          have hfr : 1 ≤ fr := hone _ hfm
          have hk2 : k < 2 := by omega
          have hgh : wd.heap.size < wo.heap.size := hlan.hall.blk.lt
          have hgm : wX.heap.size < wo.heap.size := World.ownsMap.lt hlan.got
          have hgf : some wo.heap.size ≠ (Value.slice (some ⟨b9, o9, none⟩) F.length c9).ownBlock := fun e => by have := (hlan.hall.own.block _ e.symm).2; omega
          obtain ⟨w4, hW4, hL4, hB4⟩ : ∃ w4, wo.alloc (.cells #[.int .i64 fr, .int .i64 to] 35) = w4 ∧ LanAt w w4 wd.heap.size wX.heap.size ⟨a1, a2, a3, a4, a5, a6, a7⟩ (some ⟨b, o, none⟩) cap l dr bdr (.slice (some ⟨b9, o9, none⟩) F.length c9) F G ∧ Blk w4 wo.heap.size 35 #[.int .i64 fr, .int .i64 to] :=
            ⟨_, rfl, hlan.below ((Below.refl _ _).alloc (Nat.le_refl _) _), Blk.new _ _ _⟩
          have HL4 := Lib.hid hL4
          have HB4 := Lib.hid hB4
          have Hnx := Lib.hid hnx
          have Hinn := Lib.hid hinn
          have HS := Lib.hid hS
          have Hgf := Lib.hid hgf
          have hlk : (k : Int) < (F.length : Int) := by omega
          clear hlan hrow hc9 hfk hfm hf hnx hinn hS hgf hL4 hB4 hfin hone hk
          go_wp2
          go_loopw [100] (fun i wi => ∃ (j : Nat) (fvj : Value), j ≤ l.length ∧ i = .int .i64 j ∧ Blk wi wo.heap.size 35 #[.int .i64 fr, .int .i64 to] ∧ some wo.heap.size ≠ fvj.ownBlock ∧ LanAt w wi wd.heap.size wX.heap.size ⟨a1, a2, a3, a4, a5, a6, a7⟩ (some ⟨b, o, none⟩) cap l dr bdr fvj (innerG dr bdr l (fr, to) (F, G) j).1 (innerG dr bdr l (fr, to) (F, G) j).2) (fun i _ => l.length - (intOf i).toNat)
          case atStart => exact ⟨0, _, Nat.zero_le _, rfl, HB4.out, Hgf.out, HL4.out⟩
          case round =>
            obtain ⟨j, fvj, hj, rfl, hbf, hapf, hlanj⟩ := hrel
            have hglj := inner_len (dr := dr) (bdr := bdr) (l := l) (f := (fr, to)) (l.take j) (F, G)
            by_cases hjt : j < l.length
            · have hst := step_cases (innerG_succ (dr := dr) (bdr := bdr) (f := (fr, to)) (s := (F, G)) hjt)
              have hin1 := Hinn.out (j + 1) hjt
              have hin0 := Hinn.out j hj
              have y0 := rows_cell hlanj.rows j hjt
              have hy := Hin.out l[j] (List.getElem_mem hjt)
              rw [show (l.take j).foldl (stepG dr bdr l (fr, to)) (F, G) = innerG dr bdr l (fr, to) (F, G) j from rfl] at hglj
              rcases hSj : innerG dr bdr l (fr, to) (F, G) j with ⟨Fj, Gj⟩
              rw [hSj] at hst hlanj hin0 hglj
              simp only at hst hlanj hin0 hglj
              have hglm : Gj.length < maxLen := by
                have h2 := List.length_take_le j l
                have h3 : k * l.length ≤ 2 * l.length := Nat.mul_le_mul_right _ (by omega)
                unfold maxLen
                omega
              generalize l[j] = y at *
              generalize hSn : innerG dr bdr l (fr, to) (F, G) (j + 1) = Sn at *
              have hlk2 := hlanj.look (wf_small hy)
              have hkey2 := keyOf_int_mk (P := Try.prog) Try.underlying3 (wf_small hy)
              have f0 : wr.cell? ⟨wo.heap.size, 0, none⟩ = some (.int .i64 fr) := hbf.cell 0
              have f1 : wr.cell? ⟨wo.heap.size, 1, none⟩ = some (.int .i64 to) := hbf.cell 1
              have v8 : wr.cell? ⟨wd.heap.size, 8, none⟩ = some (.int .i64 dr) := hlanj.hall.blk.cell 8
              have v9 : wr.cell? ⟨wd.heap.size, 9, none⟩ = some (.int .i64 bdr) := hlanj.hall.blk.cell 9
              have hjl : (j : Int) < (l.length : Int) := by omega
              have Hkey2 := Lib.hid hkey2
              have HSn := Lib.hid hSn
              have Hlanj := Lib.hid hlanj
              have Hbf := Lib.hid hbf
              have Hapf := Lib.hid hapf
              have Hin1 := Lib.hid hin1
              have Hglm := Lib.hid hglm
              have Hgx := Lib.hid (And.intro hgh hgm)
              have Hfj := Lib.hid (show Fj.length ≤ 100 by omega)
              clear hkey2 hSn hSj hlanj hbf hapf hin1 hglm hin0 hglj
              rcases hst with ⟨t1, e⟩ | ⟨t1, t2, e⟩ | ⟨t1, t2, t3, t4, t5, e⟩ | ⟨t1, t2, t3, e⟩ | ⟨t1, t2, t3, t4, e⟩ | ⟨t1, t2, t3, t4, t5, e⟩
              · subst e
                clear hlk2
                go_wp2
                go_roundw
                case measure => simp [intOf]; omega
                case rel => exact ⟨j + 1, fvj, hjt, by go_num, Hbf.out, Hapf.out, by rw [HSn.out]; exact Hlanj.out⟩
              · subst e
                rw [if_pos t2] at hlk2
                clear t2
                go_wp2
                go_roundw
                case measure => simp [intOf]; omega
                case rel => exact ⟨j + 1, fvj, hjt, by go_num, Hbf.out, Hapf.out, by rw [HSn.out]; exact Hlanj.out⟩
              · subst e
                rw [if_neg t2] at hlk2
                clear t2
                go_wp2
                go_roundw
                case measure => simp [intOf]; omega
                case rel => exact ⟨j + 1, fvj, hjt, by go_num, Hbf.out, Hapf.out, by rw [HSn.out]; exact Hlanj.out⟩
              all_goals
                subst e
                rw [if_neg t2] at hlk2
                clear t2
                go_wp2_with (first
                  | (at_mapUpdate; refine wpList_mapUpdate_own _ rfl _ _ _ 32 rfl 3 3 lawInt Try.underlying32 (plainElem Try.prog 3) wX.heap.size Gj.length (gotD Gj) rfl Hlanj.out.got Hglm.out _ _ (.int .i64 y) rfl rfl Hkey2.out (.lit (.int .i64 1)) [] Hel.out ?_; intro w5 hown5 hg5; have HL5 := Lib.hid (Hlanj.out.put hown5 hg5); have hbf5 := Hbf.out.grown hg5 (fun e => by injection e with e; have := Hgx.out.2; omega); have z0 : w5.cell? ⟨wo.heap.size, 0, none⟩ = some (.int .i64 fr) := hbf5.cell 0; have Hbf5 := Lib.hid hbf5; clear hown5 hg5 hbf5)
                  | (go_at_call 17; go_must (((with_reducible refine Calls.mono (send_v (F' := sendF dr bdr l true fr y Fj) HL5.out.hall HL5.out.rows (by omega) Hfj.out HL5.out.bel.size (fun y hy => (Hin.out y hy).1) (.inl ⟨by omega, rfl⟩) (by rw [decide_eq_true (show 0 < fr by omega), show (true && (1 : Int) == 1) = true by decide]) Hin1.out) ?_); rintro r w8 ⟨fv8, rfl, hh8, hk8, hv8⟩; have HL8 := Lib.hid (HL5.out.sent hh8 hk8 hv8); have HB8 := Lib.hid (hk8.blk Hbf5.out (by have := Hgx.out.1; omega) Hapf.out); have HA8 := Lib.hid (apart_sent Hapf.out Hbf5.out.lt hv8); clear hh8 hk8 hv8))))
                go_roundw
                case measure => simp [intOf]; omega
                case rel => exact ⟨j + 1, fv8, hjt, by go_num, HB8.out, HA8.out, by rw [HSn.out]; exact HL8.out⟩
            · have hjj : j = l.length := by omega
              subst hjj
              have Hlanj := Lib.hid hlanj
              clear hbf hapf hlanj hglj
              go_wp2
              go_roundw
              case measure => simp [intOf]; omega
              case rel => exact ⟨k + 1, fvj, by go_num, by rw [Hnx.out]; exact Nat.le_trans hlt (inner_grow (dr := dr) (bdr := bdr) (l := l) (f := (fr, to)) (l.take l.length) (F, G)), by rw [Hnx.out]; exact Hlanj.out⟩
        · have hkk : k = F.length := by omega
          have hlen2 := hfin hkk
          have hgl := World.ownsMap.len hlan.got Try.underlying32 3
          rw [gotD_size (show G.Nodup by have := outer_nodup (dr := dr) (bdr := bdr) (l := l) (first := first) k; rw [hS] at this; exact this), hlen2] at hgl
          have Hlan := Lib.hid hlan
          clear hlan hfin hinn hone hnx hS hGl hkk hk
          go_wp2
          go_ret
          exact ⟨rfl, Hlan.out.bel⟩

theorem floodLan_v (m : Nat) (hm : m ≤ 255) (p0 p1 p2 : Nat) (hp0 : p0 ≤ 255) (hp1 : p1 ≤ 255) (hp2 : p2 ≤ 255) (x : Hd) (w : World) :
    Calls Try.prog 3 #[.int .u8 (m : Int), .agg #[.int .u8 (p0 : Int), .int .u8 (p1 : Int), .int .u8 (p2 : Int)], .agg #[.int .i64 x.age, .int .i64 x.kind, .int .i64 x.id, .int .i64 x.adv, .int .i64 x.seq, .int .i64 x.sum, .int .i64 x.long]] w
      fun r w' => r = .returned (.bool true) ∧ Below w.heap.size w w' := floodLan_any m p0 p1 p2 hm hp0 hp1 hp2 x w

end Go.Proofs.Ytfhikkmgclkcdaa
