/-
  The document's add: a hop to hops in order, once.
-/
import Derived.Test.YtpfjgecdlilkcaaGreatBac
import Derived.Test.YtpfjgecdlilkcaaGreatBag
import Derived.Test.YtpfjgecdlilkcaaGreatBak
import Derived.Test.YtpfjgecdlilkcaaGreatBao
namespace Go.Proofs.YtpfjgecdlilkcaaGreat
open Go.RowKit

/-- what stands in the new row behind k of them -/
def AddAt (h : Hp) (P Q : List Hp) (d : Bool) : Prop := h ∉ P ∧ ((d = true ∧ Q = insHp h P ∧ ∃ p ∈ P, ltH h p) ∨ (d = false ∧ Q = P ∧ ∀ p ∈ P, ¬ ltH h p))
theorem AddAt.start (h : Hp) : AddAt h [] [] false := ⟨by simp, .inr ⟨rfl, rfl, by simp⟩⟩
theorem AddAt.len {h : Hp} {P Q : List Hp} {d : Bool} (a : AddAt h P Q d) : Q.length ≤ P.length + 1 := by
  rcases a.2 with ⟨-, rfl, -⟩ | ⟨-, rfl, -⟩
  · rw [ins_len]; omega
  · omega
theorem AddAt.late {h x : Hp} {P Q : List Hp} (a : AddAt h P Q true) (hx : x ≠ h) : AddAt h (P ++ [x]) (Q ++ [x]) true := by
  obtain ⟨hn, ⟨-, hq, p, hp, hl⟩ | ⟨hd, -⟩⟩ := a
  · refine ⟨by simp [hn, hx.symm], .inl ⟨rfl, ?_, p, by simp [hp], hl⟩⟩
    rw [hq, ins_done ⟨p, hp, hl⟩]
  · cases hd
theorem AddAt.now {h x : Hp} {P Q : List Hp} (a : AddAt h P Q false) (hx : x ≠ h) (hl : ltH h x) : AddAt h (P ++ [x]) (Q ++ [h] ++ [x]) true := by
  obtain ⟨hn, ⟨hd, -⟩ | ⟨-, hq, hp⟩⟩ := a
  · cases hd
  · refine ⟨by simp [hn, hx.symm], .inl ⟨rfl, ?_, x, by simp, hl⟩⟩
    rw [ins_app hp, hq]
    unfold insHp
    rw [if_pos (show h.lan < x.lan ∨ (h.lan = x.lan ∧ h.id < x.id) from hl)]
    simp
theorem AddAt.on {h x : Hp} {P Q : List Hp} (a : AddAt h P Q false) (hx : x ≠ h) (hl : ¬ ltH h x) : AddAt h (P ++ [x]) (Q ++ [x]) false := by
  obtain ⟨hn, ⟨hd, -⟩ | ⟨-, hq, hp⟩⟩ := a
  · cases hd
  · refine ⟨by simp [hn, hx.symm], .inr ⟨rfl, by rw [hq], fun p hm => ?_⟩⟩
    rw [List.mem_append, List.mem_singleton] at hm
    rcases hm with hm | rfl
    · exact hp p hm
    · exact hl
theorem AddAt.ends {h : Hp} {P Q : List Hp} (a : AddAt h P Q true) : Q = addHp h P := by
  obtain ⟨hn, ⟨-, hq, -⟩ | ⟨hd, -⟩⟩ := a
  · unfold addHp; rw [if_neg hn, hq]
  · cases hd
theorem AddAt.last {h : Hp} {P Q : List Hp} (a : AddAt h P Q false) : Q ++ [h] = addHp h P := by
  obtain ⟨hn, ⟨hd, -⟩ | ⟨-, hq, hp⟩⟩ := a
  · cases hd
  · unfold addHp; rw [if_neg hn, hq, ins_none hp]
theorem add_mem {h : Hp} {L : List Hp} (hm : h ∈ L) : addHp h L = L := by unfold addHp; rw [if_pos hm]
set_option maxHeartbeats 16000000 in
set_option maxRecDepth 100000 in
theorem refAdd_any (h1 h2 : Int) (A : Option Addr) (c n : Nat) (L : List Hp) (w : World) (hL : RowsH w w.heap.size A L) (hl : L.length ≤ 2 ^ 20) (hn : L.length = n) :
    Calls Tryz.prog 53 #[.slice A n c, .agg #[.int .i64 h1, .int .i64 h2]] w fun r w' => (∃ v, r = .returned v ∧ ((v = .slice A n c ∧ addHp ⟨h1, h2⟩ L = L) ∨ OwnH w' w.heap.size v (addHp ⟨h1, h2⟩ L))) ∧ Below w.heap.size w w' := by
  have hb0 := below_new w (.cells #[.int .i64 h1, .int .i64 h2] 50)
  have hk0 := Blk.new w 50 #[.int .i64 h1, .int .i64 h2]
  obtain ⟨w0, hw0⟩ : ∃ w0, w.alloc (.cells #[.int .i64 h1, .int .i64 h2] 50) = w0 := ⟨_, rfl⟩
  obtain ⟨gb, hgb⟩ : ∃ g, w.heap.size = g := ⟨_, rfl⟩
  rw [hw0] at hb0 hk0
  rw [hgb] at hk0
  have Hb0 := Lib.hid hb0
  have HK0 := Lib.hid hk0
  have HL := Lib.hid hL
  have Hn := Lib.hid hn
  have hnb : (n : Int) ≤ 1048576 := by omega
  have hnb2 : n ≤ 1048576 := by omega
  have Hnb := Lib.hid hnb2
  clear hb0 hk0 hL hl hn hnb2
  go_enter Tryz.func53, Tryz.ntmps53
  go_wp2
  clear hw0 hgb
  go_loopw [5, 6, 7] (fun v d i wr => ∃ (k : Nat) (dn : Bool) (A5 : Option Addr) (nQ c5 : Nat) (Q : List Hp), i = .int .i64 k ∧ d = .bool dn ∧ v = .slice A5 nQ c5 ∧ Q.length = nQ ∧ k ≤ n ∧ OwnH wr w0.heap.size (.slice A5 nQ c5) Q ∧ Below w0.heap.size w0 wr ∧ AddAt ⟨h1, h2⟩ (L.take k) Q dn) (fun _ _ i _ => n - (intOf i).toNat)
  case atStart => exact ⟨0, false, none, 0, 0, [], rfl, rfl, rfl, rfl, Nat.zero_le _, OwnR.nil _ _, Below.refl _ _, AddAt.start _⟩
  case round =>
    obtain ⟨k, dn, A5, nQ, c5, Q, rfl, rfl, rfl, hnQ, hk, hown, hb, hat⟩ := hrel
    have HnQ := Lib.hid hnQ
    have HQl := Lib.hid (show nQ ≤ 1048577 by have := hat.len; have := Hn.out; have := Hnb.out; rw [List.length_take] at *; omega)
    have Hown := Lib.hid hown
    have Hb := Lib.hid hb
    have hkr := HK0.out.below hb HK0.out.lt
    by_cases hlt : k < n
    · have hki : (k : Int) < (n : Int) := by omega
      have hkL : k < L.length := by rw [Hn.out]; exact hlt
      obtain ⟨g', o', hA', -, x0, x1⟩ := row_hp ((HL.out.below (below_trans Hb0.out Hb0.out.size hb)).more (below_trans Hb0.out Hb0.out.size hb).size) k hkL
      have Hrow := Lib.hid (fun W (hW : Below w.heap.size w W) => row_hp (HL.out.below hW) k hkL)
      have htk : L.take (k + 1) = L.take k ++ [L[k]] := List.take_succ_eq_append_getElem hkL
      have hin : L[k] ∈ L := List.getElem_mem hkL
      have Hlt := Lib.hid hlt
      generalize L[k] = x at *
      obtain ⟨l1, l2⟩ := x
      simp only at x0 x1
      have Htk := Lib.hid htk
      have Hat := Lib.hid hat
      have heq := fun w => eqHpN l1 l2 h1 h2 w
      obtain ⟨s0, s1, -, -⟩ := hkr.cells2
      clear htk hown hb hnQ hkr hkL hlt hk hat
      by_cases he : (⟨l1, l2⟩ : Hp) = ⟨h1, h2⟩
      · rw [decide_eq_true he] at heq
        have Hadd := Lib.hid (add_mem (h := ⟨h1, h2⟩) (L := L) (by rw [← he]; exact hin))
        clear hin he
        subst hA'
        go_wp2
        go_quiet (fail)
        go_wp2
        go_ret
        exact ⟨⟨_, rfl, .inl ⟨rfl, Hadd.out⟩⟩, below_drewN (below_trans Hb0.out Hb0.out.size Hb.out) _⟩
      · rw [decide_eq_false he] at heq
        have He := Lib.hid he
        subst hA'
        clear hin he
        cases dn with
        | true =>
          go_wp2
          go_quiet (fail)
          go_wp2
          go_quiet (fail)
          go_wp2_with (at_builtin; (refine app_row (e := 50) Hp.cells (fun _ => rfl) (by decide) (bytes := 16) (by decide) infoH rfl Tryz.underlying29 onesHp (by rfl) _ _ (by rfl) w0.heap.size _ Q (by rfl) ((Hown.out.below (below_drewN (Below.refl _ _) _)).alloc _) wr.heap.size ⟨l1, l2⟩ (by rfl) (Blk.new _ _ _) (by have := HQl.out; have := HnQ.out; simp; omega) (by have := Hb.out.size; simp; omega) ?_); intro v9 w9 hown9 hg9 hor9; obtain ⟨A9, c9, hv9⟩ := hown9.shape; subst hv9; rw [List.length_append, List.length_singleton] at hown9; have HO9 := Lib.hid hown9; have HB9 := Lib.hid (((below_drewN Hb.out _).alloc Hb.out.size _).grown hg9 (by have := Hb.out.size; simp; omega) (fun m e => (Hown.out.block m e).1)); clear hown9 hg9 hor9)
          go_roundw
          case measure => have := Hlt.out; simp [intOf]; omega
          case rel => exact ⟨k + 1, true, A9, Q.length + 1, c9, Q ++ [⟨l1, l2⟩], by go_num, rfl, rfl, by rw [List.length_append]; rfl, Hlt.out, HO9.out, HB9.out, by rw [Htk.out]; exact Hat.out.late He.out⟩
        | false =>
          by_cases g1 : h1 < l1
          · have hlt' := Lib.hid (show ltH ⟨h1, h2⟩ ⟨l1, l2⟩ from .inl g1)
            go_wp2
            go_quiet (fail)
            go_wp2
            go_quiet (fail)
            go_wp2_with (first | (at_builtin; (refine app_row (e := 50) Hp.cells (fun _ => rfl) (by decide) (bytes := 16) (by decide) infoH rfl Tryz.underlying29 onesHp (by rfl) _ _ (by rfl) w0.heap.size _ Q (by rfl) ((Hown.out.below (below_drewN (Below.refl _ _) _)).alloc _) wr.heap.size ⟨h1, h2⟩ (by rfl) (Blk.new _ _ _) (by have := HQl.out; have := HnQ.out; simp; omega) (by have := Hb.out.size; simp; omega) ?_); intro v8 w8 hown8 hg8 hor8; obtain ⟨A8, c8, hv8⟩ := hown8.shape; subst hv8; rw [List.length_append, List.length_singleton] at hown8; have HO8 := Lib.hid hown8; have HB8 := Lib.hid (((below_drewN Hb.out _).alloc Hb.out.size _).grown hg8 (by have := Hb.out.size; simp; omega) (fun m e => (Hown.out.block m e).1)); obtain ⟨g8, o8, hA8, -, y0, y1⟩ := Hrow.out w8 (below_trans Hb0.out Hb0.out.size HB8.out); cases hA8; try simp only at y0 y1; clear hown8 hg8 hor8) | (at_builtin; (refine app_row (e := 50) Hp.cells (fun _ => rfl) (by decide) (bytes := 16) (by decide) infoH rfl Tryz.underlying29 onesHp (by rfl) _ _ (by rfl) w0.heap.size _ (Q ++ [⟨h1, h2⟩]) (by rfl) (HO8.out.alloc _) w8.heap.size ⟨l1, l2⟩ (by rfl) (Blk.new _ _ _) (by have := HQl.out; have := HnQ.out; simp; omega) (by have := HB8.out.size; simp; omega) ?_); intro v9 w9 hown9 hg9 hor9; obtain ⟨A9, c9, hv9⟩ := hown9.shape; subst hv9; rw [List.length_append, List.length_singleton] at hown9; have HO9 := Lib.hid hown9; have HB9 := Lib.hid ((HB8.out.alloc HB8.out.size _).grown hg9 (by have := HB8.out.size; simp; omega) (fun m e => (HO8.out.block m e).1)); clear hown9 hg9 hor9))
            go_roundw
            case measure => have := Hlt.out; simp [intOf]; omega
            case rel => exact ⟨k + 1, true, A9, Q.length + 1 + 1, c9, Q ++ [⟨h1, h2⟩] ++ [⟨l1, l2⟩], by go_num, rfl, rfl, by rw [List.length_append, List.length_append]; rfl, Hlt.out, by have h := HO9.out; rw [List.length_append, List.length_singleton] at h; exact h, HB9.out, by rw [Htk.out]; exact Hat.out.now He.out hlt'.out⟩
          · by_cases g2 : h1 = l1
            · have c2 : (h1 == l1) = true := by simp [g2]
              by_cases g3 : h2 < l2
              · have hlt' := Lib.hid (show ltH ⟨h1, h2⟩ ⟨l1, l2⟩ from .inr ⟨g2, g3⟩)
                have c1 : decide (h1 < l1) = false := by simp [g1]
                clear g2
                go_wp2
                go_quiet (fail)
                go_wp2
                go_quiet (fail)
                go_wp2_with (first | (at_builtin; (refine app_row (e := 50) Hp.cells (fun _ => rfl) (by decide) (bytes := 16) (by decide) infoH rfl Tryz.underlying29 onesHp (by rfl) _ _ (by rfl) w0.heap.size _ Q (by rfl) ((Hown.out.below (below_drewN (Below.refl _ _) _)).alloc _) wr.heap.size ⟨h1, h2⟩ (by rfl) (Blk.new _ _ _) (by have := HQl.out; have := HnQ.out; simp; omega) (by have := Hb.out.size; simp; omega) ?_); intro v8 w8 hown8 hg8 hor8; obtain ⟨A8, c8, hv8⟩ := hown8.shape; subst hv8; rw [List.length_append, List.length_singleton] at hown8; have HO8 := Lib.hid hown8; have HB8 := Lib.hid (((below_drewN Hb.out _).alloc Hb.out.size _).grown hg8 (by have := Hb.out.size; simp; omega) (fun m e => (Hown.out.block m e).1)); obtain ⟨g8, o8, hA8, -, y0, y1⟩ := Hrow.out w8 (below_trans Hb0.out Hb0.out.size HB8.out); cases hA8; try simp only at y0 y1; clear hown8 hg8 hor8) | (at_builtin; (refine app_row (e := 50) Hp.cells (fun _ => rfl) (by decide) (bytes := 16) (by decide) infoH rfl Tryz.underlying29 onesHp (by rfl) _ _ (by rfl) w0.heap.size _ (Q ++ [⟨h1, h2⟩]) (by rfl) (HO8.out.alloc _) w8.heap.size ⟨l1, l2⟩ (by rfl) (Blk.new _ _ _) (by have := HQl.out; have := HnQ.out; simp; omega) (by have := HB8.out.size; simp; omega) ?_); intro v9 w9 hown9 hg9 hor9; obtain ⟨A9, c9, hv9⟩ := hown9.shape; subst hv9; rw [List.length_append, List.length_singleton] at hown9; have HO9 := Lib.hid hown9; have HB9 := Lib.hid ((HB8.out.alloc HB8.out.size _).grown hg9 (by have := HB8.out.size; simp; omega) (fun m e => (HO8.out.block m e).1)); clear hown9 hg9 hor9))
                go_roundw
                case measure => have := Hlt.out; simp [intOf]; omega
                case rel => exact ⟨k + 1, true, A9, Q.length + 1 + 1, c9, Q ++ [⟨h1, h2⟩] ++ [⟨l1, l2⟩], by go_num, rfl, rfl, by rw [List.length_append, List.length_append]; rfl, Hlt.out, by have h := HO9.out; rw [List.length_append, List.length_singleton] at h; exact h, HB9.out, by rw [Htk.out]; exact Hat.out.now He.out hlt'.out⟩
              · have hnl := Lib.hid (show ¬ ltH ⟨h1, h2⟩ ⟨l1, l2⟩ by unfold ltH; simp only; omega)
                have c1 : decide (h1 < l1) = false := by simp [g1]
                have c3 : decide (h2 < l2) = false := by simp [g3]
                clear g2
                go_wp2
                go_quiet (fail)
                go_wp2
                go_quiet (fail)
                go_wp2_with (at_builtin; (refine app_row (e := 50) Hp.cells (fun _ => rfl) (by decide) (bytes := 16) (by decide) infoH rfl Tryz.underlying29 onesHp (by rfl) _ _ (by rfl) w0.heap.size _ Q (by rfl) ((Hown.out.below (below_drewN (Below.refl _ _) _)).alloc _) wr.heap.size ⟨l1, l2⟩ (by rfl) (Blk.new _ _ _) (by have := HQl.out; have := HnQ.out; simp; omega) (by have := Hb.out.size; simp; omega) ?_); intro v9 w9 hown9 hg9 hor9; obtain ⟨A9, c9, hv9⟩ := hown9.shape; subst hv9; rw [List.length_append, List.length_singleton] at hown9; have HO9 := Lib.hid hown9; have HB9 := Lib.hid (((below_drewN Hb.out _).alloc Hb.out.size _).grown hg9 (by have := Hb.out.size; simp; omega) (fun m e => (Hown.out.block m e).1)); clear hown9 hg9 hor9)
                go_roundw
                case measure => have := Hlt.out; simp [intOf]; omega
                case rel => exact ⟨k + 1, false, A9, Q.length + 1, c9, Q ++ [⟨l1, l2⟩], by go_num, rfl, rfl, by rw [List.length_append]; rfl, Hlt.out, HO9.out, HB9.out, by rw [Htk.out]; exact Hat.out.on He.out hnl.out⟩
            · have hnl := Lib.hid (show ¬ ltH ⟨h1, h2⟩ ⟨l1, l2⟩ by unfold ltH; simp only; omega)
              have c1 : decide (h1 < l1) = false := by simp [g1]
              have c2 : (h1 == l1) = false := by simp [g2]
              go_wp2
              go_quiet (fail)
              go_wp2
              go_quiet (fail)
              go_wp2_with (at_builtin; (refine app_row (e := 50) Hp.cells (fun _ => rfl) (by decide) (bytes := 16) (by decide) infoH rfl Tryz.underlying29 onesHp (by rfl) _ _ (by rfl) w0.heap.size _ Q (by rfl) ((Hown.out.below (below_drewN (Below.refl _ _) _)).alloc _) wr.heap.size ⟨l1, l2⟩ (by rfl) (Blk.new _ _ _) (by have := HQl.out; have := HnQ.out; simp; omega) (by have := Hb.out.size; simp; omega) ?_); intro v9 w9 hown9 hg9 hor9; obtain ⟨A9, c9, hv9⟩ := hown9.shape; subst hv9; rw [List.length_append, List.length_singleton] at hown9; have HO9 := Lib.hid hown9; have HB9 := Lib.hid (((below_drewN Hb.out _).alloc Hb.out.size _).grown hg9 (by have := Hb.out.size; simp; omega) (fun m e => (Hown.out.block m e).1)); clear hown9 hg9 hor9)
              go_roundw
              case measure => have := Hlt.out; simp [intOf]; omega
              case rel => exact ⟨k + 1, false, A9, Q.length + 1, c9, Q ++ [⟨l1, l2⟩], by go_num, rfl, rfl, by rw [List.length_append]; rfl, Hlt.out, HO9.out, HB9.out, by rw [Htk.out]; exact Hat.out.on He.out hnl.out⟩
    · have hke : k = n := by omega
      subst hke
      have hkk : ¬ (k : Int) < (k : Int) := by omega
      rw [← Hn.out, List.take_length] at hat
      have Hat := Lib.hid hat
      obtain ⟨s0, s1, -, -⟩ := hkr.cells2
      clear hown hb hnQ hkr hlt hk hat
      cases dn with
      | true =>
        go_wp2
        go_ret
        exact ⟨⟨_, rfl, .inr (by rw [← Hat.out.ends]; exact OwnR.lower Hown.out Hb0.out.size)⟩, below_trans Hb0.out Hb0.out.size Hb.out⟩
      | false =>
        go_wp2_with (at_builtin; (refine app_row (e := 50) Hp.cells (fun _ => rfl) (by decide) (bytes := 16) (by decide) infoH rfl Tryz.underlying29 onesHp (by rfl) _ _ (by rfl) w0.heap.size _ Q (by rfl) (Hown.out.alloc _) wr.heap.size ⟨h1, h2⟩ (by rfl) (Blk.new _ _ _) (by have := HQl.out; have := HnQ.out; simp; omega) (by have := Hb.out.size; simp; omega) ?_); intro v9 w9 hown9 hg9 hor9; obtain ⟨A9, c9, hv9⟩ := hown9.shape; subst hv9; rw [List.length_append, List.length_singleton] at hown9; have HO9 := Lib.hid hown9; have HB9 := Lib.hid ((Hb.out.alloc Hb.out.size _).grown hg9 (by have := Hb.out.size; simp; omega) (fun m e => (Hown.out.block m e).1)); clear hown9 hg9 hor9)
        go_ret
        exact ⟨⟨_, rfl, .inr (by rw [← Hat.out.last]; exact OwnR.lower HO9.out Hb0.out.size)⟩, below_trans Hb0.out Hb0.out.size HB9.out⟩

end Go.Proofs.YtpfjgecdlilkcaaGreat

/-
  A block of rows of hops, one for each.
-/
namespace Go.Proofs.YtpfjgecdlilkcaaGreat
open Go.RowKit

def NextAt (w : World) (B gx : Nat) (N : List (List Hp)) : Prop := ∃ cs : Array Value, Blk w gx 29 cs ∧ cs.size = N.length ∧ ∀ i (h : i < N.length), ∃ v, cs[i]? = some v ∧ OwnH w B v N[i]
section
variable {w w' : World} {B gx : Nat} {N : List (List Hp)}
theorem NextAt.lt (h : NextAt w B gx N) : gx < w.heap.size := by obtain ⟨cs, h1, -⟩ := h; exact h1.lt
theorem NextAt.below (h : NextAt w B gx N) (hb : Below w.heap.size w w') : NextAt w' B gx N := by
  obtain ⟨cs, h1, h2, h3⟩ := h
  refine ⟨cs, h1.below hb h1.lt, h2, fun i hi => ?_⟩
  obtain ⟨v, h4, h5⟩ := h3 i hi
  exact ⟨v, h4, h5.below hb⟩
theorem NextAt.cell (h : NextAt w B gx N) {i : Nat} (hi : i < N.length) : ∃ A n c, w.cell? ⟨gx, i, none⟩ = some (.slice A n c) ∧ w.frozen? ⟨gx, i, none⟩ = false ∧ N[i].length = n ∧ OwnH w B (.slice A n c) N[i] := by
  obtain ⟨cs, h1, h2, h3⟩ := h
  obtain ⟨v, h4, h5⟩ := h3 i hi
  obtain ⟨A, c, hv⟩ := h5.shape
  subst hv
  exact ⟨A, _, c, by rw [h1.cell, h4], h1.frozen i, rfl, h5⟩
theorem NextAt.put (h : NextAt w B gx N) (hB : gx < B) {i : Nat} (hi : i < N.length) {v : Value} {x : List Hp} (hv : OwnH w B v x) : NextAt (w.setCell ⟨gx, i, none⟩ v) B gx (N.set i x) := by
  obtain ⟨cs, h1, h2, h3⟩ := h
  refine ⟨_, h1.set_ i v, by simp [h2], fun j hj => ?_⟩
  rw [List.length_set] at hj
  by_cases e : j = i
  · subst e
    refine ⟨v, by simp [h2, hi], ?_⟩
    rw [List.getElem_set_self]
    exact hv.set_ (p := ⟨gx, j, none⟩) hB v
  · obtain ⟨u, h4, h5⟩ := h3 j hj
    refine ⟨u, by rw [Array.getElem?_setIfInBounds_ne (fun h => e h.symm), h4], ?_⟩
    rw [List.getElem_set_ne (fun h => e h.symm)]
    exact h5.set_ (p := ⟨gx, i, none⟩) hB v
end
theorem made_next (w : World) (B n : Nat) (hn : n ≤ 1000) : (Instr.makeSlice 124 (.int .i64 (n : Int)) (.int .i64 (n : Int))).run Tryz.prog w = .ok (.slice (some ⟨w.heap.size, 0, none⟩) n n) (w.alloc (.cells (madeCells #[.slice none 0 0] n) 29)) ∧ NextAt (w.alloc (.cells (madeCells #[.slice none 0 0] n) 29)) B w.heap.size (List.replicate n []) := by
  have hinfo : (Tryz.prog.info? 29).map (fun i => (i.zero, i.size, i.bytes)) = some (some (.slice none 0 0), 1, 24) := by kernel_rfl
  cases hi : Tryz.prog.info? 29 with
  | none => rw [hi] at hinfo; cases hinfo
  | some i =>
    rw [hi] at hinfo
    simp only [Option.map_some, Option.some.injEq, Prod.mk.injEq] at hinfo
    obtain ⟨z1, z2, z3⟩ := hinfo
    refine ⟨?_, ⟨_, Blk.new _ _ _, by simp [size_madeCells], fun j hj => ?_⟩⟩
    · have h := run_makeSlice (P := Tryz.prog) w 124 29 i (.slice none 0 0) Tryz.underlying124 hi z1 .i64 .i64 n n (by omega) (Int.le_refl _) (by rw [z2]; simp; omega) (by rw [z3]; omega) (by omega)
      rw [z2] at h
      simpa [Value.cells] using h
    · rw [List.length_replicate] at hj
      refine ⟨.slice none 0 0, by simp [madeCells, hj, Nat.mod_one], ?_⟩
      rw [List.getElem_replicate]
      exact OwnR.nil _ _

/-- add, at a row of one's own: it stays one -/
theorem refAdd_own (h1 h2 : Int) (A : Option Addr) (c n B : Nat) (L : List Hp) (w : World) (hO : OwnH w B (.slice A n c) L) (hB : B ≤ w.heap.size) (hl : L.length ≤ 2 ^ 20) (hn : L.length = n) :
    Calls Tryz.prog 53 #[.slice A n c, .agg #[.int .i64 h1, .int .i64 h2]] w fun r w' => (∃ A' n' c', r = .returned (.slice A' n' c') ∧ OwnH w' B (.slice A' n' c') (addHp ⟨h1, h2⟩ L)) ∧ Below w.heap.size w w' := by
  refine (refAdd_any h1 h2 A c n L w (OwnR.rows (C := 2) (cells := Hp.cells) (fun _ => rfl) hO).2 hl hn).mono ?_
  rintro r w' ⟨⟨v, rfl, ⟨rfl, e⟩ | h⟩, hb⟩
  · exact ⟨⟨A, n, c, rfl, by rw [e]; exact hO.below hb⟩, hb⟩
  · have h' := OwnR.lower h hB
    obtain ⟨A', c', hv⟩ := h'.shape
    subst hv
    exact ⟨⟨A', _, c', rfl, h'⟩, hb⟩
/-- a cell, in all worlds that grow -/
theorem NextAt.cellW {w : World} {B gx : Nat} {N : List (List Hp)} (h : NextAt w B gx N) {i : Nat} (hi : i < N.length) : ∃ A n c, (∀ W, Below w.heap.size w W → W.cell? ⟨gx, i, none⟩ = some (.slice A n c) ∧ W.frozen? ⟨gx, i, none⟩ = false) ∧ N[i].length = n ∧ OwnH w B (.slice A n c) N[i] := by
  obtain ⟨cs, h1, h2, h3⟩ := h
  obtain ⟨v, h4, h5⟩ := h3 i hi
  obtain ⟨A, c, hv⟩ := h5.shape
  subst hv
  exact ⟨A, _, c, fun W hW => ⟨by rw [(h1.below hW h1.lt).cell, h4], (h1.below hW h1.lt).frozen i⟩, rfl, h5⟩
section
variable {E X Y : List Ed} {r : Vx} {DD : Vx → Vx → Option Val2} {R : List RowV} {N : List (List Hp)} {e f : Ed} {V : List Vx}
theorem dst_lan {e : Ed} (hr : r.kind = 1) (hc : cntE e = true) (hs : e.src = r) : 0 ≤ e.ti ∧ e.ti ≤ 63 ∧ e.tk = 2 := by
  obtain ⟨-, hdm, hk⟩ := cntE_iff.1 hc
  have hsk : e.fk = 1 := by rw [← hr, ← hs]; rfl
  have htk : e.tk = 2 := by omega
  rcases mayV_iff.1 hdm with ⟨g, -⟩ | ⟨-, g1, g2⟩
  · have : e.tk = 1 := g
    omega
  · exact ⟨g1, g2, htk⟩
theorem dst_rt {e f : Ed} (he : e.tk = 2) (hc : cntE f = true) (hs : f.src = e.dst) : 1 ≤ f.ti ∧ f.ti ≤ 15 ∧ f.tk = 1 := by
  obtain ⟨-, hdm, hk⟩ := cntE_iff.1 hc
  have hsk : f.fk = 2 := by rw [← he]; exact congrArg Vx.kind hs
  have htk : f.tk = 1 := by omega
  rcases mayV_iff.1 hdm with ⟨-, g1, g2⟩ | ⟨g, -⟩
  · exact ⟨g1, g2, htk⟩
  · have : f.tk = 2 := g
    omega
theorem hop1_ok (hr : r.kind = 1) {v : Vx} {c : Nat} {h : Hp} (hh : Hop1 r e v c h) : okHp h := by
  obtain ⟨hc, hs, -, -, rfl⟩ := hh
  have := dst_lan hr hc hs
  exact ⟨⟨by simp only; omega, by simp only; omega⟩, by simp, by simp⟩
theorem hop2_ok (hr : r.kind = 1) {v : Vx} {c : Nat} {h : Hp} (hh : Hop2 DD r e f v c h) : okHp h := by
  obtain ⟨hc, hs, hcf, hsf, -, rfl⟩ := hh
  have h1 := dst_lan hr hc hs
  have h2 := dst_rt h1.2.2 hcf hsf
  exact ⟨⟨by simp only; omega, by simp only; omega⟩, by simp only; omega, by simp only; omega⟩
theorem hopA_ok (hr : r.kind = 1) {v : Vx} {c : Nat} {h : Hp} (hh : HopA E DD r X v c h) : okHp h := by
  obtain ⟨e, -, h | ⟨f, -, h⟩⟩ := hh
  · exact hop1_ok hr h
  · exact hop2_ok hr h
theorem hopC_ok (hr : r.kind = 1) {v : Vx} {c : Nat} {h : Hp} (hh : HopC E DD r X e Y f V v c h) : okHp h := by
  rcases hh with (h | h | ⟨f, -, h⟩) | ⟨-, h⟩
  · exact hopA_ok hr h
  · exact hop1_ok hr h
  · exact hop2_ok hr h
  · exact hop2_ok hr h
theorem HopsOf.low {P : Vx → Nat → Hp → Prop} (h : HopsOf R N P) (hP : ∀ v c x, P v c x → okHp x) : ∀ l ∈ N, l.length ≤ 64 := by
  intro l hl
  obtain ⟨j, hj, rfl⟩ := List.getElem_of_mem hl
  have hj' : j < R.length := by have := h.len; omega
  obtain ⟨h1, h2⟩ := h.each j hj'
  exact hops_few h1 fun x hx => hP _ _ x ((h2 x).1 hx)
end
theorem get_at : ∀ {L : List RowV}, (L.map (·.1)).Nodup → ∀ {j : Nat} (hj : j < L.length) {v : Vx} {a : Val2}, L[j] = (v, a) → getR L v = some a
  | [], _, _, hj, _, _, _ => by cases hj
  | p :: L, hn, 0, _, v, a, h => by
    have h' : p = (v, a) := h
    rw [getR_cons, h', if_pos rfl]
  | p :: L, hn, j + 1, hj, v, a, h => by
    rw [List.map_cons, List.nodup_cons] at hn
    have hj' : j < L.length := by simpa using hj
    have h' : L[j] = (v, a) := h
    rw [getR_cons, if_neg]
    · exact get_at hn.2 hj' h'
    · intro e
      refine hn.1 (List.mem_map.2 ⟨(v, a), ?_, e.symm⟩)
      rw [← h']
      exact List.getElem_mem hj'
/-- the vertices in order, one more -/
theorem ordV_get : ∀ m < 128, ordV[m]? = some ⟨((m / 64 + 1 : Nat) : Int), ((m % 64 : Nat) : Int)⟩ := by decide
theorem ordV_next {q i : Nat} (hq : q < 2) (hi : i < 64) : ordV.take (64 * q + i + 1) = ordV.take (64 * q + i) ++ [⟨((q + 1 : Nat) : Int), (i : Int)⟩] := by
  have h := ordV_get (64 * q + i) (by omega)
  rw [show (64 * q + i) / 64 = q by omega, show (64 * q + i) % 64 = i by omega] at h
  obtain ⟨hl, e⟩ := List.getElem?_eq_some_iff.1 h
  rw [List.take_succ_eq_append_getElem hl, e]
theorem ordV_all : ordV.take 128 = ordV := by
  have : ordV.length = 128 := by unfold ordV; simp
  rw [← this, List.take_length]
/-- the nodes so far -/
structure NodesTo (w : World) (B B' : Nat) (T : Vx → Option (Val2 × List Hp)) (m : Nat) (v : Value) (M : List NodeM) : Prop where
  row : OwnR 63 5 NodeM.cells w B v M
  each : ∀ x ∈ M, OwnH w B' x.nv x.next
  is : M.map NodeM.nk = nodesO T (ordV.take m)
theorem NodesTo.len {w : World} {B B' : Nat} {T : Vx → Option (Val2 × List Hp)} {m : Nat} {v : Value} {M : List NodeM} (h : NodesTo w B B' T m v M) : M.length ≤ 128 := by
  have h1 := congrArg List.length h.is
  rw [List.length_map] at h1
  rw [h1]
  unfold nodesO
  have hg : ∀ L : List Vx, (L.flatMap (nodeO T)).length ≤ L.length := by
    intro L
    induction L with
    | nil => simp
    | cons v L ih =>
      rw [List.flatMap_cons, List.length_append, List.length_cons]
      have : (nodeO T v).length ≤ 1 := by unfold nodeO; cases T v <;> simp
      omega
  refine Nat.le_trans (hg _) ?_
  have : ordV.length = 128 := by unfold ordV; simp
  rw [List.length_take]
  omega
theorem NodesTo.below {w w' : World} {B B' : Nat} {T : Vx → Option (Val2 × List Hp)} {m : Nat} {v : Value} {M : List NodeM} (h : NodesTo w B B' T m v M) (hb : Below w.heap.size w w') : NodesTo w' B B' T m v M := ⟨h.row.below hb, fun x hx => (h.each x hx).below hb, h.is⟩
theorem NodesTo.skip {w : World} {B B' : Nat} {T : Vx → Option (Val2 × List Hp)} {q i : Nat} {v : Value} {M : List NodeM} (h : NodesTo w B B' T (64 * q + i) v M) (hq : q < 2) (hi : i < 64) (hT : T ⟨((q + 1 : Nat) : Int), (i : Int)⟩ = none) : NodesTo w B B' T (64 * q + (i + 1)) v M := by
  refine ⟨h.row, h.each, ?_⟩
  rw [h.is, ← Nat.add_assoc, ordV_next hq hi]
  unfold nodesO
  rw [List.flatMap_append, List.flatMap_cons, List.flatMap_nil]
  unfold nodeO
  rw [hT]
  simp
theorem NodesTo.more {w w' : World} {B B' : Nat} {T : Vx → Option (Val2 × List Hp)} {q i : Nat} {v v' : Value} {M : List NodeM} (h : NodesTo w B B' T (64 * q + i) v M) (hq : q < 2) (hi : i < 64) {a : Val2} {A : Option Addr} {c : Nat} {l : List Hp} (hT : T ⟨((q + 1 : Nat) : Int), (i : Int)⟩ = some (a, l))
    (hr : OwnR 63 5 NodeM.cells w' B v' (M ++ [⟨⟨((q + 1 : Nat) : Int), (i : Int)⟩, a, A, c, l⟩])) (he : ∀ x ∈ M, OwnH w' B' x.nv x.next) (hl : OwnH w' B' (.slice A l.length c) l) : NodesTo w' B B' T (64 * q + (i + 1)) v' (M ++ [⟨⟨((q + 1 : Nat) : Int), (i : Int)⟩, a, A, c, l⟩]) := by
  refine ⟨hr, ?_, ?_⟩
  · intro x hx
    rcases List.mem_append.1 hx with hx | hx
    · exact he x hx
    · rw [List.mem_singleton] at hx
      subst hx
      exact hl
  · rw [List.map_append, h.is, ← Nat.add_assoc, ordV_next hq hi]
    unfold nodesO
    rw [List.flatMap_append, List.flatMap_cons, List.flatMap_nil]
    congr 1
    unfold nodeO
    rw [hT]
    simp [NodeM.nk]

end Go.Proofs.YtpfjgecdlilkcaaGreat

/-
  Layer 21: hops that are alike: the document's word.
-/
namespace Go.Proofs.YtpfjgecdlilkcaaGreat
open Go.RowKit

set_option maxHeartbeats 4000000 in
set_option maxRecDepth 100000 in
theorem refHops_eq (A1 A2 : Option Addr) (c1 c2 n : Nat) (L : List Hp) (w : World) (h1 : RowsH w w.heap.size A1 L) (h2 : RowsH w w.heap.size A2 L) (hl : L.length ≤ 2 ^ 20) (hn : n = L.length) :
    Calls Tryz.prog 21 #[.slice A1 n c1, .slice A2 n c2] w fun r w' => r = .returned (.bool true) ∧ Below w.heap.size w w' := by
  subst hn
  have H1 := Lib.hid h1
  have H2 := Lib.hid h2
  have hli : (L.length : Int) ≤ 1048576 := by omega
  have hne : ((L.length : Int) != (L.length : Int)) = false := by simp
  clear h1 h2 hl
  go_enter Tryz.func21, Tryz.ntmps21
  go_wp2
  go_loopw [5] (fun i wr => ∃ k : Nat, i = .int .i64 k ∧ k ≤ L.length ∧ Below w.heap.size w wr) (fun i _ => L.length - (intOf i).toNat)
  case atStart => exact ⟨0, rfl, Nat.zero_le _, Below.refl _ _⟩
  case round =>
    obtain ⟨k, rfl, hk, hb⟩ := hrel
    by_cases hlt : k < L.length
    · have hki : (k : Int) < (L.length : Int) := by omega
      obtain ⟨g, o, hA, -, x0, x1⟩ := row_hp ((H1.out.below hb).more hb.size) k hlt
      obtain ⟨g', o', hA', -, y0, y1⟩ := row_hp ((H2.out.below hb).more hb.size) k hlt
      have HA := Lib.hid hA
      have HA' := Lib.hid hA'
      rw [hA, hA']
      have Hlt := Lib.hid hlt
      have Hb := Lib.hid hb
      generalize L[k] = e at *
      obtain ⟨e1, e2⟩ := e
      simp only at x0 x1 y0 y1
      have heq := fun w => neqHpN e1 e2 e1 e2 w
      simp only [decide_true, Bool.not_true] at heq
      clear hA hA' hlt hb hk
      go_wp2
      go_quiet (fail)
      go_wp2
      go_roundw
      case measure => have := Hlt.out; simp [intOf]; omega
      case rel => exact ⟨k + 1, by go_num, Hlt.out, below_drewN Hb.out _⟩
    · have hke : k = L.length := by omega
      subst hke
      have hkk : ¬ (L.length : Int) < (L.length : Int) := by omega
      have Hb := Lib.hid hb
      clear hb hlt hk
      go_wp2
      go_ret
      exact ⟨rfl, Hb.out⟩
theorem neqVxN (a b a' b' : Int) (w : World) : (binOp .neq 61 (.agg #[.int .i64 a, .int .i64 b]) (.agg #[.int .i64 a', .int .i64 b'])).run Tryz.prog w = .ok (.bool (!decide ((⟨a, b⟩ : Vx) = ⟨a', b'⟩))) w := by
  have h := eqVxN a b a' b' w
  simp only [binOp]
  simp [Op.equal, Op.maxDepth, h]

end Go.Proofs.YtpfjgecdlilkcaaGreat
