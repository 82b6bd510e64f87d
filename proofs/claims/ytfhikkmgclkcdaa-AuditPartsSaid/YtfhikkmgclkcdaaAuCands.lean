/-
  Layer 27: the candidates on a network (audit.cands).
-/
import Derived.Test.YtfhikkmgclkcdaaAuOn
import Derived.Test.YtfhikkmgclkcdaaOwnR
import Derived.Test.YtfhikkmgclkcdaaElIdx
namespace Go.Proofs.Ytfhikkmgclkcdaa
open Go.RowKit

theorem OwnI.rows1 {w : World} {B : Nat} {A : Option Addr} {n cap : Nat} {l : List Int} (h : OwnI w B (.slice A n cap) l) : n = l.length ∧ RowsAt 1 icell w w.heap.size A l := by
  have e : l.flatMap icell = intsOf l := by
    clear h
    induction l with
    | nil => rfl
    | cons x l ih => simp only [List.flatMap_cons, ih]; rfl
  have h' : OwnR 3 1 icell w B (.slice A n cap) l := by
    unfold OwnR
    rw [e]
    exact h
  exact OwnR.rows (C := 1) (cells := icell) (fun _ => rfl) h'
theorem row_int {w : World} {B : Nat} {A : Option Addr} {l : List Int} (h : RowsAt 1 icell w B A l) (k : Nat) (hk : k < l.length) : ∃ b o, A = some ⟨b, o, none⟩ ∧ w.cell? ⟨b, o + k, none⟩ = some (.int .i64 l[k]) := by
  obtain ⟨b, o, e, _, hc⟩ := RowsAt.at_ h k hk
  have := hc 0 (.int .i64 l[k]) (by omega) rfl
  exact ⟨b, o, e, by simpa using this⟩
theorem selK_on (l : List Stt) (lan : Int) : selK l (onB l lan) 16 = (onIds l lan).map natI := by
  unfold selK onIds
  congr 1
  refine List.filter_congr fun id _ => ?_
  unfold onB
  rcases tblI l id with _ | i <;> simp
/-- a table of a slice that begins somewhere, whatever the slice -/
theorem tbl_some {w : World} {B : Nat} {A : Option Addr} {l : List Stt} (h : StatesAt w B A l) : ∃ b o, tblC A l = tblC (some ⟨b, o, none⟩) l ∧ StatesAt w B (some ⟨b, o, none⟩) l := by
  by_cases h0 : 0 < l.length
  · obtain ⟨b, o, e, _⟩ := RowsAt.at_ h.rows 0 h0
    exact ⟨b, o, by rw [e], e ▸ h⟩
  · have : l = [] := List.eq_nil_of_length_eq_zero (by omega)
    subst this
    exact ⟨0, 0, by rw [tblC_nil, tblC_nil], ⟨RowsAt.nil, by simp⟩⟩

theorem call_on1 (xs : Array Value) (w : World) : (callFunc 103 xs).run Try.prog w = .ok (.enter 103 xs) w := call_of Try.func103 rfl (by kernel_rfl) xs w
set_option maxHeartbeats 1000000 in
set_option maxRecDepth 100000 in
theorem on_any (g b o : Nat) (lan : Int) (l : List Stt) (w : World) (hT : Blk w g 172 (tblC (some ⟨b, o, none⟩) l)) (hl : StatesAt w w.heap.size (some ⟨b, o, none⟩) l) :
    Calls Try.prog 67 #[.pointer (some ⟨g, 0, none⟩), .int .i64 lan] w fun r w' => ∃ v, r = .returned v ∧ OwnI w' w.heap.size v ((onIds l lan).map natI) ∧ Below w.heap.size w w' := by
  have hb1 : Below w.heap.size w (w.alloc (.cells #[.int .i64 lan] 3)) := (Below.refl _ _).alloc (Nat.le_refl _) _
  have hcall := numbers_any g b o l 103 #[.pointer (some ⟨w.heap.size, 0, none⟩)] call_on1 (onB l lan) (w.alloc (.cells #[.int .i64 lan] 3)) (hT.alloc _) (fun W hW id i hi => by
    obtain ⟨hil, _⟩ := tblI_id hi
    have hbW : Below w.heap.size w W := hb1.trans (hW.mono (by simp))
    have hc : W.cell? ⟨w.heap.size, 0, none⟩ = some (.int .i64 lan) := ((Blk.new w _ _).below hW (by simp)).cell 0
    have e : onB l lan id = (ifaceOf (l.getD i default).views lan).2 := by unfold onB; rw [hi]
    rw [e]
    exact on1_any b o i w.heap.size lan l W w.heap.size (hl.below hbW) hil hbW.size (by have := hW.size; simp at this; omega) hc)
  rw [selK_on] at hcall
  have Hcall := Lib.hid hcall
  have Hb1 := Lib.hid hb1
  clear hcall hT hl hb1
  go_enter Try.func67, Try.ntmps67
  go_wp2_with (go_at_call 70; (with_reducible refine Calls.mono Hcall.out ?_); rintro r w1 ⟨v, rfl, hown, hb2⟩)
  go_ret
  exact ⟨_, rfl, hown.lower (by simp), Hb1.out.trans (hb2.mono (by simp))⟩

/-- the candidate of a number -/
def candI (l : List Stt) (lan : Int) (id : Nat) : Option Cand := (tblI l id).bind fun i => candS lan (l.getD i default)
def candsK (l : List Stt) (lan : Int) (k : Nat) : List Cand := ((onIds l lan).take k).filterMap (candI l lan)
theorem candsK_succ (l : List Stt) (lan : Int) (k : Nat) (hk : k < (onIds l lan).length) :
    ∃ i, tblI l (onIds l lan)[k] = some i ∧ i < l.length ∧ (onIds l lan)[k] < 16 ∧ candsK l lan (k + 1) = candsK l lan k ++ [⟨natI (onIds l lan)[k], (ifaceOf (l.getD i default).views lan).1.prio, (ifaceOf (l.getD i default).views lan).1.dr, (ifaceOf (l.getD i default).views lan).1.bdr⟩] := by
  have hm : (onIds l lan)[k] ∈ onIds l lan := List.getElem_mem hk
  have hon : onB l lan (onIds l lan)[k] = true := (List.mem_filter.1 hm).2
  have hr : (onIds l lan)[k] < 16 := List.mem_range.1 (List.mem_filter.1 hm).1
  unfold candsK
  rw [List.take_succ_eq_append_getElem hk, List.filterMap_append]
  generalize (onIds l lan)[k] = id at *
  unfold onB at hon
  rcases h : tblI l id with _ | i
  · rw [h] at hon; cases hon
  · rw [h] at hon
    simp only at hon
    obtain ⟨hi, he, _⟩ := tblI_id h
    refine ⟨i, rfl, hi, hr, ?_⟩
    congr 1
    have e : candI l lan id = some ⟨natI id, (ifaceOf (l.getD i default).views lan).1.prio, (ifaceOf (l.getD i default).views lan).1.dr, (ifaceOf (l.getD i default).views lan).1.bdr⟩ := by
      unfold candI candS
      rw [h, Option.bind_some, if_pos hon]
      have : (l.getD i default).id = natI id := by simp [List.getD, hi, he, natI]
      rw [this]
    simp [e]
theorem candsK_all (l : List Stt) (lan : Int) : candsK l lan (onIds l lan).length = candsOf (countedL l) lan := by
  unfold candsK
  rw [List.take_length, cands_ids]
  rfl
theorem onIds_len (l : List Stt) (lan : Int) : (onIds l lan).length ≤ 16 := by
  have := List.length_filter_le (onB l lan) (List.range 16)
  rwa [List.length_range] at this
theorem candsK_len (l : List Stt) (lan : Int) (k : Nat) : (candsK l lan k).length ≤ 16 := by
  have h1 := List.length_filterMap_le (candI l lan) ((onIds l lan).take k)
  have h2 := List.length_take_le k (onIds l lan)
  have h3 := onIds_len l lan
  unfold candsK
  simp only [List.length_take] at h1
  omega

set_option maxHeartbeats 2000000 in
set_option maxRecDepth 100000 in
theorem cands_any (g b o : Nat) (lan : Int) (l : List Stt) (w : World) (hT : Blk w g 172 (tblC (some ⟨b, o, none⟩) l)) (hl : StatesAt w w.heap.size (some ⟨b, o, none⟩) l) :
    Calls Try.prog 69 #[.pointer (some ⟨g, 0, none⟩), .int .i64 lan] w fun r w' => ∃ v, r = .returned v ∧ OwnC w' w.heap.size v (candsOf (countedL l) lan) ∧ Below w.heap.size w w' := by
  have Hon := Lib.hid (on_any g b o lan l w hT hl)
  have HT := Lib.hid hT
  have Hl := Lib.hid hl
  have hol := onIds_len l lan
  clear hT hl
  go_enter Try.func69, Try.ntmps69
  go_wp2_with (go_at_call 67; (with_reducible refine Calls.mono Hon.out ?_); rintro r w1 ⟨v1, rfl, hown1, hb1⟩; obtain ⟨A1, c1, rfl⟩ := hown1.shape; have hrow := hown1.rows1.2; have Hrow := Lib.hid hrow; have Hb1 := Lib.hid hb1; clear hown1 hrow hb1)
  go_loopw [5, 14] (fun v i wr => ∃ k : Nat, k ≤ (onIds l lan).length ∧ i = .int .i64 k ∧ OwnC wr w1.heap.size v (candsK l lan k) ∧ Below w1.heap.size w1 wr) (fun _ i _ => (onIds l lan).length - (intOf i).toNat)
  case atStart => exact ⟨0, Nat.zero_le _, rfl, ⟨rfl, .inl ⟨rfl, rfl⟩⟩, Below.refl _ _⟩
  case round =>
    obtain ⟨k, hk, rfl, hown, hb⟩ := hrel
    obtain ⟨A5, c5, hv5⟩ := OwnR.shape (C := 4) (cells := Cand.cells) (L := candsK l lan k) hown
    subst hv5
    by_cases hlt : k < (onIds l lan).length
    · obtain ⟨i, hi, hil, h16, hs⟩ := candsK_succ l lan k hlt
      obtain ⟨b1, o1, hA1, x0⟩ := row_int (Hrow.out.below hb) k (by simpa using hlt)
      subst hA1
      rw [List.getElem_map] at x0
      have hT := HT.out.below (Hb1.out.trans (hb.mono Hb1.out.size)) HT.out.lt
      have hkl : (k : Int) < ((onIds l lan).length : Int) := by omega
      generalize (onIds l lan)[k] = id at *
      have x1 : wr.cell? ⟨g, id, none⟩ = some (.pointer (some ⟨b, o + i * 4, none⟩)) := by rw [hT.cell id, tblC_get _ _ id h16]; unfold tblV; rw [hi]; rfl
      have hlw := Hl.out.below (Hb1.out.trans (hb.mono Hb1.out.size))
      obtain ⟨b', o', e, hbB, -, y1, -, -⟩ := States.at_ hlw.rows i hil
      injection e with e
      injection e with e1 e2
      subst e1 e2
      have hst := hlw.each _ (List.getElem_mem hil)
      rw [show l.getD i default = l[i] by simp [List.getD, hil]] at hs
      generalize l[i] = s at *
      have hwsz : w.heap.size ≤ wr.heap.size := Nat.le_trans Hb1.out.size hb.size
      have Hcall := Lib.hid (iface_any b (o + i * 4) lan s.va s.vcap s.views wr w.heap.size (by omega) y1 hst.views hwsz hst.viewsLen)
      have Hcl := Lib.hid (candsK_len l lan k)
      have Hown := Lib.hid hown
      have Hb := Lib.hid hb
      unfold natI at x0 hs
      have Hs := Lib.hid hs
      have hid0 : (0 : Int) ≤ (id : Int) := by omega
      have hid1 : (id : Int) < 16 := by omega
      clear hown hb hT hlw hst y1 hi hs
      generalize hI : ifaceOf s.views lan = I at *
      clear hI
      rcases I with ⟨⟨a1, a2, a3, a4, a5⟩, is⟩
      go_wp2_with (first
        | (go_at_call 104; (with_reducible refine Calls.mono Hcall.out ?_); rintro r w2 ⟨rfl, hb2⟩; have hown2 := OwnR.below (C := 4) (cells := Cand.cells) (L := candsK l lan k) Hown.out hb2; have Hown2 := Lib.hid hown2; have Hb2 := Lib.hid (Hb.out.trans (hb2.mono Hb.out.size)); clear hb2 hown2)
        | (at_builtin; go_must ((refine app_row Cand.cells (fun _ => rfl) (by decide) (by decide) infoC rfl Try.underlying127 (fun x u hu => by simp [Cand.cells] at hu; rcases hu with rfl | rfl | rfl | rfl <;> rfl) rfl _ _ rfl w1.heap.size (.slice A5 (candsK l lan k).length c5) (candsK l lan k) rfl (OwnR.alloc (OwnR.alloc Hown2.out _) _) (w2.heap.size + 1) (⟨(id : Int), a2, a4, a5⟩ : Cand) rfl (by exact Blk.size (w := w2.alloc _) (by simp)) (by have := Hcl.out; omega) (by have := Hb2.out.size; simp; omega) ?_; intro v5 w5 hown5 hg5 _; have Hown5 := Lib.hid hown5; have Hb5 := Lib.hid (((Hb2.out.alloc Hb2.out.size _).alloc (by have := Hb2.out.size; simp; omega) _).grown hg5 (by have := Hb2.out.size; simp; omega) (fun j e => (OwnR.block Hown2.out j e).1)); clear hown5 hg5))))
      go_roundw
      case measure => simp [intOf]; omega
      case rel => exact ⟨k + 1, hlt, by go_num, by rw [Hs.out]; exact Hown5.out, Hb5.out⟩
    · have hkk : k = (onIds l lan).length := by omega
      subst hkk
      rw [candsK_all] at hown
      have Hown := Lib.hid hown
      have Hb := Lib.hid hb
      clear hown hb
      rw [show (candsK l lan (onIds l lan).length).length = (candsOf (countedL l) lan).length by rw [candsK_all]] at *
      go_wp2
      go_ret
      exact ⟨_, rfl, OwnC.lower Hown.out Hb1.out.size, Hb1.out.trans (Hb.out.mono Hb1.out.size)⟩

end Go.Proofs.Ytfhikkmgclkcdaa
