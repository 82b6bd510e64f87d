/-
  The walk of the reference's Elect.
-/
import Derived.Test.YtfhikkmgclkcdaaProg
import Derived.Test.YtfhikkmgclkcdaaRefGo
namespace Go.Proofs.Ytfhikkmgclkcdaa
open Go.RowKit

def ownK (self : Int) (t : Int × Int) (l : List Cand) (k : Nat) : List Cand := (l.take k).map (refMark self t)
def chK (self : Int) (t : Int × Int) (l : List Cand) (k : Nat) : Bool := (l.take k).any fun c => c.id == self && !agrees self t.1 t.2 c
theorem ownK_succ (self : Int) (t : Int × Int) (l : List Cand) (k : Nat) (h : k < l.length) : ownK self t l (k + 1) = ownK self t l k ++ [refMark self t l[k]] := by
  unfold ownK; rw [List.take_succ_eq_append_getElem h, List.map_append]; rfl
theorem chK_succ (self : Int) (t : Int × Int) (l : List Cand) (k : Nat) (h : k < l.length) : chK self t l (k + 1) = (chK self t l k || (l[k].id == self && !agrees self t.1 t.2 l[k])) := by
  unfold chK; rw [List.take_succ_eq_append_getElem h, List.any_append]; simp
theorem length_ownK (self : Int) (t : Int × Int) (l : List Cand) (k : Nat) (h : k ≤ l.length) : (ownK self t l k).length = k := by simp [ownK, h]

set_option maxHeartbeats 4000000 in
set_option maxRecDepth 100000 in
theorem refElect_any (self : Int) (A : Option Addr) (cap : Nat) (l : List Cand) (w : World) (B : Nat) (hl : CandsAt w B A l) (hB : B ≤ w.heap.size) (hn : l.length ≤ 2 ^ 40) :
    Calls Try.prog 65 #[.int .i64 self, .slice A l.length cap] w fun e w' => e = .returned (.agg #[.int .i64 (refElect self l).1, .int .i64 (refElect self l).2]) ∧ Below w.heap.size w w' := by
  have hl := hl.more hB
  have hb0 : Below w.heap.size w (w.alloc (.cells #[.int .i64 0, .int .i64 0] 132)) := (Below.refl _ _).alloc (Nat.le_refl _) _
  have hl0 := CandsAt.of hl hb0 hb0.size
  have Hl := Lib.hid hl
  have Hl0 := Lib.hid hl0
  have Hn := Lib.hid hn
  have hn64 : l.length ≤ 1099511627776 := hn
  obtain ⟨i0, hi, hz0, hz1, hz2⟩ := info_parts infoC'
  have Hb0 := Lib.hid hb0
  clear hl hB hl0 hb0
  have hfin1 : ∀ t, refGo l = t → chK self t l l.length = false → refElect self l = t := by
    intro t h1 h2
    unfold chK at h2; rw [List.take_length] at h2
    simp only [refElect, h1, h2]; rfl
  have hfin2 : ∀ t, refGo l = t → chK self t l l.length = true → refElect self l = refGo (ownK self t l l.length) := by
    intro t h1 h2
    unfold chK at h2; rw [List.take_length] at h2
    unfold ownK; rw [List.take_length]
    simp only [refElect, h1, h2]; rfl
  generalize ht : refGo l = t at *
  have hfin1 := hfin1 t rfl
  have hfin2 := hfin2 t rfl
  have Hfin1 := Lib.hid hfin1
  have Hfin2 := Lib.hid hfin2
  have Ht := Lib.hid ht
  clear hfin1 hfin2 ht
  go_enter Try.func65, Try.ntmps65
  go_wp2_with (go_at_call 102; (with_reducible refine Calls.mono (refGo_any A cap l _ _ Hl0.out (Nat.le_refl _) Hn.out) ?_); rw [Ht.out]; rintro e w1 ⟨rfl, hb1⟩; have Hb1 := Lib.hid hb1; clear hb1)
  have hz : w.heap.size < w1.heap.size := by have := Hb1.out.size; simp at this; omega
  have hR : Blk w1 w.heap.size 132 #[.int .i64 0, .int .i64 0] := (Blk.new w _ _).below Hb1.out (by simp)
  have hbase : Below w.heap.size w w1 := Hb0.out.trans (Hb1.out.mono (by simp))
  have HR := Lib.hid hR
  have Hbase := Lib.hid hbase
  clear hR hbase
  go_loopw [6, 7, 8] (fun v ch i wr => ∃ k : Nat, k ≤ l.length ∧ i = .int .i64 k ∧ ch = .bool (chK self t l k) ∧ OwnC wr (w1.heap.size + 1) v (ownK self t l k) ∧ Blk wr w1.heap.size 132 #[.int .i64 t.1, .int .i64 t.2] ∧ Below w1.heap.size w1 wr) (fun _ _ i _ => l.length - (intOf i).toNat)
  case atStart => exact ⟨0, Nat.zero_le _, rfl, rfl, ⟨rfl, .inl ⟨rfl, rfl⟩⟩, Blk.new _ _ _, (Below.refl _ _).alloc (Nat.le_refl _) _⟩
  case round =>
    obtain ⟨k, hk, rfl, rfl, hown, hB, hb⟩ := hrel
    have hsz := hB.lt
    obtain ⟨t0, t1, g0, g1⟩ := hB.cells2
    have HB := Lib.hid hB
    clear hB
    obtain ⟨A', cp, rfl, _⟩ := OwnC.shape hown
    have hol := length_ownK self t l k hk
    have Hown := Lib.hid hown
    clear hown
    by_cases hlt : k < l.length
    · obtain ⟨b, o, rfl, hbB, e0, e1, e2, e3⟩ := CandsAt.at_ (CandsAt.below Hl.out (Hbase.out.trans (hb.mono (by omega)))) k hlt
      have hs1 := ownK_succ self t l k hlt
      have hs2 := chK_succ self t l k hlt
      generalize l[k] = c at *
      generalize hos : ownK self t l k = os at *
      generalize hch : chK self t l k = ch at *
      have hosl : os.length ≤ l.length := by omega
      clear hos hch hol
      rcases c with ⟨ci, cpr, cd, cb⟩
      rcases t with ⟨td, tb⟩
      simp only [refMark, agrees, mark] at hs1 hs2
      have hw : wr.heap.size + 1 ≤ 0 ∨ True := .inr trivial
      clear hw
      have hap : ∀ (a b c d : Int) (v' : Value) (W : World), W.ownsRow (w1.heap.size + 1) 130 4 v' (os.length + 1) (os.flatMap Cand.cells ++ [.int .i64 a, .int .i64 b, .int .i64 c, .int .i64 d]) → OwnC W (w1.heap.size + 1) v' (os ++ [⟨a, b, c, d⟩]) := by
        intro a b c d v' W h; simpa [OwnC, Cand.cells] using h
      have Hap := Lib.hid hap
      clear hap
      by_cases hid : (ci == self) = true
      · simp only [hid, Bool.true_and] at hs1 hs2
        generalize k1 : (td == self) = d1 at *
        generalize k2 : (tb == self) = d2 at *
        generalize k3 : (cd == self) = d3 at *
        generalize k4 : (cb == self) = d4 at *
        cases d1 <;> cases d2 <;> cases d3 <;> cases d4
        all_goals simp at hs1 hs2
        all_goals first
          | (have hs1 : ownK self (td, tb) l (k + 1) = os ++ [⟨ci, cpr, cd, cb⟩] := hs1
             have Hs1 := Lib.hid hs1
             have Hs2 := Lib.hid hs2
             clear hs1 hs2
             go_wp2_with (at_builtin; refine wpList_append_own _ rfl _ _ 127 rfl (w1.heap.size + 1) 130 i0 _ 4 32 Try.underlying127 hi hz0 hz1 hz2 rfl (by decide) _ _ _ rfl ((Hown.out.alloc _).alloc _) ⟨wr.heap.size + 1, 0, none⟩ 1 1 [.int .i64 ci, .int .i64 cpr, .int .i64 cd, .int .i64 cb] rfl rfl (news4 _ _ _ _ _ _ _ (by simp)) (ones4 _ _ _ _) (by unfold maxLen; omega) (by omega) (by simp; omega) ?_)
             · intro v' w3 hown' hg _
               have hbl := OwnC.app Hown.out (((Below.refl _ _).alloc (Nat.le_refl _) _).alloc (by simp) _) hg (by omega)
               have hown3 := Hap.out _ _ _ _ _ _ hown'
               have Hown3 := Lib.hid hown3
               have Hbl := Lib.hid hbl
               clear hown' hg hown3 hbl
               go_wp2
               go_roundw
               case measure => simp [intOf]; omega
               case rel => exact ⟨k + 1, hlt, by go_num, by rw [Hs2.out], by rw [Hs1.out]; exact Hown3.out, HB.out.below Hbl.out (by omega), hb.trans (Hbl.out.mono (by omega))⟩)
          | (have hs1 : ownK self (td, tb) l (k + 1) = os ++ [⟨ci, cpr, self, 0⟩] := hs1
             have Hs1 := Lib.hid hs1
             have Hs2 := Lib.hid hs2
             clear hs1 hs2
             go_wp2_with (at_builtin; refine wpList_append_own _ rfl _ _ 127 rfl (w1.heap.size + 1) 130 i0 _ 4 32 Try.underlying127 hi hz0 hz1 hz2 rfl (by decide) _ _ _ rfl ((Hown.out.alloc _).alloc _) ⟨wr.heap.size + 1, 0, none⟩ 1 1 [.int .i64 ci, .int .i64 cpr, .int .i64 self, .int .i64 0] rfl rfl (news4 _ _ _ _ _ _ _ (by simp)) (ones4 _ _ _ _) (by unfold maxLen; omega) (by omega) (by simp; omega) ?_)
             · intro v' w3 hown' hg _
               have hbl := OwnC.app Hown.out (((Below.refl _ _).alloc (Nat.le_refl _) _).alloc (by simp) _) hg (by omega)
               have hown3 := Hap.out _ _ _ _ _ _ hown'
               have Hown3 := Lib.hid hown3
               have Hbl := Lib.hid hbl
               clear hown' hg hown3 hbl
               go_wp2
               go_roundw
               case measure => simp [intOf]; omega
               case rel => exact ⟨k + 1, hlt, by go_num, by rw [Hs2.out], by rw [Hs1.out]; exact Hown3.out, HB.out.below Hbl.out (by omega), hb.trans (Hbl.out.mono (by omega))⟩)
          | (have hs1 : ownK self (td, tb) l (k + 1) = os ++ [⟨ci, cpr, 0, self⟩] := hs1
             have Hs1 := Lib.hid hs1
             have Hs2 := Lib.hid hs2
             clear hs1 hs2
             go_wp2_with (at_builtin; refine wpList_append_own _ rfl _ _ 127 rfl (w1.heap.size + 1) 130 i0 _ 4 32 Try.underlying127 hi hz0 hz1 hz2 rfl (by decide) _ _ _ rfl ((Hown.out.alloc _).alloc _) ⟨wr.heap.size + 1, 0, none⟩ 1 1 [.int .i64 ci, .int .i64 cpr, .int .i64 0, .int .i64 self] rfl rfl (news4 _ _ _ _ _ _ _ (by simp)) (ones4 _ _ _ _) (by unfold maxLen; omega) (by omega) (by simp; omega) ?_)
             · intro v' w3 hown' hg _
               have hbl := OwnC.app Hown.out (((Below.refl _ _).alloc (Nat.le_refl _) _).alloc (by simp) _) hg (by omega)
               have hown3 := Hap.out _ _ _ _ _ _ hown'
               have Hown3 := Lib.hid hown3
               have Hbl := Lib.hid hbl
               clear hown' hg hown3 hbl
               go_wp2
               go_roundw
               case measure => simp [intOf]; omega
               case rel => exact ⟨k + 1, hlt, by go_num, by rw [Hs2.out], by rw [Hs1.out]; exact Hown3.out, HB.out.below Hbl.out (by omega), hb.trans (Hbl.out.mono (by omega))⟩)
          | (have hs1 : ownK self (td, tb) l (k + 1) = os ++ [⟨ci, cpr, 0, 0⟩] := hs1
             have Hs1 := Lib.hid hs1
             have Hs2 := Lib.hid hs2
             clear hs1 hs2
             go_wp2_with (at_builtin; refine wpList_append_own _ rfl _ _ 127 rfl (w1.heap.size + 1) 130 i0 _ 4 32 Try.underlying127 hi hz0 hz1 hz2 rfl (by decide) _ _ _ rfl ((Hown.out.alloc _).alloc _) ⟨wr.heap.size + 1, 0, none⟩ 1 1 [.int .i64 ci, .int .i64 cpr, .int .i64 0, .int .i64 0] rfl rfl (news4 _ _ _ _ _ _ _ (by simp)) (ones4 _ _ _ _) (by unfold maxLen; omega) (by omega) (by simp; omega) ?_)
             · intro v' w3 hown' hg _
               have hbl := OwnC.app Hown.out (((Below.refl _ _).alloc (Nat.le_refl _) _).alloc (by simp) _) hg (by omega)
               have hown3 := Hap.out _ _ _ _ _ _ hown'
               have Hown3 := Lib.hid hown3
               have Hbl := Lib.hid hbl
               clear hown' hg hown3 hbl
               go_wp2
               go_roundw
               case measure => simp [intOf]; omega
               case rel => exact ⟨k + 1, hlt, by go_num, by rw [Hs2.out], by rw [Hs1.out]; exact Hown3.out, HB.out.below Hbl.out (by omega), hb.trans (Hbl.out.mono (by omega))⟩)
      · have hid := Bool.eq_false_iff.2 hid
        simp only [hid, Bool.false_and, Bool.or_false, Bool.false_eq_true, if_false] at hs1 hs2
        have Hs1 := Lib.hid hs1
        have Hs2 := Lib.hid hs2
        clear hs1 hs2
        go_wp2_with (at_builtin; refine wpList_append_own _ rfl _ _ 127 rfl (w1.heap.size + 1) 130 i0 _ 4 32 Try.underlying127 hi hz0 hz1 hz2 rfl (by decide) _ _ _ rfl ((Hown.out.alloc _).alloc _) ⟨wr.heap.size + 1, 0, none⟩ 1 1 [.int .i64 ci, .int .i64 cpr, .int .i64 cd, .int .i64 cb] rfl rfl (news4 _ _ _ _ _ _ _ (by simp)) (ones4 _ _ _ _) (by unfold maxLen; omega) (by omega) (by simp; omega) ?_)
        · intro v' w3 hown' hg _
          have hbl := OwnC.app Hown.out (((Below.refl _ _).alloc (Nat.le_refl _) _).alloc (by simp) _) hg (by omega)
          have hown3 := Hap.out _ _ _ _ _ _ hown'
          have Hown3 := Lib.hid hown3
          have Hbl := Lib.hid hbl
          clear hown' hg hown3 hbl
          go_wp2
          go_roundw
          case measure => simp [intOf]; omega
          case rel => exact ⟨k + 1, hlt, by go_num, by rw [Hs2.out], by rw [Hs1.out]; exact Hown3.out, HB.out.below Hbl.out (by omega), hb.trans (Hbl.out.mono (by omega))⟩
    · have : k = l.length := by omega
      subst this
      have hfin1 := Hfin1.out
      have hfin2 := Hfin2.out
      have hrr := HR.out.below hb hz
      obtain ⟨r0, r1, q0, q1⟩ := hrr.cells2
      have hrn1 : ¬ w.heap.size = w1.heap.size := by omega
      have hrn2 : ¬ w1.heap.size = w.heap.size := by omega
      rcases t with ⟨td, tb⟩
      obtain ⟨hA, hcA⟩ : l.length = (ownK self (td, tb) l l.length).length ∧ CandsAt wr wr.heap.size A' (ownK self (td, tb) l l.length) := by
        obtain ⟨A2, cp2, e, hc⟩ := Hown.out.shape
        simp only [Value.slice.injEq] at e
        rw [← e.1] at hc
        exact ⟨hol.symm, hc⟩
      have hcl : (ownK self (td, tb) l l.length).length ≤ 2 ^ 40 := by omega
      generalize ownK self (td, tb) l l.length = os at *
      generalize chK self (td, tb) l l.length = ch at *
      have HA := Lib.hid hA
      have HcA := Lib.hid hcA
      have Hcl := Lib.hid hcl
      have hbb := Hbase.out.trans (hb.mono (by omega))
      clear hA hcA hcl hrr hol
      cases ch
      · have hfin := hfin1 rfl
        have Hfin := Lib.hid hfin
        clear hfin hfin1 hfin2
        go_wp2
        refine bodyPost_ret (v := .agg #[.int .i64 td, .int .i64 tb]) (by simp [results, Try.results65, go_sem, r0, r1]) rfl ⟨by rw [Hfin.out], ?_⟩
        exact (hbb.setCell (p := ⟨w.heap.size, 0, none⟩) (Nat.le_refl _) _).setCell (p := ⟨w.heap.size, 1, none⟩) (Nat.le_refl _) _
      · have hfin := hfin2 rfl
        have Hfin := Lib.hid hfin
        clear hfin hfin1 hfin2
        have hrz : w.heap.size < wr.heap.size := by omega
        go_wp2_with (go_at_call 102; (with_reducible refine Calls.mono (refGo_n _ _ _ _ _ _ HcA.out (Nat.le_refl _) Hcl.out (by first | rfl | exact HA.out)) ?_); rintro e w4 ⟨rfl, hb4⟩; obtain ⟨r0, r1, q0, q1⟩ := ((HR.out.below hb hz).below hb4 hrz).cells2)
        refine bodyPost_ret (v := .agg #[.int .i64 (refGo os).1, .int .i64 (refGo os).2]) (by simp [results, Try.results65, go_sem, r0, r1]) rfl ⟨by rw [Hfin.out], ?_⟩
        exact ((hbb.trans (hb4.mono (by omega))).setCell (p := ⟨w.heap.size, 0, none⟩) (Nat.le_refl _) _).setCell (p := ⟨w.heap.size, 1, none⟩) (Nat.le_refl _) _

end Go.Proofs.Ytfhikkmgclkcdaa
