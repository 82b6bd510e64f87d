/-
  Layer 27: the reference's part.
-/
import Derived.Lib.QuietBelow
import Derived.Deep.QuietTactic
import Derived.BigQuiet
import Derived.Test.YtfhikkmgclkcdaaAuJoin
import Derived.Test.YtfhikkmgclkcdaaAuPartP
namespace Go.Proofs.Ytfhikkmgclkcdaa
open Go.RowKit Go.Sort

def boolC (s : Nat → Bool) : Array Value := ((List.range 16).map fun k => Value.bool (s k)).toArray
theorem boolC_get (s : Nat → Bool) (k : Nat) (h : k < 16) : (boolC s)[k]? = some (.bool (s k)) := by simp [boolC, h]
theorem boolC_set (s : Nat → Bool) (b : Nat) (_h : b < 16) : (boolC s).setIfInBounds b (.bool true) = boolC (setS s b) := by
  apply Array.ext_getElem?
  intro k
  by_cases hk : k < 16
  · rw [boolC_get _ k hk]
    by_cases hb : b = k
    · subst hb
      rw [Array.getElem?_setIfInBounds_self_of_lt (by simp [boolC]; omega)]
      simp [setS]
    · rw [Array.getElem?_setIfInBounds_ne hb, boolC_get _ k hk]
      unfold setS
      rw [if_neg (fun e => hb e.symm)]
  · rw [Array.getElem?_eq_none (by simp [boolC]; omega), Array.getElem?_eq_none (by simp [boolC]; omega)]
theorem boolC_none : boolC (fun _ => false) = #[.bool false, .bool false, .bool false, .bool false, .bool false, .bool false, .bool false, .bool false, .bool false, .bool false, .bool false, .bool false, .bool false, .bool false, .bool false, .bool false] := rfl
def jC (C : List Stt) (a b : Nat) : Bool := joinB C (natI a) (natI b) 4
def outS (s : Nat → Bool) (k : Nat) : List Int := ((List.range k).filter fun n => decide (1 ≤ n) && s n).map natI
theorem outS_succ (s : Nat → Bool) (k : Nat) (hk : 1 ≤ k) : outS s (k + 1) = outS s k ++ (if s k = true then [natI k] else []) := by
  unfold outS
  rw [List.range_succ, List.filter_append, List.map_append]
  congr 1
  by_cases h : s k = true
  · simp [h, hk]
  · simp [h]
theorem outS_len (s : Nat → Bool) (k : Nat) : (outS s k).length ≤ k := by
  unfold outS
  rw [List.length_map]
  have := List.length_filter_le (fun n => decide (1 ≤ n) && s n) (List.range k)
  rwa [List.length_range] at this
theorem step_cases3 (j : Nat → Nat → Bool) (a b : Nat) (s : Nat → Bool) : (s a = false ∧ stepS j a s b = s) ∨ (s a = true ∧ j a b = false ∧ stepS j a s b = s) ∨ (s a = true ∧ j a b = true ∧ stepS j a s b = setS s b) := by
  unfold stepS
  cases s a <;> cases j a b <;> simp
theorem foldl_take_succ {α β : Type} (f : β → α → β) (l : List α) (s : β) (k : Nat) (hk : k < l.length) : (l.take (k + 1)).foldl f s = f ((l.take k).foldl f s) l[k] := by
  rw [List.take_succ_eq_append_getElem hk, List.foldl_append]; rfl
theorem id_at {C : List Stt} {ids : List Nat} (h : C.map Stt.id = ids.map natI) (k : Nat) (hk : k < C.length) : ∃ hi : k < ids.length, C[k].id = natI ids[k] := by
  have hl : C.length = ids.length := by simpa using congrArg List.length h
  refine ⟨by omega, ?_⟩
  have : (C.map Stt.id)[k]? = (ids.map natI)[k]? := by rw [h]
  have hi : k < ids.length := by omega
  simpa [hk, hi] using this

set_option maxHeartbeats 8000000 in
set_option maxRecDepth 100000 in
theorem part_any (n : Nat) (A : Option Addr) (cap : Nat) (C : List Stt) (ids : List Nat) (id : Nat) (w : World) (B : Nat) (hl : StatesAt w B A C) (hB : B ≤ w.heap.size) (hlen : C.length ≤ 1000) (hn : n = C.length) (hids : C.map Stt.id = ids.map natI) (h16 : ∀ x ∈ ids, x < 16) (hid : id < 16) :
    Calls Try.prog 73 #[.slice A n cap, .int .i64 (natI id)] w fun e w' => ∃ v, e = .returned v ∧ OwnI w' w.heap.size v (outS (iterS (jC C) ids (setS (fun _ => false) id) 16) 16) ∧ Below w.heap.size w w' := by
  subst hn
  have Hl := Lib.hid (hl.more hB)
  have Hids := Lib.hid hids
  have H16 := Lib.hid h16
  have hil : C.length = ids.length := by simpa using congrArg List.length hids
  have hst : Blk (w.alloc (.cells ([Value.bool false, .bool false, .bool false, .bool false, .bool false, .bool false, .bool false, .bool false, .bool false, .bool false, .bool false, .bool false, .bool false, .bool false, .bool false, .bool false].set id (.bool true)).toArray 180)) w.heap.size 180 (boolC (setS (fun _ => false) id)) :=
    (Blk.new _ _ _).to (by rw [← boolC_set _ id hid, boolC_none]; simp)
  have hb0 : Blk (w.alloc (.cells (boolC (fun _ => false)) 180)) w.heap.size 180 (boolC (fun _ => false)) := Blk.new _ _ _
  have x0 : (w.alloc (.cells (boolC (fun _ => false)) 180)).cell? ⟨w.heap.size, id, none⟩ = some (.bool false) := by rw [hb0.cell id, boolC_get _ id hid]
  have f0 := hb0.frozen id
  rw [boolC_none] at x0 f0
  have Hst := Lib.hid hst
  have Hil := Lib.hid hil
  have hid1 : (id : Int) < 16 := by omega
  have hid0 : (0 : Int) ≤ (id : Int) := by omega
  obtain ⟨s0, hs0⟩ : ∃ s, setS (fun _ => false) id = s := ⟨_, rfl⟩
  rw [hs0] at Hst
  rw [hs0]
  obtain ⟨j, hj⟩ : ∃ j, jC C = j := ⟨_, rfl⟩
  rw [hj]
  have Hj := Lib.hid hj
  clear hl hB hids h16 hb0 hst hil hs0 hj
  unfold natI
  go_enter Try.func73, Try.ntmps73
  go_wp2
  clear x0 f0
  go_loopw [6] (fun i wr => ∃ r : Nat, r ≤ 16 ∧ i = .int .i64 r ∧ Blk wr w.heap.size 180 (boolC (iterS j ids s0 r)) ∧ Below w.heap.size w wr) (fun i _ => 16 - (intOf i).toNat)
  case atStart => exact ⟨0, Nat.zero_le _, rfl, Hst.out, (Below.refl _ _).alloc (Nat.le_refl _) _⟩
  case round =>
    obtain ⟨wo, rfl⟩ : ∃ wo : World, wo = wr := ⟨_, rfl⟩
    obtain ⟨r, hr, rfl, hS, hb⟩ := hrel
    by_cases hrt : r < 16
    · have hrl : (r : Int) < 16 := by omega
      have hit : iterS j ids s0 (r + 1) = roundS j ids (iterS j ids s0 r) := rfl
      generalize iterS j ids s0 r = S at *
      have HS := Lib.hid hS
      have Hb := Lib.hid hb
      have Hit := Lib.hid hit
      clear hS hb hit
      go_wp2
      go_loopw [7] (fun i wr => ∃ a : Nat, a ≤ C.length ∧ i = .int .i64 a ∧ Blk wr w.heap.size 180 (boolC ((ids.take a).foldl (rowS j ids) S)) ∧ Below w.heap.size w wr) (fun i _ => C.length - (intOf i).toNat)
      case atStart => exact ⟨0, Nat.zero_le _, rfl, HS.out, Hb.out⟩
      case round =>
        obtain ⟨wm, rfl⟩ : ∃ wm : World, wm = wr := ⟨_, rfl⟩
        obtain ⟨a, ha, rfl, hS2, hb2⟩ := hrel
        by_cases hat : a < C.length
        · have hal : (a : Int) < (C.length : Int) := by omega
          have hai : a < ids.length := by rw [← Hil.out]; exact hat
          have hsa := foldl_take_succ (rowS j ids) ids S a hai
          obtain ⟨_, hida⟩ := id_at Hids.out a hat
          have hia16 := H16.out ids[a] (List.getElem_mem hai)
          obtain ⟨ia, hia⟩ : ∃ x, ids[a] = x := ⟨_, rfl⟩
          rw [hia] at hsa hida hia16
          generalize (ids.take a).foldl (rowS j ids) S = S2 at *
          have HS2 := Lib.hid hS2
          have Hb2 := Lib.hid hb2
          have Hsa := Lib.hid hsa
          have Hida := Lib.hid hida
          clear hS2 hb2 hsa hida hia
          go_wp2
          go_loopw [8] (fun i wr => ∃ b : Nat, b ≤ C.length ∧ i = .int .i64 b ∧ Blk wr w.heap.size 180 (boolC ((ids.take b).foldl (stepS j ia) S2)) ∧ Below w.heap.size w wr) (fun i _ => C.length - (intOf i).toNat)
          case atStart => exact ⟨0, Nat.zero_le _, rfl, HS2.out, Hb2.out⟩
          case round =>
            obtain ⟨b, hbl, rfl, hS3, hb3⟩ := hrel
            by_cases hbt : b < C.length
            · have hbl2 : (b : Int) < (C.length : Int) := by omega
              have hbi : b < ids.length := by rw [← Hil.out]; exact hbt
              have hsb := foldl_take_succ (stepS j ia) ids S2 b hbi
              obtain ⟨_, hidb⟩ := id_at Hids.out b hbt
              have hib16 := H16.out ids[b] (List.getElem_mem hbi)
              obtain ⟨ib, hib⟩ : ∃ x, ids[b] = x := ⟨_, rfl⟩
              rw [hib] at hsb hidb hib16
              obtain ⟨b9, o9, rfl, -, xa, -, -, -⟩ := States.at_ (Hl.out.below hb3).rows a hat
              obtain ⟨b8, o8, e, -, xb, -, -, -⟩ := States.at_ (Hl.out.below hb3).rows b hbt
              injection e with e
              injection e with ea eb
              subst ea eb
              rw [Hida.out] at xa
              rw [hidb] at xb
              unfold natI at xa xb
              generalize (ids.take b).foldl (stepS j ia) S2 = S3 at *
              have ya : wr.cell? ⟨w.heap.size, ia, none⟩ = some (.bool (S3 ia)) := by rw [hS3.cell ia, boolC_get _ ia hia16]
              have hc3 := step_cases3 j ia ib S3
              have hia1 : (ia : Int) < 16 := by omega
              have hib1 : (ib : Int) < 16 := by omega
              have HS3 := Lib.hid hS3
              have Hb3 := Lib.hid hb3
              have Hsb := Lib.hid hsb
              clear hS3 hb3 hsb hidb hib
              rcases hc3 with ⟨t1, e⟩ | ⟨t1, t2, e⟩ | ⟨t1, t2, e⟩
              · have E := Lib.hid e
                rw [t1] at ya
                clear e t1
                go_wp2_with fail
                go_quiet (fail)
                go_wp2
                go_roundw
                case measure => simp [intOf]; omega
                case rel => exact ⟨b + 1, hbt, by go_num, by rw [Hsb.out, E.out]; exact HS3.out.drewN _, below_drewN Hb3.out _⟩
              all_goals
                have E := Lib.hid e
                rw [t1] at ya
                have ka := cell_regrown xa
                have kb := cell_regrown xb
                have ky := cell_regrown ya
                have cJ : ∀ dd os, Calls Try.prog 107 #[.slice (some ⟨b9, o9, none⟩) C.length cap, .int .i64 (ia : Int), .int .i64 (ib : Int)] (grow (redrawn wr dd) os) fun r w'' => r = .returned (.bool (j ia ib)) ∧ ∃ p : Regrown, w'' = grow (redrawn wr p.d) p.os := fun dd os => Calls.regrown_of (joined_any _ _ cap C (ia : Int) (ib : Int) _ w.heap.size ((Hl.out.below Hb3.out).below ((below_regrown wr dd os).mono Hb3.out.size)) (Nat.le_trans Hb3.out.size (below_regrown wr dd os).size) hlen rfl (show joinB C (ia : Int) (ib : Int) 4 = j ia ib from congrFun (congrFun Hj.out ia) ib))
                rw [t2] at cJ
                have CJ := Lib.hid cJ
                clear cJ e t1 t2
                go_wp2_with fail
                refine wp_region_quiet_below (by kernel_rfl) (by kernel_rfl) ?_
                repeat (go_big_quiet_step (exact CJ.out _ _))
                refine wpQuiet_nil ?_
                rintro w3 ⟨⟨dq, osq⟩, rfl⟩
                obtain ⟨wz, hwz, hbz⟩ : ∃ wz, grow (redrawn wr dq) osq = wz ∧ Below wr.heap.size wr wz := ⟨_, rfl, below_regrown wr dq osq⟩
                rw [hwz]
                have hSz := HS3.out.below hbz HS3.out.lt
                have hbz2 := Hb3.out.trans (hbz.mono Hb3.out.size)
                have xz := cellIn xb hbz
                have yz : wz.cell? ⟨w.heap.size, ib, none⟩ = some (.bool (S3 ib)) := by rw [hSz.cell ib, boolC_get _ ib hib16]
                have fz := hSz.frozen ib
                have HSz := Lib.hid hSz
                have Hbz := Lib.hid hbz2
                clear hwz hbz hSz hbz2 ka kb ky xa xb ya
                go_wp2
                go_roundw
                case measure => simp [intOf]; omega
                case rel => first
                  | exact ⟨b + 1, hbt, by go_num, by rw [Hsb.out, E.out]; exact HSz.out, Hbz.out⟩
                  | exact ⟨b + 1, hbt, by go_num, by rw [Hsb.out, E.out, ← boolC_set _ ib hib16]; exact HSz.out.set_ ib _, Hbz.out.setCell (Nat.le_refl _) _⟩
            · have hbb : b = C.length := by omega
              subst hbb
              rw [Hil.out, List.take_length] at hS3
              have HS3 := Lib.hid hS3
              have Hb3 := Lib.hid hb3
              clear hS3 hb3
              go_wp2
              go_roundw
              case measure => simp [intOf]; omega
              case rel => exact ⟨a + 1, hat, by go_num, by rw [Hsa.out]; exact HS3.out, Hb3.out⟩
        · have haa : a = C.length := by omega
          subst haa
          rw [Hil.out, List.take_length] at hS2
          have HS2 := Lib.hid hS2
          have Hb2 := Lib.hid hb2
          clear hS2 hb2
          go_wp2
          go_roundw
          case measure => simp [intOf]; omega
          case rel => exact ⟨r + 1, hrt, by go_num, by rw [Hit.out]; exact HS2.out, Hb2.out⟩
    · have hr16 : r = 16 := by omega
      subst hr16
      obtain ⟨S, hSe⟩ : ∃ S, iterS j ids s0 16 = S := ⟨_, rfl⟩
      rw [hSe] at hS
      have HSe := Lib.hid hSe
      have HS := Lib.hid hS
      have Hb := Lib.hid hb
      clear hS hb hSe
      go_wp2
      go_loopw [9, 10] (fun v i wr => ∃ k : Nat, 1 ≤ k ∧ k ≤ 16 ∧ i = .int .i64 k ∧ OwnI wr (w.heap.size + 1) v (outS S k) ∧ Blk wr w.heap.size 180 (boolC S) ∧ Below w.heap.size w wr) (fun _ i _ => 16 - (intOf i).toNat)
      case atStart => exact ⟨1, by omega, by omega, rfl, OwnI.nil _ _, HS.out, Hb.out⟩
      case round =>
        obtain ⟨k, hk1, hk, rfl, hown, hS4, hb4⟩ := hrel
        obtain ⟨A5, c5, rfl⟩ := hown.shape
        by_cases hkt : k ≤ 15
        · have y0 : wr.cell? ⟨w.heap.size, k, none⟩ = some (.bool (S k)) := by rw [hS4.cell k, boolC_get _ k (by omega)]
          have hs := outS_succ S k hk1
          have hkl : (k : Int) ≤ 15 := by omega
          have hkl2 : (k : Int) < 16 := by omega
          have Hs := Lib.hid hs
          have Hol := Lib.hid (outS_len S k)
          have Hown := Lib.hid hown
          have HS4 := Lib.hid hS4
          have Hb4 := Lib.hid hb4
          clear hs hown hS4 hb4
          cases ht : S k
          · have Ht := Lib.hid ht
            rw [ht] at y0
            clear ht
            go_wp2
            go_roundw
            case measure => simp [intOf]; omega
            case rel => exact ⟨k + 1, by omega, by omega, by go_num, by rw [Hs.out, Ht.out]; simpa using Hown.out, HS4.out, Hb4.out⟩
          · have Ht := Lib.hid ht
            rw [ht] at y0
            clear ht
            go_wp2_with (at_builtin; go_must ((refine app_int rfl _ _ rfl (w.heap.size + 1) (.slice A5 (outS S k).length c5) (outS S k) rfl (Hown.out.alloc _) wr.heap.size (k : Int) rfl ((Blk.new _ _ _).cell 0) (by have := Hol.out; omega) (by have := HS4.out.lt; simp; omega) ?_; intro v5 w5 hown5 hg5; have Hown5 := Lib.hid hown5; have HS5 := Lib.hid ((HS4.out.alloc (.cells #[.int .i64 (k : Int)] 3)).grown hg5 (fun e => by have := (Hown.out.block _ e.symm).1; omega)); have Hb5 := Lib.hid ((Hb4.out.alloc Hb4.out.size _).grown hg5 (Hb4.out.alloc Hb4.out.size _).size (fun j e => by have := (Hown.out.block j e).1; omega)); clear hown5 hg5)))
            go_roundw
            case measure => simp [intOf]; omega
            case rel => first
              | exact ⟨k + 1, by omega, by omega, by go_num, by rw [Hs.out, Ht.out]; simpa [natI] using Hown5.out, HS5.out, Hb5.out⟩
              | (repeat apply Exists.intro
                 exact ⟨⟨k + 1, by omega, by omega, by go_num, by rw [Hs.out, Ht.out]; simpa [natI] using Hown5.out, HS5.out, Hb5.out⟩, rfl⟩)
        · have hk16 : k = 16 := by omega
          subst hk16
          have Hown := Lib.hid hown
          have Hb4 := Lib.hid hb4
          clear hown hS4 hb4
          go_wp2
          go_ret
          exact ⟨.slice A5 (outS S 16).length c5, rfl, by rw [HSe.out]; exact Hown.out.lower (Nat.le_succ _), Hb4.out⟩

end Go.Proofs.Ytfhikkmgclkcdaa
