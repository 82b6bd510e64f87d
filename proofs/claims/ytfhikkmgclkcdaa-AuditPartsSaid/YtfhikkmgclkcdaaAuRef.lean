/-
  Layer 27: the reference's Counted and view.
-/
import Derived.Test.YtfhikkmgclkcdaaAuAgreed
namespace Go.Proofs.Ytfhikkmgclkcdaa
open Go.RowKit

theorem infoStt : (Try.prog.info? 123).map (fun i => (i.zero, i.size, i.bytes)) = some (some (.agg #[.int .i64 0, .slice none 0 0, .slice none 0 0, .slice none 0 0]), 4, 80) := by kernel_rfl
theorem stt_ones (x : Stt) : ∀ u ∈ x.cells, u.oneCell' = true := by
  intro u hu
  simp [Stt.cells] at hu
  rcases hu with rfl | rfl | rfl | rfl <;> rfl
abbrev OwnT := OwnR 123 4 Stt.cells
def cntK (l : List Stt) (k : Nat) : List Stt := (List.range k).filterMap fun id => (tblI l id).map fun i => l.getD i default
theorem cntK_succ (l : List Stt) (k : Nat) : cntK l (k + 1) = cntK l k ++ (match tblI l k with | some i => [l.getD i default] | none => []) := by
  unfold cntK
  rw [List.range_succ, List.filterMap_append]
  congr 1
  rcases h : tblI l k with _ | i <;> simp [h]
theorem cntK_one (l : List Stt) : cntK l 1 = [] := rfl
theorem cntK_len (l : List Stt) (k : Nat) : (cntK l k).length ≤ k := by
  unfold cntK
  have := List.length_filterMap_le (fun id => (tblI l id).map fun i => l.getD i default) (List.range k)
  rwa [List.length_range] at this
theorem counted_mem {l : List Stt} {s : Stt} (h : s ∈ countedL l) : s ∈ l := by
  unfold countedL at h
  rw [List.mem_filterMap] at h
  obtain ⟨id, _, h⟩ := h
  rcases hi : tblI l id with _ | i
  · rw [hi] at h; cases h
  · rw [hi] at h
    obtain ⟨hil, _⟩ := tblI_id hi
    simp [List.getD, hil] at h
    rw [← h]
    exact List.getElem_mem hil
theorem tblI_hit {l : List Stt} {k j : Nat} (hk : 1 ≤ k) (hk2 : k ≤ 15) (hj : j < l.length) (hno : ∀ i, (hi : i < l.length) → i < j → (l[i].id == (k : Int)) = false) (h : (l[j].id == (k : Int)) = true) : tblI l k = some j := by
  unfold tblI
  rw [if_pos ⟨hk, hk2⟩, List.findIdx?_eq_some_iff_getElem]
  exact ⟨hj, h, fun i hi => by simp [hno i (by omega) hi]⟩
theorem tblI_miss {l : List Stt} {k : Nat} (hno : ∀ i, (hi : i < l.length) → (l[i].id == (k : Int)) = false) : tblI l k = none := by
  unfold tblI
  split
  · rw [List.findIdx?_eq_none_iff]
    intro x hx
    obtain ⟨j, hj, rfl⟩ := List.getElem_of_mem hx
    exact hno j hj
  · rfl

set_option maxHeartbeats 2000000 in
set_option maxRecDepth 100000 in
theorem refCounted_any (A : Option Addr) (cap : Nat) (l : List Stt) (w : World) (B : Nat) (hl : StatesAt w B A l) (hB : B ≤ w.heap.size) (hlen : l.length ≤ maxLen) :
    Calls Try.prog 22 #[.slice A l.length cap] w fun r w' => ∃ A' cap', r = .returned (.slice A' (countedL l).length cap') ∧ StatesAt w' w'.heap.size A' (countedL l) ∧ Below w.heap.size w w' := by
  unfold maxLen at hlen
  have Hl := Lib.hid (hl.more hB)
  clear hl hB
  go_enter Try.func22, Try.ntmps22
  go_wp2
  go_loopw [3, 4] (fun v i wr => ∃ k : Nat, 1 ≤ k ∧ k ≤ 16 ∧ i = .int .i64 k ∧ OwnT wr w.heap.size v (cntK l k) ∧ Below w.heap.size w wr) (fun _ i _ => 16 - (intOf i).toNat)
  case atStart => exact ⟨1, by omega, by omega, rfl, OwnR.nil _ _, Below.refl _ _⟩
  case round =>
    obtain ⟨wo, rfl⟩ : ∃ wo : World, wo = wr := ⟨_, rfl⟩
    obtain ⟨k, hk1, hk, rfl, hown, hb⟩ := hrel
    obtain ⟨A3, c3, hv3⟩ := OwnR.shape hown
    subst hv3
    by_cases hlt : k ≤ 15
    · have hkl : (k : Int) ≤ 15 := by omega
      have Hown := Lib.hid hown
      have Hb := Lib.hid hb
      have Hcl := Lib.hid (cntK_len l k)
      clear hown hb
      go_wp2
      go_loopw [3, 5] (fun v i wr => wr = wo ∧ v = .slice A3 (cntK l k).length c3 ∧ ∃ j : Nat, j ≤ l.length ∧ i = .int .i64 j ∧ ∀ i, (hi : i < l.length) → i < j → (l[i].id == (k : Int)) = false) (fun _ i _ => l.length - (intOf i).toNat)
      case atStart => exact ⟨rfl, rfl, 0, Nat.zero_le _, rfl, fun i _ hi => absurd hi (Nat.not_lt_zero _)⟩
      case round =>
        obtain ⟨hwr, rfl, j, hj, rfl, hno⟩ := hrel
        subst hwr
        by_cases hjt : j < l.length
        · obtain ⟨b, o, rfl, -, e0, e1, e2, e3⟩ := States.at_ (Hl.out.below Hb.out).rows j hjt
          have hhit := tblI_hit hk1 hlt hjt hno
          have hjl : (j : Int) < (l.length : Int) := by omega
          have hgd : l.getD j default = l[j] := by simp [List.getD, hjt]
          obtain ⟨s, hsj⟩ : ∃ s, l[j] = s := ⟨_, rfl⟩
          rw [hsj] at e0 e1 e2 e3 hgd hhit
          have Hno := Lib.hid hno
          have Hsj := Lib.hid hsj
          clear hno hsj
          cases ht : (s.id == (k : Int))
          · have Ht := Lib.hid ht
            clear hhit hgd
            go_wp2
            go_roundw
            case measure => simp [intOf]; omega
            case rel =>
              refine ⟨trivial, rfl, j + 1, hjt, by go_num, fun i hi hij => ?_⟩
              rcases Nat.lt_succ_iff_lt_or_eq.1 hij with h | h
              · exact Hno.out i hi h
              · subst h; rw [Hsj.out]; exact Ht.out
          · have hs2 : cntK l (k + 1) = cntK l k ++ [s] := by rw [cntK_succ, hhit ht]; simp only; rw [hgd]
            have Hs2 := Lib.hid hs2
            clear hhit hgd hs2
            go_wp2_with (at_builtin; go_must ((refine app_row Stt.cells (fun _ => rfl) (by decide) (by decide) infoStt rfl Try.underlying37 stt_ones rfl _ _ rfl w.heap.size (.slice A3 (cntK l k).length c3) (cntK l k) rfl (OwnR.alloc Hown.out _) wr.heap.size s rfl (by exact Blk.new _ _ _) (by have := Hcl.out; omega) (by have := Hb.out.size; simp; omega) ?_; intro v5 w5 hown5 hg5 _; have Hown5 := Lib.hid hown5; have Hb5 := Lib.hid ((Hb.out.alloc Hb.out.size _).grown hg5 (by have := Hb.out.size; simp; omega) (fun j e => (OwnR.block Hown.out j e).1)); clear hown5 hg5)))
            go_roundw
            case measure => simp [intOf]; omega
            case rel => exact ⟨k + 1, by omega, by omega, by go_num, by rw [Hs2.out]; exact Hown5.out, Hb5.out⟩
        · have hjj : j = l.length := by omega
          subst hjj
          have hm := tblI_miss (k := k) (fun i hi => hno i hi hi)
          have hs2 : cntK l (k + 1) = cntK l k := by rw [cntK_succ, hm]; simp
          have Hs2 := Lib.hid hs2
          clear hno hm hs2
          go_wp2
          go_roundw
          case measure => simp [intOf]; omega
          case rel => exact ⟨k + 1, by omega, by omega, by go_num, by rw [Hs2.out]; exact Hown.out, Hb.out⟩
    · have hkk : k = 16 := by omega
      subst hkk
      have Hown := Lib.hid hown
      have Hb := Lib.hid hb
      clear hown hb
      go_wp2
      go_ret
      refine ⟨A3, c3, rfl, ⟨(OwnR.rows (C := 4) (cells := Stt.cells) (fun _ => rfl) Hown.out).2, fun s hs => ?_⟩, Hb.out⟩
      exact ((Hl.out.each s (counted_mem hs)).below Hb.out).more Hb.out.size

end Go.Proofs.Ytfhikkmgclkcdaa
