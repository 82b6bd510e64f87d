/-
  FloodLan: the members of a mask.
-/
import Derived.Test.YtfhikkmgclkcdaaFlWakes
namespace Go.Proofs.Ytfhikkmgclkcdaa
open Go.RowKit

def bitB (m i : Nat) : Bool := m / 2 ^ i % 2 == 1
def membersK (m k : Nat) : List Int := ((List.range k).filter (bitB m)).map fun (i : Nat) => ((i : Int) + 1)
theorem bits_all : ((List.range 256).all fun m => (List.range 8).all fun k => (bits BinOp.and IntKind.u8 ((m : Int) / 2 ^ k) 1 == 1) == bitB m k) = true := by kernel_rfl
theorem bits_is {m k : Nat} (hm : m ≤ 255) (hk : k < 8) : (bits BinOp.and IntKind.u8 ((m : Int) / 2 ^ k) 1 == 1) = bitB m k := by
  have h := List.all_eq_true.1 (List.all_eq_true.1 bits_all m (List.mem_range.2 (by omega))) k (List.mem_range.2 hk)
  simpa using h
theorem membersK_succ (m k : Nat) : membersK m (k + 1) = membersK m k ++ (if bitB m k = true then [((k : Int) + 1)] else []) := by
  unfold membersK
  rw [List.range_succ, List.filter_append, List.map_append]
  congr 1
  by_cases h : bitB m k = true <;> simp [h]
theorem membersK_len (m k : Nat) : (membersK m k).length ≤ k := by
  unfold membersK
  rw [List.length_map]
  have := List.length_filter_le (bitB m) (List.range k)
  rwa [List.length_range] at this

set_option maxHeartbeats 1000000 in
set_option maxRecDepth 100000 in
theorem members_any (m : Nat) (hm : m ≤ 255) (w : World) : Calls Try.prog 16 #[.int .u8 (m : Int)] w fun r w' => ∃ v, r = .returned v ∧ OwnI w' w.heap.size v (membersK m 8) ∧ Below w.heap.size w w' := by
  go_enter Try.func16, Try.ntmps16
  go_wp2
  go_loopw [3, 5] (fun v i wr => ∃ k : Nat, k ≤ 8 ∧ i = .int .i64 k ∧ OwnI wr w.heap.size v (membersK m k) ∧ Below w.heap.size w wr) (fun _ i _ => 8 - (intOf i).toNat)
  case atStart => exact ⟨0, Nat.zero_le _, rfl, by simpa [membersK] using OwnI.nil w w.heap.size, Below.refl _ _⟩
  case round =>
    obtain ⟨k, hk, rfl, hown, hb⟩ := hrel
    obtain ⟨A, cap, rfl⟩ := hown.shape
    by_cases hlt : k < 8
    · have hs := membersK_succ m k
      have hl := membersK_len m k
      have hbit := bits_is hm hlt
      have Hs := Lib.hid hs
      have Hl := Lib.hid hl
      have Hown := Lib.hid hown
      have Hb := Lib.hid hb
      clear hs hl hown hb
      cases ht : bitB m k
      · rw [ht] at hbit
        have Ht := Lib.hid ht
        clear ht
        go_wp2_with fail
        go_roundw
        case measure => simp [intOf]; omega
        case rel => exact ⟨k + 1, hlt, by go_num, by rw [Hs.out, Ht.out]; simpa using Hown.out, Hb.out⟩
      · rw [ht] at hbit
        have Ht := Lib.hid ht
        clear ht
        go_wp2_with (at_builtin; refine app_int rfl _ _ rfl w.heap.size (.slice A (membersK m k).length cap) (membersK m k) rfl (Hown.out.alloc _) wr.heap.size ((k : Int) + 1) rfl ((Blk.new _ _ _).cell 0) (by have := Hl.out; omega) (by have := Hb.out.size; simp; omega) ?_; intro v5 w5 hown5 hg5; have Hown5 := Lib.hid hown5; have Hb5 := Lib.hid ((Hb.out.alloc Hb.out.size _).grown hg5 (Hb.out.alloc Hb.out.size _).size (fun j e => (Hown.out.block j e).1)); clear hown5 hg5)
        go_roundw
        case measure => simp [intOf]; omega
        case rel => exact ⟨k + 1, hlt, by go_num, by rw [Hs.out, Ht.out]; simpa using Hown5.out, Hb5.out⟩
    · have : k = 8 := by omega
      subst this
      have Hown := Lib.hid hown
      have Hb := Lib.hid hb
      clear hown hb
      go_wp2
      go_ret
      exact ⟨_, rfl, Hown.out, Hb.out⟩

end Go.Proofs.Ytfhikkmgclkcdaa
