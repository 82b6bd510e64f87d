/-
  Layer 27: the table of those that count (audit.counted).
-/
import Derived.Test.YtfhikkmgclkcdaaAuIface
namespace Go.Proofs.Ytfhikkmgclkcdaa
open Go.RowKit

def entryV (A : Option Addr) (i : Nat) : Value := .pointer (A.map fun a => ⟨a.block, a.off + i * 4, none⟩)
def tblV (A : Option Addr) (l : List Stt) (id : Nat) : Value := match tblI l id with
  | some i => entryV A i
  | none => .pointer none
def tblC (A : Option Addr) (l : List Stt) : Array Value := ((List.range 16).map (tblV A l)).toArray
theorem tblC_get (A : Option Addr) (l : List Stt) (id : Nat) (h : id < 16) : (tblC A l)[id]? = some (tblV A l id) := by
  simp [tblC, h]
theorem tblC_keep {A : Option Addr} {l m : List Stt} (h : ∀ id, id < 16 → tblI m id = tblI l id) : tblC A m = tblC A l := by
  unfold tblC
  congr 1
  refine List.map_congr_left fun id hid => ?_
  unfold tblV
  rw [h id (List.mem_range.1 hid)]
theorem tblC_put {A : Option Addr} {l m : List Stt} {n i : Nat} (_hn : n < 16) (h : tblI m n = some i) (ho : ∀ id, id < 16 → id ≠ n → tblI m id = tblI l id) : (tblC A l).setIfInBounds n (entryV A i) = tblC A m := by
  apply Array.ext_getElem?
  intro j
  by_cases hj : j < 16
  · rw [tblC_get A m j hj]
    by_cases hjn : n = j
    · subst hjn
      rw [Array.getElem?_setIfInBounds_self_of_lt (by simp [tblC]; omega)]
      simp [tblV, h]
    · rw [Array.getElem?_setIfInBounds_ne hjn, tblC_get A l j hj]
      unfold tblV
      rw [ho j hj (fun e => hjn e.symm)]
  · rw [Array.getElem?_eq_none (by simp [tblC]; omega), Array.getElem?_eq_none (by simp [tblC]; omega)]
theorem tblI_nil (id : Nat) : tblI [] id = none := by unfold tblI; split <;> rfl
theorem tblC_nil (A : Option Addr) : tblC A [] = #[.pointer none, .pointer none, .pointer none, .pointer none, .pointer none, .pointer none, .pointer none, .pointer none, .pointer none, .pointer none, .pointer none, .pointer none, .pointer none, .pointer none, .pointer none, .pointer none] := by
  unfold tblC tblV
  simp only [tblI_nil]
  rfl
theorem States.at_ {w : World} {B : Nat} {A : Option Addr} {l : List Stt} (h : RowsAt 4 Stt.cells w B A l) (k : Nat) (hk : k < l.length) : ∃ b o, A = some ⟨b, o, none⟩ ∧ b < B ∧
    w.cell? ⟨b, o + k * 4, none⟩ = some (.int .i64 l[k].id) ∧ w.cell? ⟨b, o + k * 4 + 1, none⟩ = some (.slice l[k].va l[k].views.length l[k].vcap) ∧ w.cell? ⟨b, o + k * 4 + 2, none⟩ = some (.slice l[k].la l[k].lsas.length l[k].lcap) ∧ w.cell? ⟨b, o + k * 4 + 3, none⟩ = some (.slice l[k].ra l[k].rn l[k].rcap) := by
  obtain ⟨b, o, e, hb, hc⟩ := RowsAt.at_ h k hk
  exact ⟨b, o, e, hb, hc 0 _ (by omega) rfl, hc 1 _ (by omega) rfl, hc 2 _ (by omega) rfl, hc 3 _ (by omega) rfl⟩
/-- what one more state does to the table -/
theorem tbl_step (A : Option Addr) (l : List Stt) (k : Nat) (hk : k < l.length) :
    (l[k].id < 1 ∧ tblC A (l.take (k + 1)) = tblC A (l.take k)) ∨ (1 ≤ l[k].id ∧ 15 < l[k].id ∧ tblC A (l.take (k + 1)) = tblC A (l.take k)) ∨
    (∃ n : Nat, 1 ≤ n ∧ n ≤ 15 ∧ l[k].id = (n : Int) ∧ ((∃ i, tblI (l.take k) n = some i ∧ tblC A (l.take (k + 1)) = tblC A (l.take k)) ∨ (tblI (l.take k) n = none ∧ tblC A (l.take (k + 1)) = (tblC A (l.take k)).setIfInBounds n (entryV A k)))) := by
  have hs := tblI_succ hk
  by_cases h1 : l[k].id < 1
  · refine .inl ⟨h1, tblC_keep fun id _ => ?_⟩
    rw [hs id, if_neg (by omega), Option.or_none]
  · by_cases h2 : 15 < l[k].id
    · refine .inr (.inl ⟨by omega, h2, tblC_keep fun id _ => ?_⟩)
      rw [hs id, if_neg (by omega), Option.or_none]
    · refine .inr (.inr ⟨l[k].id.toNat, by omega, by omega, by omega, ?_⟩)
      have he : l[k].id = (l[k].id.toNat : Int) := by omega
      generalize l[k].id.toNat = n at *
      rcases hi : tblI (l.take k) n with _ | i
      · refine .inr ⟨rfl, (tblC_put (by omega) (by rw [hs n, hi, if_pos ⟨by omega, by omega, he⟩]; rfl) fun id _ hne => ?_).symm⟩
        rw [hs id, if_neg (fun h => hne (by omega)), Option.or_none]
      · refine .inl ⟨i, rfl, tblC_keep fun id _ => ?_⟩
        by_cases hid : id = n
        · subst hid; rw [hs id, hi]; rfl
        · rw [hs id, if_neg (fun h => hid (by omega)), Option.or_none]

set_option maxHeartbeats 2000000 in
set_option maxRecDepth 100000 in
theorem counted_any (A : Option Addr) (cap : Nat) (l : List Stt) (w : World) (B : Nat) (hl : RowsAt 4 Stt.cells w B A l) (hB : B ≤ w.heap.size) (hlen : l.length ≤ maxLen) :
    Calls Try.prog 62 #[.slice A l.length cap] w fun r w' => r = .returned (.pointer (some ⟨w.heap.size, 0, none⟩)) ∧ Blk w' w.heap.size 172 (tblC A l) ∧ Below w.heap.size w w' := by
  unfold maxLen at hlen
  have Hl := Lib.hid (hl.more hB)
  have hnil := tblC_nil A
  have Hnil := Lib.hid hnil
  clear hl hB hnil
  go_enter Try.func62, Try.ntmps62
  go_wp2
  go_loopw [8] (fun i wr => ∃ k : Nat, k ≤ l.length ∧ i = .int .i64 k ∧ Blk wr w.heap.size 172 (tblC A (l.take k)) ∧ Below w.heap.size w wr) (fun i _ => l.length - (intOf i).toNat)
  case atStart => exact ⟨0, Nat.zero_le _, rfl, by rw [List.take_zero, Hnil.out]; exact Blk.new _ _ _, (Below.refl _ _).alloc (Nat.le_refl _) _⟩
  case round =>
    obtain ⟨k, hk, rfl, hT, hb⟩ := hrel
    by_cases hlt : k < l.length
    · obtain ⟨b, o, rfl, -, e0, -, -, -⟩ := States.at_ (Hl.out.below hb) k hlt
      have hst := tbl_step (some ⟨b, o, none⟩) l k hlt
      have hkl : (k : Int) < (l.length : Int) := by omega
      generalize l[k].id = id at *
      have HT := Lib.hid hT
      have Hb := Lib.hid hb
      clear hT hb
      rcases hst with ⟨h1, e⟩ | ⟨h1, h2, e⟩ | ⟨n, h1, h2, rfl, ⟨i, hi, e⟩ | ⟨hi, e⟩⟩
      · have E := Lib.hid e
        clear e
        go_wp2
        go_roundw
        case measure => simp [intOf]; omega
        case rel => exact ⟨k + 1, hlt, by go_num, by rw [E.out]; exact HT.out, Hb.out⟩
      · have E := Lib.hid e
        clear e
        go_wp2
        go_roundw
        case measure => simp [intOf]; omega
        case rel => exact ⟨k + 1, hlt, by go_num, by rw [E.out]; exact HT.out, Hb.out⟩
      · have E := Lib.hid e
        have x0 : wr.cell? ⟨w.heap.size, n, none⟩ = some (.pointer (some ⟨b, o + i * 4, none⟩)) := by
          rw [HT.out.cell n, tblC_get _ _ n (by omega)]; unfold tblV; rw [hi]; rfl
        have h1' : (1 : Int) ≤ (n : Int) := by omega
        have h2' : (n : Int) ≤ 15 := by omega
        clear e hi
        go_wp2
        go_roundw
        case measure => simp [intOf]; omega
        case rel => exact ⟨k + 1, hlt, by go_num, by rw [E.out]; exact HT.out, Hb.out⟩
      · have E := Lib.hid e
        have x0 : wr.cell? ⟨w.heap.size, n, none⟩ = some (.pointer none) := by
          rw [HT.out.cell n, tblC_get _ _ n (by omega)]; unfold tblV; rw [hi]
        have f0 : wr.frozen? ⟨w.heap.size, n, none⟩ = false := HT.out.frozen n
        have h1' : (1 : Int) ≤ (n : Int) := by omega
        have h2' : (n : Int) ≤ 15 := by omega
        clear e hi
        go_wp2
        go_roundw
        case measure => simp [intOf]; omega
        case rel => exact ⟨k + 1, hlt, by go_num, by rw [E.out]; exact HT.out.set_ n _, Hb.out.setCell (Nat.le_refl _) _⟩
    · have hkk : k = l.length := by omega
      subst hkk
      rw [List.take_length] at hT
      have HT := Lib.hid hT
      have Hb := Lib.hid hb
      clear hT hb
      go_wp2
      go_ret
      exact ⟨rfl, HT.out, Hb.out⟩

end Go.Proofs.Ytfhikkmgclkcdaa
