/-
  A row of structs that a call made itself, behind the library's sort.
-/
import Derived.Shelf.SlSortCmp.NoneTotal
import Derived.Shelf.SlGeneric
import Derived.Ground.SlsfProg
import Derived.Test.YtpnbibokddhheaaGreatProg
import Derived.Test.YtpnbibokddhheaaGreatBaa
import Derived.Test.YtpnbibokddhheaaGreatBab
import Derived.Test.YtpnbibokddhheaaGreatBac
import Derived.Test.YtpnbibokddhheaaGreatBaf
import Derived.Test.YtpnbibokddhheaaGreatBag
import Derived.Test.YtpnbibokddhheaaGreatBaj
namespace Go.Proofs.YtpnbibokddhheaaGreat
open Go.RowKit Go.Sort Go.Proofs

section
variable {α : Type} [Inhabited α] {e : TypeId} {C : Nat} {cells : α → List Value} {w : World} {B : Nat} {L : List α}
theorem flatK_list (hC : ∀ x, (cells x).length = C) (M : List α) : (flatK cells C M.toArray).toList = M.flatMap cells := by
  apply List.ext_getElem?
  intro t
  by_cases ht : t < M.length * C
  · have h0 : 0 < C := by
      rcases Nat.eq_zero_or_pos C with h | h
      · subst h; simp at ht
      · exact h
    have hk : t / C < M.length := Nat.div_lt_of_lt_mul (by rw [Nat.mul_comm]; exact ht)
    have hi : t % C < C := Nat.mod_lt _ h0
    have e1 := flatR cells C hC M (t / C) (t % C) hk hi
    rw [show t / C * C + t % C = t by rw [Nat.mul_comm]; exact Nat.div_add_mod t C] at e1
    rw [e1, Array.getElem?_toList]
    have hs : t < (flatK cells C M.toArray).size := by rw [size_flatK]; simpa using ht
    have e2 := get_flatK cells C M.toArray t (by simpa using ht)
    rw [getElem!_pos _ t hs] at e2
    rw [Array.getElem?_eq_getElem hs, e2]
    have e3 : M.toArray[t / C]! = M[t / C] := by simp [hk]
    have e4 : t % C < (cells M[t / C]).length := by rw [hC]; exact hi
    rw [e3, List.getElem?_eq_getElem e4, getElem!_pos (cells M[t / C]) (t % C) e4]
  · rw [List.getElem?_eq_none (by simpa using Nat.le_of_not_lt ht), List.getElem?_eq_none (by rw [flatLenR cells C hC]; omega)]
theorem ownR_holds (hC : ∀ x, (cells x).length = C) {g n cap : Nat} (h : OwnR e C cells w B (.slice (some ⟨g, 0, none⟩) n cap) L) : HoldsK cells C w g 0 L.toArray ∧ g < w.heap.size := by
  rcases h.2 with ⟨hv, -⟩ | ⟨g', cap', cur, hv, hb, hg, hnc, hcm, hcs, ht⟩
  · cases hv
  · simp only [Value.slice.injEq, Option.some.injEq, Addr.mk.injEq, and_true] at hv
    obtain ⟨rfl, rfl, rfl⟩ := hv
    refine ⟨fun j hj => ⟨?_, by simp [World.frozen?, hg]⟩, (Array.getElem?_eq_some_iff.1 hg).1⟩
    have hj' : j < L.length * C := by rw [size_flatK] at hj; simpa using hj
    have h1 : (cur.toList.take (L.length * C))[j]? = (L.flatMap cells)[j]? := by rw [ht]
    rw [List.getElem?_take_of_lt hj', ← flatK_list hC, Array.getElem?_toList, Array.getElem?_toList, Array.getElem?_eq_getElem hj] at h1
    simp only [World.cell?, hg, Nat.zero_add, Option.isSome_none, Bool.false_eq_true, if_false]
    rw [h1, getElem!_pos (flatK cells C L.toArray) j hj]
    rfl
theorem take_put (F cur : Array Value) (h : F.size ≤ cur.size) : (putCells id 0 F cur).toList.take F.size = F.toList := by
  apply List.ext_getElem?
  intro j
  by_cases hj : j < F.size
  · rw [List.getElem?_take_of_lt hj, Array.getElem?_toList, Array.getElem?_toList]
    simp [putCells, hj, show j < cur.size by omega]
  · rw [List.getElem?_take_eq_none (by omega), List.getElem?_eq_none (by simp; omega)]
theorem ownR_sorted (hC : ∀ x, (cells x).length = C) {g n cap m : Nat} {os : Array Obj} {M : List α} (h : OwnR e C cells w B (.slice (some ⟨g, 0, none⟩) n cap) L) (hl : M.length = L.length) :
    OwnR e C cells (sortWorldK cells C w g 0 m M.toArray os) B (.slice (some ⟨g, 0, none⟩) n cap) M ∧ w.grownBy (sortWorldK cells C w g 0 m M.toArray os) (some g) := by
  rcases h.2 with ⟨hv, -⟩ | ⟨g', cap', cur, hv, hb, hg, hnc, hcm, hcs, ht⟩
  · cases hv
  · simp only [Value.slice.injEq, Option.some.injEq, Addr.mk.injEq, and_true] at hv
    obtain ⟨rfl, rfl, rfl⟩ := hv
    have hlt : g < w.heap.size := (Array.getElem?_eq_some_iff.1 hg).1
    have hheap : (sortWorldK cells C w g 0 m M.toArray os).heap[g]? = some (.cells (putCells id 0 (flatK cells C M.toArray) cur) e (0, 0)) := by
      unfold sortWorldK putRowK
      rw [heap_grow_old _ _ (by simpa using hlt)]
      simp [putRow, mapBlock, Sort.ahead, Array.getElem?_modify, hg, onCells]
    have hfs : (flatK cells C M.toArray).size = L.length * C := by rw [size_flatK]; simp [hl]
    refine ⟨⟨?_, .inr ⟨g, cap, _, by rw [hl], hb, hheap, by omega, hcm, by simp [putCells, hcs], ?_⟩⟩, rfl, rfl, rfl, ?_, fun k hk hne => ?_⟩
    · rw [flatLenR cells C hC]
    · rw [← flatK_list hC, hl, ← hfs]
      exact take_put _ _ (by rw [hfs, hcs]; exact Nat.mul_le_mul_right C hnc)
    · unfold sortWorldK putRowK
      simp
    · unfold sortWorldK putRowK
      rw [heap_grow_old _ _ (by simpa using hk)]
      have : g ≠ k := fun e => hne (by rw [e])
      simp [putRow, mapBlock, Sort.ahead, Array.getElem?_modify, this]
end

end Go.Proofs.YtpnbibokddhheaaGreat

/-
  The library's sort at a row that a call made itself: a permutation, in order.
-/
namespace Go.Proofs.YtpnbibokddhheaaGreat
open Go.RowKit Go.Sort Go.Proofs Go.Shelf

theorem sort_row {α : Type} [Inhabited α] {ρ : Ren} (LL : SlLaysF0.n6 Tryz.prog ρ) {C : Nat} (aE : ∀ w, (isAgg (ρ.t 24)).run Tryz.prog w = .ok true w) (zE : ∀ w, (Go.sizeOf (ρ.t 24)).run Tryz.prog w = .ok C w) (cells : α → List Value) (hC : ∀ x, (cells x).length = C) (h1 : ∀ x, ∀ v ∈ cells x, v.oneCell' = true)
    (cf : α → α → Int) (hO : SWO (ltOf cf)) (g : Nat) (eg : ∀ xs w, (callFunc g xs).run Tryz.prog w = .ok (.enter g xs) w)
    (hcmp : ∀ x y w, Calls Tryz.prog g #[.agg (cells x).toArray, .agg (cells y).toArray] w fun r w' => r = .returned (.int .i64 (cf x y)) ∧ ∃ q os', w' = grow (w.drewN q) os')
    {e : TypeId} (v : Value) (L : List α) (B : Nat) (w : World) (hown : OwnR e C cells w B v L) (hlen : L.length ≤ 2 ^ 20) :
    Calls Tryz.prog (ρ.f 6) #[v, .func (.func g) #[] #[]] w fun r w' => r = .returned (.tuple #[]) ∧ ∃ M, OwnR e C cells w' B v M ∧ M.Perm L ∧ (M.Pairwise fun x y => ltOf cf y x = false) ∧ w.grownBy w' v.ownBlock := by
  obtain ⟨A, cap, rfl⟩ := hown.shape
  by_cases h0 : L.length = 0
  · have hL : L = [] := List.eq_nil_of_length_eq_zero h0
    subst hL
    refine (AnyF.slices_SortFunc_none { LL with } A cap (.func (.func g) #[] #[]) w).mono ?_
    rintro r w' ⟨rfl, rfl⟩
    exact ⟨rfl, [], hown, List.Perm.refl _, List.Pairwise.nil, World.grownBy.refl _ _⟩
  · rcases hown.2 with ⟨hv, hn⟩ | ⟨g', cap', cur, hv, -⟩
    · omega
    · simp only [Value.slice.injEq, true_and] at hv
      obtain ⟨rfl, rfl⟩ := hv
      obtain ⟨hH, hlt⟩ := ownR_holds (C := C) (cells := cells) hC hown
      have h := AnyQ.slices_SortFunc LL C aE zE cells hC h1 cf hO g #[] g' 0 cap L.toArray w eg (fun m os dk _ x y => hcmp x y _) hH hlt (by simp; omega)
      refine h.mono ?_
      rintro r w' ⟨rfl, d', n, os, ⟨hsz, -, hperm⟩, hs, rfl⟩
      have e1 : d'.extract 0 L.toArray.size = d' := by rw [← hsz]; exact Array.extract_size
      rw [e1, Array.extract_size] at hperm
      have hl : d'.toList.length = L.length := by simpa using hsz
      have := ownR_sorted (C := C) (cells := cells) (m := n) (os := os) (M := d'.toList) hC hown hl
      rw [Array.toArray_toList] at this
      refine ⟨rfl, d'.toList, this.1, by simpa using hperm, ?_, this.2⟩
      rw [List.pairwise_iff_getElem]
      intro i j hi hj hij
      have hi' : i < d'.size := by simpa using hi
      have hj' : j < d'.size := by simpa using hj
      have := hs i j (Nat.zero_le _) hij (by omega)
      rw [getElem!_pos d' j hj', getElem!_pos d' i hi'] at this
      simpa using this

end Go.Proofs.YtpnbibokddhheaaGreat

/-
  The library's slices.SortFunc, laid at this program: written by lay-plain.mjs of the kit.
-/
namespace Go.Proofs
open Go.Shelf
def Tryz.sortKey_ren : Go.Shelf.Ren := ⟨fun | 6 => 37 | 15 => 79 | 14 => 78 | 28 => 118 | 29 => 119 | 20 => 110 | 21 => 111 | 22 => 112 | 23 => 113 | 24 => 114 | 25 => 115 | 26 => 116 | 27 => 117 | 46 => 177 | 47 => 178 | 48 => 179 | 49 => 180 | 50 => 181 | 57 => 211 | n => n, fun | 22 => 54 | 24 => 69 | 25 => 109 | 3 => 3 | 39 => 92 | 0 => 0 | 53 => 213 | 55 => 215 | 4 => 4 | 46 => 207 | 45 => 206 | 50 => 123 | 5 => 5 | 9 => 9 | 66 => 260 | 70 => 264 | 76 => 285 | 77 => 235 | n => n, fun | n => n⟩
theorem Tryz.sortKey : Go.Proofs.SlLaysF0.n6 Tryz.prog Tryz.sortKey_ren := {
  mixed := by kernel_rfl
  f6 := ⟨Tryz.f37.name, by decide, Tryz.func37.trans (congrArg some (by kernel_rfl))⟩
  f14 := ⟨Tryz.f78.name, by decide, Tryz.func78.trans (congrArg some (by kernel_rfl))⟩
  f15 := Tryz.func79.trans (congrArg some (by kernel_rfl))
  f20 := ⟨Tryz.f110.name, by decide, Tryz.func110.trans (congrArg some (by kernel_rfl))⟩
  f21 := ⟨Tryz.f111.name, by decide, Tryz.func111.trans (congrArg some (by kernel_rfl))⟩
  f22 := ⟨Tryz.f112.name, by decide, Tryz.func112.trans (congrArg some (by kernel_rfl))⟩
  f23 := ⟨Tryz.f113.name, by decide, Tryz.func113.trans (congrArg some (by kernel_rfl))⟩
  f24 := ⟨Tryz.f114.name, by decide, Tryz.func114.trans (congrArg some (by kernel_rfl))⟩
  f25 := ⟨Tryz.f115.name, by decide, Tryz.func115.trans (congrArg some (by kernel_rfl))⟩
  f26 := ⟨Tryz.f116.name, by decide, Tryz.func116.trans (congrArg some (by kernel_rfl))⟩
  f27 := ⟨Tryz.f117.name, by decide, Tryz.func117.trans (congrArg some (by kernel_rfl))⟩
  f28 := Tryz.func118.trans (congrArg some (by kernel_rfl))
  f29 := Tryz.func119.trans (congrArg some (by kernel_rfl))
  f46 := ⟨Tryz.f177.name, by decide, Tryz.func177.trans (congrArg some (by kernel_rfl))⟩
  f47 := Tryz.func178.trans (congrArg some (by kernel_rfl))
  f48 := Tryz.func179.trans (congrArg some (by kernel_rfl))
  f49 := ⟨Tryz.f180.name, by decide, Tryz.func180.trans (congrArg some (by kernel_rfl))⟩
  f50 := ⟨Tryz.f181.name, by decide, Tryz.func181.trans (congrArg some (by kernel_rfl))⟩
  f57 := ⟨Tryz.f211.name, by decide, Tryz.func211.trans (congrArg some (by kernel_rfl))⟩
  t0 := Tryz.underlying0
  a0 := Tryz.isAgg0
  z0 := Tryz.sizeOf0
  v0 := Tryz.zeroValue0
  t3 := Tryz.underlying3
  a3 := Tryz.isAgg3
  z3 := Tryz.sizeOf3
  v3 := Tryz.zeroValue3
  t4 := Tryz.underlying4
  a4 := Tryz.isAgg4
  z4 := Tryz.sizeOf4
  v4 := Tryz.zeroValue4
  t5 := Tryz.underlying5
  a5 := Tryz.isAgg5
  z5 := Tryz.sizeOf5
  v5 := Tryz.zeroValue5
  t9 := Tryz.underlying9
  a9 := Tryz.isAgg9
  z9 := Tryz.sizeOf9
  v9 := Tryz.zeroValue9
  t22 := Tryz.underlying54
  a22 := Tryz.isAgg54
  z22 := Tryz.sizeOf54
  v22 := Tryz.zeroValue54
  t25 := Tryz.underlying109
  a25 := Tryz.isAgg109
  z25 := Tryz.sizeOf109
  v25 := Tryz.zeroValue109
  t39 := Tryz.underlying92
  a39 := Tryz.isAgg92
  z39 := Tryz.sizeOf92
  v39 := Tryz.zeroValue92
  t45 := Tryz.underlying206
  a45 := Tryz.isAgg206
  z45 := Tryz.sizeOf206
  v45 := Tryz.zeroValue206
  t46 := Tryz.underlying207
  a46 := Tryz.isAgg207
  z46 := Tryz.sizeOf207
  v46 := Tryz.zeroValue207
  t50 := Tryz.underlying123
  a50 := Tryz.isAgg123
  z50 := Tryz.sizeOf123
  v50 := Tryz.zeroValue123
  t53 := Tryz.underlying213
  a53 := Tryz.isAgg213
  z53 := Tryz.sizeOf213
  v53 := Tryz.zeroValue213
  t55 := Tryz.underlying215
  a55 := Tryz.isAgg215
  z55 := Tryz.sizeOf215
  v55 := Tryz.zeroValue215
  t66 := Tryz.underlying260
  a66 := Tryz.isAgg260
  z66 := Tryz.sizeOf260
  v66 := Tryz.zeroValue260
  t70 := Tryz.underlying264
  a70 := Tryz.isAgg264
  z70 := Tryz.sizeOf264
  v70 := Tryz.zeroValue264
  t76 := Tryz.underlying285
  a76 := Tryz.isAgg285
  z76 := Tryz.sizeOf285
  v76 := Tryz.zeroValue285
  t77 := Tryz.underlying235
  a77 := Tryz.isAgg235
  z77 := Tryz.sizeOf235
  v77 := Tryz.zeroValue235 }
end Go.Proofs

/-
  Layer 13: the sorts of the summary; a stable one of a single head.
-/
namespace Go.Proofs.YtpnbibokddhheaaGreat
open Go.RowKit Go.Sort Go.Proofs

set_option maxHeartbeats 1000000 in
theorem insert1 (A : Option Addr) (c : Nat) (f : Value) (w : World) : Calls Tryz.prog 128 #[.slice A 1 c, .int .i64 0, .int .i64 1, f] w fun r w' => r = .returned (.tuple #[]) ∧ w' = w := by
  go_enter Tryz.func128, Tryz.ntmps128
  go_wp2
  go_loopw [8] (fun i wr => i = .int .i64 1 ∧ wr = w) (fun _ _ => 0)
  case atStart => exact ⟨rfl, rfl⟩
  case round =>
    obtain ⟨rfl, rfl⟩ := hrel
    go_wp2
    refine bodyPost_end (results_none rfl _ _ _) rfl ?_
    exact ⟨rfl, rfl⟩
set_option maxHeartbeats 1000000 in
theorem stable1 (A : Option Addr) (c : Nat) (f : Value) (w : World) : Calls Tryz.prog 83 #[.slice A 1 c, .int .i64 1, f] w fun r w' => r = .returned (.tuple #[]) ∧ w' = w := by
  go_enter Tryz.func83, Tryz.ntmps83
  go_wp2
  go_loopw [7, 8] (fun a b wr => a = .int .i64 0 ∧ b = .int .i64 20 ∧ wr = w) (fun _ _ _ => 0)
  case atStart => exact ⟨rfl, rfl, rfl⟩
  case round =>
    obtain ⟨rfl, rfl, rfl⟩ := hrel
    go_wp2_with fail
    with_reducible refine Calls.mono (insert1 _ _ _ _) ?_
    rintro r w2 ⟨rfl, rfl⟩
    obtain ⟨wo, hwo⟩ : ∃ wo : World, wo = w2 := ⟨_, rfl⟩
    go_wp2
    go_loopw [6] (fun a wx => a = .int .i64 20 ∧ wx = wo) (fun _ _ => 0)
    case atStart => exact ⟨rfl, hwo.symm⟩
    case round =>
      obtain ⟨rfl, rfl⟩ := hrel
      go_wp2
      refine bodyPost_end (results_none rfl _ _ _) rfl ?_
      exact ⟨rfl, rfl⟩
set_option maxHeartbeats 1000000 in
theorem sortStable1 (A : Option Addr) (c : Nat) (f : Value) (w : World) : Calls Tryz.prog 46 #[.slice A 1 c, f] w fun r w' => r = .returned (.tuple #[]) ∧ w' = w := by
  go_enter Tryz.func46, Tryz.ntmps46
  go_wp2_with fail
  with_reducible refine Calls.mono (stable1 _ _ _ _) ?_
  rintro r w2 ⟨rfl, rfl⟩
  go_wp2
  refine bodyPost_end (results_none rfl _ _ _) rfl ?_
  exact ⟨rfl, rfl⟩
set_option maxHeartbeats 1000000 in
theorem compact1 (A : Option Addr) (c n : Nat) (hn : n < 2) (w : World) : Calls Tryz.prog 39 #[.slice A n c] w fun r w' => r = .returned (.slice A n c) ∧ w' = w := by
  have hn' : (n : Int) < 2 := by omega
  go_enter Tryz.func39, Tryz.ntmps39
  go_wp2
  go_ret
  exact ⟨rfl, rfl⟩
set_option maxHeartbeats 2000000 in
set_option maxRecDepth 100000 in
theorem before_g13 (a1 a2 a3 b1 b2 b3 : Int) (w : World) : Calls Tryz.prog 38 #[.agg #[.int .i64 a1, .int .i64 a2, .int .i64 a3], .agg #[.int .i64 b1, .int .i64 b2, .int .i64 b3]] w fun r w' => r = .returned (.int .i64 (cmp3 a1 a2 a3 b1 b2 b3)) ∧ ∃ q os', w' = grow (w.drewN q) os' := by
  obtain ⟨w0, hW0⟩ : ∃ w0, (w.alloc (.cells #[.int .i64 a1, .int .i64 a2, .int .i64 a3] 69)).alloc (.cells #[.int .i64 b1, .int .i64 b2, .int .i64 b3] 69) = w0 := ⟨_, rfl⟩
  have hA : Blk w0 w.heap.size 69 #[.int .i64 a1, .int .i64 a2, .int .i64 a3] := by rw [← hW0]; exact (Blk.new w _ _).alloc _
  have hB : Blk w0 (w.heap.size + 1) 69 #[.int .i64 b1, .int .i64 b2, .int .i64 b3] := by
    rw [← hW0]
    have := Blk.new (w.alloc (.cells #[.int .i64 a1, .int .i64 a2, .int .i64 a3] 69)) 69 #[.int .i64 b1, .int .i64 b2, .int .i64 b3]
    simpa using this
  have Hg : Hid (∃ os, w0 = grow w os) := Lib.hid ⟨_, by rw [← hW0, alloc_eq_grow, alloc_eq_grow, grow_grow]⟩
  obtain ⟨a_0, a_1, a_2⟩ : _ ∧ _ ∧ _ := ⟨hA.cell 0, hA.cell 1, hA.cell 2⟩
  obtain ⟨b_0, b_1, b_2⟩ : _ ∧ _ ∧ _ := ⟨hB.cell 0, hB.cell 1, hB.cell 2⟩
  simp only [List.getElem?_toArray, List.getElem?_cons_zero, List.getElem?_cons_succ] at a_0 a_1 a_2 b_0 b_1 b_2
  clear hA hB
  go_enter Tryz.func38, Tryz.ntmps38
  go_wp2_with fail
  refine wp_drew_tail 15 (by kernel_rfl) (by kernel_rfl) ?_
  simp only [List.take_succ_cons, List.take_zero, List.drop_succ_cons, List.drop_zero]
  repeat (go_big_quiet_step (exact cmp_q _ _ _ _))
  refine wpQuiet_nil ?_
  rintro w3 ⟨dq, rfl⟩
  go_wp2_with (go_at_call 59; (with_reducible refine Calls.mono (or3_s _ _ _ _) ?_); rintro r w4 ⟨rfl, rfl⟩)
  go_ret
  obtain ⟨os, hos⟩ := Hg.out
  refine ⟨rfl, dq, os.push (.cells #[.int .i64 (cmpI a1 b1), .int .i64 (cmpI a2 b2), .int .i64 (cmpI a3 b3)] 3), ?_⟩
  subst hos
  simp [grow, World.alloc, World.drewN]
instance : Inhabited K3 := ⟨⟨0, 0, 0⟩⟩
theorem onesK13 (x : K3) : ∀ u ∈ K3.cells x, u.oneCell' = true := by
  intro u hu
  simp [K3.cells] at hu
  rcases hu with rfl | rfl | rfl <;> rfl
theorem ltOf_K13 : ltOf cmpK = lessK := by
  funext a b
  exact cmpK_less _ _
theorem swoK13 : SWO (ltOf cmpK) := by
  rw [ltOf_K13]
  exact { irrefl := lessK_irr, trans := fun _ _ _ h1 h2 => lessK_trans h1 h2, ntrans := fun _ _ _ h1 h2 => lessK_ntrans h1 h2 }
theorem call_before13 (xs : Array Value) (w : World) : (callFunc 38 xs).run Tryz.prog w = .ok (.enter 38 xs) w := callOf Tryz.func38 rfl (by kernel_rfl) xs w
theorem before13_any (x y : K3) (w : World) : Calls Tryz.prog 38 #[.agg (K3.cells x).toArray, .agg (K3.cells y).toArray] w fun r w' => r = .returned (.int .i64 (cmpK x y)) ∧ ∃ q os', w' = grow (w.drewN q) os' := by
  obtain ⟨a1, a2, a3⟩ := x
  obtain ⟨b1, b2, b3⟩ := y
  exact before_g13 a1 a2 a3 b1 b2 b3 w
theorem sortKs13 (v : Value) (M : List K3) (B : Nat) (w : World) (hown : OwnR 69 3 K3.cells w B v M) (hlen : M.length ≤ 2 ^ 20) :
    Calls Tryz.prog 37 #[v, .func (.func 38) #[] #[]] w fun r w' => r = .returned (.tuple #[]) ∧ (∃ N, OwnR 69 3 K3.cells w' B v N ∧ N.Perm M ∧ N.Pairwise fun x y => lessK y x = false) ∧ w.grownBy w' v.ownBlock := by
  have h := sort_row Tryz.sortKey (C := 3) Tryz.isAgg69 Tryz.sizeOf69 K3.cells (fun _ => rfl) onesK13 cmpK swoK13 38 call_before13 (fun x y w => before13_any x y w) v M B w hown hlen
  change Calls Tryz.prog 37 _ _ _ at h
  refine h.mono ?_
  rintro r w' ⟨rfl, N, hN, hpN, hsN, hg⟩
  rw [ltOf_K13] at hsN
  exact ⟨rfl, ⟨N, hN, hpN, hsN⟩, hg⟩

end Go.Proofs.YtpnbibokddhheaaGreat

/-
  Layer 13: the keys of what is gone: the program's way.
-/
namespace Go.Proofs.YtpnbibokddhheaaGreat
open Go.RowKit Go.Sort

theorem infoK13 : (Tryz.prog.info? 69).map (fun i => (i.zero, i.size, i.bytes)) = some (some (.agg #[.int .i64 0, .int .i64 0, .int .i64 0]), 3, 24) := by kernel_rfl
def goneOf (l : List Lsa) : List K3 := (l.filter fun x => decide (x.head.age = 60)).map keyX
theorem gone_more {l : List Lsa} {k : Nat} (hk : k < l.length) : goneOf (l.take (k + 1)) = goneOf (l.take k) ++ if l[k].head.age = 60 then [keyX l[k]] else [] := by
  unfold goneOf
  rw [List.take_succ_eq_append_getElem hk, List.filter_append, List.map_append]
  congr 1
  by_cases h : l[k].head.age = 60 <;> simp [h]
theorem gone_len (l : List Lsa) : (goneOf l).length ≤ l.length := by
  unfold goneOf
  rw [List.length_map]
  exact List.length_filter_le _ _
set_option maxHeartbeats 8000000 in
set_option maxRecDepth 100000 in
theorem SuGone_any (A : Option Addr) (c : Nat) (l : List Lsa) (w : World) (B : Nat) (h : RowsAt 9 Lsa.cells w B A l) (hB : B ≤ w.heap.size) (hm : l.length ≤ 2 ^ 20) (nn : Nat) (hnn : nn = l.length) (X : List K3)
    (HC : ∀ W A n c N, OwnR 69 3 K3.cells W w.heap.size (.slice A n c) N → N.Perm (goneOf l) → (N.Pairwise fun x y => lessK y x = false) → Calls Tryz.prog 39 #[.slice A n c] W fun r W' => (∃ v, r = .returned v ∧ OwnR 69 3 K3.cells W' w.heap.size v X) ∧ W.grownBy W' (Value.slice A n c).ownBlock) :
    Calls Tryz.prog 14 #[.slice A nn c] w fun r w' => (∃ v, r = .returned v ∧ OwnR 69 3 K3.cells w' w.heap.size v X) ∧ Below w.heap.size w w' := by
  subst hnn
  have HL := Lib.hid h
  have HCo := Lib.hid HC
  have hm' : (l.length : Int) ≤ 9223372036854775807 := by omega
  clear h HC
  go_enter Tryz.func14, Tryz.ntmps14
  go_wp2
  go_loopw [3, 8] (fun v i wr => ∃ k : Nat, i = .int .i64 k ∧ k ≤ l.length ∧ OwnR 69 3 K3.cells wr w.heap.size v (goneOf (l.take k)) ∧ Below w.heap.size w wr) (fun _ i _ => l.length - (intOf i).toNat)
  case atStart => exact ⟨0, rfl, Nat.zero_le _, OwnR.nil _ _, Below.refl _ _⟩
  case round =>
    obtain ⟨k, rfl, hk, hown, hb⟩ := hrel
    obtain ⟨A7, c7, hv7⟩ := hown.shape
    subst hv7
    have hHl : (goneOf (l.take k)).length ≤ 2 ^ 20 := Nat.le_trans (gone_len _) (by rw [List.length_take]; omega)
    obtain ⟨H, hH⟩ : ∃ H, goneOf (l.take k) = H := ⟨_, rfl⟩
    by_cases hlt : k < l.length
    · obtain ⟨g, o, hA, -, x0, x1, x2, x3, x4, x5, x6, x7, x8⟩ := row_lsa9b (HL.out.below (hb.mono hB)) k hlt
      have hkl : (k : Int) < (l.length : Int) := by omega
      have hmore := gone_more hlt
      have HA := Lib.hid hA
      rw [hA]
      have Hlt := Lib.hid hlt
      generalize l[k] = x at *
      obtain ⟨⟨y1, y2, y3, y4, y5, y6, y7⟩, ka, kc, ls, ma, mc, ms⟩ := x
      simp only at x0 x1 x2 x3 x4 x5 x6 x7 x8 hmore
      obtain ⟨nl, hnl⟩ : ∃ nl, ls.length = nl := ⟨_, rfl⟩
      obtain ⟨nm, hnm⟩ : ∃ nm, ms.length = nm := ⟨_, rfl⟩
      rw [hnl] at x7
      rw [hnm] at x8
      rw [hH] at hown hmore hHl ⊢
      have Hmore := Lib.hid hmore
      have HHl := Lib.hid hHl
      obtain ⟨w8, hw8⟩ : ∃ w8, wr.alloc (.cells #[.int .i64 y1, .int .i64 y2, .int .i64 y3, .int .i64 y4, .int .i64 y5, .int .i64 y6, .int .i64 y7, .slice ka nl kc, .slice ma nm mc] 31) = w8 := ⟨_, rfl⟩
      obtain ⟨g8, hg8⟩ : ∃ g8, wr.heap.size = g8 := ⟨_, rfl⟩
      have hk8 := Blk.new wr 31 #[.int .i64 y1, .int .i64 y2, .int .i64 y3, .int .i64 y4, .int .i64 y5, .int .i64 y6, .int .i64 y7, .slice ka nl kc, .slice ma nm mc]
      have hb8 := below_new wr (.cells #[.int .i64 y1, .int .i64 y2, .int .i64 y3, .int .i64 y4, .int .i64 y5, .int .i64 y6, .int .i64 y7, .slice ka nl kc, .slice ma nm mc] 31)
      rw [hw8, hg8] at hk8
      rw [hw8] at hb8
      have O8 := Lib.hid (hown.below hb8)
      have B8 := Lib.hid (below_trans hb hb.size hb8)
      obtain ⟨z0, z1, z2, z3, z4, z5, z6, z7, z8, zf⟩ := blk9 hk8
      clear hnl hnm hA hlt hk8 hb8 hk hown hb hmore hHl hH
      by_cases h60 : y1 = 60
      · subst h60
        rw [if_pos rfl] at Hmore
        go_wp2_with fail
        with_reducible refine Calls.mono (keyOf_any _ _ _ _ _ _ _ _) ?_
        rintro r w9 ⟨rfl, hb9⟩
        have O9 := Lib.hid (O8.out.below hb9)
        have B9 := Lib.hid (below_trans B8.out B8.out.size hb9)
        clear hb9
        go_wp2_with (at_builtin; (refine app_row K3.cells (fun _ => rfl) (by decide) (bytes := 24) (by decide) infoK13 rfl Tryz.underlying54 onesK13 (by rfl) _ _ (by rfl) w.heap.size _ H (by rfl) (O9.out.alloc _) w9.heap.size ⟨y2, y3, y4⟩ (by rfl) (Blk.new _ _ _) (by have := HHl.out; omega) (by have := B9.out.size; simp; omega) ?_); intro v6 w6 hown6 hg6 hor6; have O6 := Lib.hid hown6; have Hg6 := Lib.hid hg6; clear hown6 hg6 hor6)
        have B6 := Lib.hid (show Below w.heap.size w w6 from (B9.out.alloc B9.out.size _).grown Hg6.out (by have := B9.out.size; simp; omega) (fun m e => (O9.out.block m e).1))
        go_wp2
        go_roundw
        case measure => have := Hlt.out; simp only [intOf]; omega
        case rel => exact ⟨k + 1, by go_num, Hlt.out, by rw [Hmore.out]; exact O6.out, B6.out⟩
      · rw [if_neg h60, List.append_nil] at Hmore
        go_wp2
        go_roundw
        case measure => have := Hlt.out; simp only [intOf]; omega
        case rel => exact ⟨k + 1, by go_num, Hlt.out, by rw [Hmore.out]; exact O8.out, B8.out⟩
    · have hke : k = l.length := by omega
      subst hke
      have hkl : ¬ (l.length : Int) < (l.length : Int) := by omega
      have hH2 : goneOf l = H := by rw [← hH, List.take_length]
      rw [hH] at hown hHl ⊢
      have HS := Lib.hid (sortKs13 _ H w.heap.size wr hown hHl)
      have B8 := Lib.hid hb
      have O8 := Lib.hid hown
      have HH := Lib.hid hH2
      clear hown hb hlt hH hHl hH2
      go_wp2_with fail
      with_reducible refine Calls.mono HS.out ?_
      rintro r w9 ⟨rfl, ⟨N, hown9, hpN, hsN⟩, hg9⟩
      have hc := HCo.out w9 _ _ _ N hown9 (by rw [HH.out]; exact hpN) hsN
      have HC9 := Lib.hid hc
      have B9 := Lib.hid (show Below w.heap.size w w9 from B8.out.grown hg9 B8.out.size (fun m e => (O8.out.block m e).1))
      have O9 := Lib.hid hown9
      clear hown9 hpN hsN hg9 hc
      go_wp2_with fail
      with_reducible refine Calls.mono HC9.out ?_
      rintro r w10 ⟨⟨v, rfl, hown10⟩, hg10⟩
      have B10 := Lib.hid (show Below w.heap.size w w10 from B9.out.grown hg10 B9.out.size (fun m e => (O9.out.block m e).1))
      obtain ⟨Av, cv, hv⟩ := hown10.shape
      subst hv
      have O10 := Lib.hid hown10
      clear hown10 hg10
      go_wp2
      go_ret
      exact ⟨⟨_, rfl, O10.out⟩, B10.out⟩
theorem SuGone_one (A : Option Addr) (c : Nat) (l : List Lsa) (w : World) (B : Nat) (h : RowsAt 9 Lsa.cells w B A l) (hB : B ≤ w.heap.size) (hm : l.length ≤ 2 ^ 20) (nn : Nat) (hnn : nn = l.length) (h1 : (goneOf l).length < 2) :
    Calls Tryz.prog 14 #[.slice A nn c] w fun r w' => (∃ v, r = .returned v ∧ OwnR 69 3 K3.cells w' w.heap.size v (goneOf l)) ∧ Below w.heap.size w w' := by
  refine SuGone_any A c l w B h hB hm nn hnn (goneOf l) (fun W A n c N hown hp hs => ?_)
  have hl := hp.length_eq
  have hN : N = goneOf l := by
    cases hg : goneOf l with
    | nil => rw [hg] at hp; exact List.perm_nil.1 hp
    | cons a t =>
      cases t with
      | nil => rw [hg] at hp; exact List.perm_singleton.1 hp
      | cons b t => rw [hg] at h1; simp at h1; omega
  subst hN
  have hn : n = (goneOf l).length := by obtain ⟨A2, c2, hv⟩ := hown.shape; injection hv
  refine (compact1 A c n (by omega) W).mono ?_
  rintro r W' ⟨rfl, rfl⟩
  exact ⟨⟨_, rfl, hown⟩, World.grownBy.refl _ _⟩

end Go.Proofs.YtpnbibokddhheaaGreat

/-
  Layer 13: the example that each law asks first.
-/
namespace Go.Proofs.YtpnbibokddhheaaGreat
open Go.RowKit Go.Sort

def xa13 : Lsa := ⟨⟨0, 1, 1, 1, 0, 0, 0⟩, none, 0, [], none, 0, []⟩
def xb13 : Lsa := ⟨⟨60, 1, 2, 2, 0, 0, 0⟩, none, 0, [], none, 0, []⟩
theorem rows_of_blkX {w : World} {g B : Nat} {t : TypeId} {L : List Lsa} (h : Blk w g t (L.flatMap Lsa.cells).toArray) (hB : g < B) : RowsAt 9 Lsa.cells w B (some ⟨g, 0, none⟩) L := by
  intro _
  refine ⟨g, 0, rfl, hB, fun k hk i u hi hu => ?_⟩
  rw [show 0 + k * 9 + i = k * 9 + i by omega, h.cell, List.getElem?_toArray, flatR Lsa.cells 9 (fun _ => rfl) L k i hk hi]
  exact hu
theorem row_hd13 {w : World} {B : Nat} {A : Option Addr} {x : Hd} (h : RowsAt 7 Hd.cells w B A [x]) : ∃ b o, A = some ⟨b, o, none⟩ ∧ b < B ∧ w.cell? ⟨b, o, none⟩ = some (.int .i64 x.age) ∧ w.cell? ⟨b, o + 1, none⟩ = some (.int .i64 x.kind) ∧ w.cell? ⟨b, o + 2, none⟩ = some (.int .i64 x.id) ∧ w.cell? ⟨b, o + 3, none⟩ = some (.int .i64 x.adv) ∧ w.cell? ⟨b, o + 4, none⟩ = some (.int .i64 x.seq) ∧ w.cell? ⟨b, o + 5, none⟩ = some (.int .i64 x.sum) ∧ w.cell? ⟨b, o + 6, none⟩ = some (.int .i64 x.long) := by
  obtain ⟨b, o, e, hb, hc⟩ := h (by simp)
  have h0 := fun i u hi hu => hc 0 (by simp) i u hi hu
  simp only [List.getElem_cons_zero, Nat.zero_mul, Nat.add_zero] at h0
  exact ⟨b, o, e, hb, h0 0 _ (by omega) rfl, h0 1 _ (by omega) rfl, h0 2 _ (by omega) rfl, h0 3 _ (by omega) rfl, h0 4 _ (by omega) rfl, h0 5 _ (by omega) rfl, h0 6 _ (by omega) rfl⟩
theorem ba_cells : ([xb13, xa13].flatMap Lsa.cells).toArray = #[.int .i64 60, .int .i64 1, .int .i64 2, .int .i64 2, .int .i64 0, .int .i64 0, .int .i64 0, .slice none 0 0, .slice none 0 0, .int .i64 0, .int .i64 1, .int .i64 1, .int .i64 1, .int .i64 0, .int .i64 0, .int .i64 0, .slice none 0 0, .slice none 0 0] := rfl
theorem ab_cells : ([xa13, xb13].flatMap Lsa.cells).toArray = #[.int .i64 0, .int .i64 1, .int .i64 1, .int .i64 1, .int .i64 0, .int .i64 0, .int .i64 0, .slice none 0 0, .slice none 0 0, .int .i64 60, .int .i64 1, .int .i64 2, .int .i64 2, .int .i64 0, .int .i64 0, .int .i64 0, .slice none 0 0, .slice none 0 0] := rfl
theorem ba_heads : headsOf [xb13, xa13] = [⟨0, 1, 1, 1, 0, 0, 0⟩] := by decide
theorem ab_gone : goneOf [xa13, xb13] = [⟨1, 2, 2⟩] := by decide
theorem new13 (W : World) : Calls Tryz.prog 18 #[.slice (some ⟨W.heap.size, 0, none⟩) 2 2] (W.alloc (.cells #[.int .i64 60, .int .i64 1, .int .i64 2, .int .i64 2, .int .i64 0, .int .i64 0, .int .i64 0, .slice none 0 0, .slice none 0 0, .int .i64 0, .int .i64 1, .int .i64 1, .int .i64 1, .int .i64 0, .int .i64 0, .int .i64 0, .slice none 0 0, .slice none 0 0] 31)) fun r w' => r = .returned (.pointer (some ⟨W.heap.size + 1, 0, none⟩)) ∧ (∃ v, SmAt w' (W.heap.size + 1) v 0 [⟨0, 1, 1, 1, 0, 0, 0⟩]) ∧ Below (W.heap.size + 1) (W.alloc (.cells #[.int .i64 60, .int .i64 1, .int .i64 2, .int .i64 2, .int .i64 0, .int .i64 0, .int .i64 0, .slice none 0 0, .slice none 0 0, .int .i64 0, .int .i64 1, .int .i64 1, .int .i64 1, .int .i64 0, .int .i64 0, .int .i64 0, .slice none 0 0, .slice none 0 0] 31)) w' := by
  have hk := Blk.new W 31 #[.int .i64 60, .int .i64 1, .int .i64 2, .int .i64 2, .int .i64 0, .int .i64 0, .int .i64 0, .slice none 0 0, .slice none 0 0, .int .i64 0, .int .i64 1, .int .i64 1, .int .i64 1, .int .i64 0, .int .i64 0, .int .i64 0, .slice none 0 0, .slice none 0 0]
  rw [← ba_cells] at hk ⊢
  have hsz : (W.alloc (.cells ([xb13, xa13].flatMap Lsa.cells).toArray 31)).heap.size = W.heap.size + 1 := by simp
  have h := SuNew_any (some ⟨W.heap.size, 0, none⟩) 2 [xb13, xa13] _ _ (rows_of_blkX hk (B := W.heap.size + 1) (by omega)) (by omega) (by decide) 2 rfl [⟨0, 1, 1, 1, 0, 0, 0⟩] (fun W' v hown => by
    rw [ba_heads] at hown
    obtain ⟨A7, c7, hv⟩ := hown.shape
    subst hv
    refine (sortStable1 A7 c7 _ W').mono ?_
    rintro r w' ⟨rfl, rfl⟩
    exact ⟨rfl, hown, World.grownBy.refl _ _⟩)
  rw [hsz] at h
  exact h
theorem gone13 (W : World) : Calls Tryz.prog 14 #[.slice (some ⟨W.heap.size, 0, none⟩) 2 2] (W.alloc (.cells #[.int .i64 0, .int .i64 1, .int .i64 1, .int .i64 1, .int .i64 0, .int .i64 0, .int .i64 0, .slice none 0 0, .slice none 0 0, .int .i64 60, .int .i64 1, .int .i64 2, .int .i64 2, .int .i64 0, .int .i64 0, .int .i64 0, .slice none 0 0, .slice none 0 0] 31)) fun r w' => (∃ A c, r = .returned (.slice A 1 c)) ∧ Below (W.heap.size + 1) (W.alloc (.cells #[.int .i64 0, .int .i64 1, .int .i64 1, .int .i64 1, .int .i64 0, .int .i64 0, .int .i64 0, .slice none 0 0, .slice none 0 0, .int .i64 60, .int .i64 1, .int .i64 2, .int .i64 2, .int .i64 0, .int .i64 0, .int .i64 0, .slice none 0 0, .slice none 0 0] 31)) w' := by
  have hk := Blk.new W 31 #[.int .i64 0, .int .i64 1, .int .i64 1, .int .i64 1, .int .i64 0, .int .i64 0, .int .i64 0, .slice none 0 0, .slice none 0 0, .int .i64 60, .int .i64 1, .int .i64 2, .int .i64 2, .int .i64 0, .int .i64 0, .int .i64 0, .slice none 0 0, .slice none 0 0]
  rw [← ab_cells] at hk ⊢
  have hsz : (W.alloc (.cells ([xa13, xb13].flatMap Lsa.cells).toArray 31)).heap.size = W.heap.size + 1 := by simp
  have h := SuGone_one (some ⟨W.heap.size, 0, none⟩) 2 [xa13, xb13] _ _ (rows_of_blkX hk (B := W.heap.size + 1) (by omega)) (by omega) (by decide) 2 rfl (by rw [ab_gone]; decide)
  rw [hsz] at h
  refine h.mono ?_
  rintro r w' ⟨⟨v, rfl, hown⟩, hb⟩
  rw [ab_gone] at hown
  obtain ⟨A7, c7, hv⟩ := hown.shape
  exact ⟨⟨A7, c7, by rw [hv]; rfl⟩, hb⟩
theorem eqHead13 (w : World) : (Op.equalIn 10000 27 (.agg #[.int .i64 0, .int .i64 1, .int .i64 1, .int .i64 1, .int .i64 0, .int .i64 0, .int .i64 0]) (.agg #[.int .i64 0, .int .i64 1, .int .i64 1, .int .i64 1, .int .i64 0, .int .i64 0, .int .i64 0])).run Tryz.prog w = .ok true w := by kernel_rfl
set_option maxHeartbeats 4000000 in
set_option maxRecDepth 100000 in
theorem wakes13 (w : World) : Calls Tryz.prog 10 #[] w fun r w' => r = .returned (.bool true) ∧ Below w.heap.size w w' := by
  go_enter Tryz.func10, Tryz.ntmps10
  go_upto_region 2 with fail
  obtain ⟨w2, hw2⟩ : ∃ w2, (w.alloc (.cells #[.int .i64 0, .int .i64 1, .int .i64 1, .int .i64 1, .int .i64 0, .int .i64 0, .int .i64 0, .slice none 0 0, .slice none 0 0] 31)).alloc (.cells #[.int .i64 60, .int .i64 1, .int .i64 2, .int .i64 2, .int .i64 0, .int .i64 0, .int .i64 0, .slice none 0 0, .slice none 0 0] 31) = w2 := ⟨_, rfl⟩
  have ha : Blk w2 w.heap.size 31 #[.int .i64 0, .int .i64 1, .int .i64 1, .int .i64 1, .int .i64 0, .int .i64 0, .int .i64 0, .slice none 0 0, .slice none 0 0] := by rw [← hw2]; exact (Blk.new _ _ _).alloc _
  have hb : Blk w2 (w.heap.size + 1) 31 #[.int .i64 60, .int .i64 1, .int .i64 2, .int .i64 2, .int .i64 0, .int .i64 0, .int .i64 0, .slice none 0 0, .slice none 0 0] := by rw [← hw2]; exact Blk.size (by simp)
  have hb2 : Below w.heap.size w w2 := by rw [← hw2]; exact ((Below.refl _ _).alloc (Nat.le_refl _) _).alloc (by simp) _
  rw [hw2]
  have Ha := Lib.hid ha
  have Hb := Lib.hid hb
  have Hb2 := Lib.hid hb2
  obtain ⟨z0, z1, z2, z3, z4, z5, z6, z7, z8, zf⟩ := blk9 ha
  obtain ⟨y0, y1, y2, y3, y4, y5, y6, y7, y8, yf⟩ := blk9 hb
  clear ha hb hb2 hw2
  go_wp2_with fail
  with_reducible refine Calls.mono (new13 _) ?_
  rintro r w3 ⟨rfl, ⟨v, hsm⟩, hb3⟩
  have hb3' : Below w2.heap.size w2 w3 := (below_new w2 _).trans (hb3.mono (by omega))
  have HP := Lib.hid (SuPiece_one _ v _ w3 hsm)
  have Ha3 := Lib.hid (Ha.out.below hb3' Ha.out.lt)
  have Hb33 := Lib.hid (Hb.out.below hb3' Hb.out.lt)
  have Hw3 := Lib.hid (below_trans Hb2.out Hb2.out.size hb3')
  clear hsm hb3 hb3' z0 z1 z2 z3 z4 z5 z6 z7 z8 zf y0 y1 y2 y3 y4 y5 y6 y7 y8 yf
  go_wp2_with fail
  with_reducible refine Calls.mono HP.out ?_
  rintro r w4 ⟨⟨u, rfl, hu⟩, hb4⟩
  obtain ⟨g, cap, hc, hv⟩ : ∃ g c, 1 ≤ c ∧ u = .slice (some ⟨g, 0, none⟩) 1 c := by
    rcases hu.shape2 with ⟨-, hl⟩ | ⟨g, c5, rfl, hc5⟩
    · cases hl
    · exact ⟨g, c5, hc5, rfl⟩
  subst hv
  obtain ⟨g', o', e, -, x0, x1, x2, x3, x4, x5, x6⟩ := row_hd13 (OwnR.rows (C := 7) (cells := Hd.cells) (fun _ => rfl) hu).2
  injection e with e
  injection e with e1 e2
  subst e1 e2
  obtain ⟨z0, z1, z2, z3, z4, z5, z6, z7, z8, zf⟩ := blk9 (Ha3.out.below hb4 Ha3.out.lt)
  obtain ⟨y0, y1, y2, y3, y4, y5, y6, y7, y8, yf⟩ := blk9 (Hb33.out.below hb4 Hb33.out.lt)
  have Hw4 := Lib.hid (below_trans Hw3.out Hw3.out.size hb4)
  have he := eqHead13
  clear hu hb4 hc
  go_wp2_with fail
  refine wp_drew_tail 14 (by kernel_rfl) (by kernel_rfl) ?_
  simp only [List.take_succ_cons, List.take_zero, List.drop_succ_cons, List.drop_zero]
  repeat (go_big_quiet_step (fail))
  refine wpQuiet_nil ?_
  rintro w5 ⟨dq, rfl⟩
  have Hw5 := Lib.hid (below_drewN Hw4.out dq)
  go_wp2_with fail
  with_reducible refine Calls.mono (gone13 _) ?_
  rintro r w6 ⟨⟨A6, c6, rfl⟩, hb6⟩
  have Hw6 := Lib.hid (below_trans Hw5.out Hw5.out.size ((below_new _ _).trans (hb6.mono (by omega))))
  clear hb6
  go_wp2
  go_ret
  exact ⟨rfl, Hw6.out⟩

end Go.Proofs.YtpnbibokddhheaaGreat

/-
  The library's slices.SortFunc, laid at this program: written by lay-plain.mjs of the kit.
-/
namespace Go.Proofs
open Go.Shelf
def Tryz.sortLsa_ren : Go.Shelf.Ren := ⟨fun | 6 => 43 | 15 => 79 | 14 => 82 | 28 => 118 | 29 => 119 | 20 => 120 | 21 => 121 | 22 => 122 | 23 => 123 | 24 => 124 | 25 => 125 | 26 => 126 | 27 => 127 | 46 => 182 | 47 => 178 | 48 => 179 | 49 => 183 | 50 => 184 | 57 => 212 | n => n, fun | 22 => 22 | 24 => 31 | 25 => 117 | 3 => 3 | 39 => 92 | 0 => 0 | 53 => 213 | 55 => 215 | 4 => 4 | 46 => 207 | 45 => 206 | 50 => 123 | 5 => 5 | 9 => 9 | 66 => 260 | 70 => 264 | 76 => 285 | 77 => 235 | n => n, fun | n => n⟩
theorem Tryz.sortLsa : Go.Proofs.SlLaysF0.n6 Tryz.prog Tryz.sortLsa_ren := {
  mixed := by kernel_rfl
  f6 := ⟨Tryz.f43.name, by decide, Tryz.func43.trans (congrArg some (by kernel_rfl))⟩
  f14 := ⟨Tryz.f82.name, by decide, Tryz.func82.trans (congrArg some (by kernel_rfl))⟩
  f15 := Tryz.func79.trans (congrArg some (by kernel_rfl))
  f20 := ⟨Tryz.f120.name, by decide, Tryz.func120.trans (congrArg some (by kernel_rfl))⟩
  f21 := ⟨Tryz.f121.name, by decide, Tryz.func121.trans (congrArg some (by kernel_rfl))⟩
  f22 := ⟨Tryz.f122.name, by decide, Tryz.func122.trans (congrArg some (by kernel_rfl))⟩
  f23 := ⟨Tryz.f123.name, by decide, Tryz.func123.trans (congrArg some (by kernel_rfl))⟩
  f24 := ⟨Tryz.f124.name, by decide, Tryz.func124.trans (congrArg some (by kernel_rfl))⟩
  f25 := ⟨Tryz.f125.name, by decide, Tryz.func125.trans (congrArg some (by kernel_rfl))⟩
  f26 := ⟨Tryz.f126.name, by decide, Tryz.func126.trans (congrArg some (by kernel_rfl))⟩
  f27 := ⟨Tryz.f127.name, by decide, Tryz.func127.trans (congrArg some (by kernel_rfl))⟩
  f28 := Tryz.func118.trans (congrArg some (by kernel_rfl))
  f29 := Tryz.func119.trans (congrArg some (by kernel_rfl))
  f46 := ⟨Tryz.f182.name, by decide, Tryz.func182.trans (congrArg some (by kernel_rfl))⟩
  f47 := Tryz.func178.trans (congrArg some (by kernel_rfl))
  f48 := Tryz.func179.trans (congrArg some (by kernel_rfl))
  f49 := ⟨Tryz.f183.name, by decide, Tryz.func183.trans (congrArg some (by kernel_rfl))⟩
  f50 := ⟨Tryz.f184.name, by decide, Tryz.func184.trans (congrArg some (by kernel_rfl))⟩
  f57 := ⟨Tryz.f212.name, by decide, Tryz.func212.trans (congrArg some (by kernel_rfl))⟩
  t0 := Tryz.underlying0
  a0 := Tryz.isAgg0
  z0 := Tryz.sizeOf0
  v0 := Tryz.zeroValue0
  t3 := Tryz.underlying3
  a3 := Tryz.isAgg3
  z3 := Tryz.sizeOf3
  v3 := Tryz.zeroValue3
  t4 := Tryz.underlying4
  a4 := Tryz.isAgg4
  z4 := Tryz.sizeOf4
  v4 := Tryz.zeroValue4
  t5 := Tryz.underlying5
  a5 := Tryz.isAgg5
  z5 := Tryz.sizeOf5
  v5 := Tryz.zeroValue5
  t9 := Tryz.underlying9
  a9 := Tryz.isAgg9
  z9 := Tryz.sizeOf9
  v9 := Tryz.zeroValue9
  t22 := Tryz.underlying22
  a22 := Tryz.isAgg22
  z22 := Tryz.sizeOf22
  v22 := Tryz.zeroValue22
  t25 := Tryz.underlying117
  a25 := Tryz.isAgg117
  z25 := Tryz.sizeOf117
  v25 := Tryz.zeroValue117
  t39 := Tryz.underlying92
  a39 := Tryz.isAgg92
  z39 := Tryz.sizeOf92
  v39 := Tryz.zeroValue92
  t45 := Tryz.underlying206
  a45 := Tryz.isAgg206
  z45 := Tryz.sizeOf206
  v45 := Tryz.zeroValue206
  t46 := Tryz.underlying207
  a46 := Tryz.isAgg207
  z46 := Tryz.sizeOf207
  v46 := Tryz.zeroValue207
  t50 := Tryz.underlying123
  a50 := Tryz.isAgg123
  z50 := Tryz.sizeOf123
  v50 := Tryz.zeroValue123
  t53 := Tryz.underlying213
  a53 := Tryz.isAgg213
  z53 := Tryz.sizeOf213
  v53 := Tryz.zeroValue213
  t55 := Tryz.underlying215
  a55 := Tryz.isAgg215
  z55 := Tryz.sizeOf215
  v55 := Tryz.zeroValue215
  t66 := Tryz.underlying260
  a66 := Tryz.isAgg260
  z66 := Tryz.sizeOf260
  v66 := Tryz.zeroValue260
  t70 := Tryz.underlying264
  a70 := Tryz.isAgg264
  z70 := Tryz.sizeOf264
  v70 := Tryz.zeroValue264
  t76 := Tryz.underlying285
  a76 := Tryz.isAgg285
  z76 := Tryz.sizeOf285
  v76 := Tryz.zeroValue285
  t77 := Tryz.underlying235
  a77 := Tryz.isAgg235
  z77 := Tryz.sizeOf235
  v77 := Tryz.zeroValue235 }
end Go.Proofs

/-
  Layer 07: how descriptions are compared for their order.
-/
namespace Go.Proofs.YtpnbibokddhheaaGreat
open Go.RowKit Go.Sort

def cmpX (a b : Lsa) : Int := cmpK (keyX a) (keyX b)
set_option maxHeartbeats 400000 in
theorem keyOf_g7 (h : Hd) (w : World) : Calls Tryz.prog 23 #[.agg #[.int .i64 h.age, .int .i64 h.kind, .int .i64 h.id, .int .i64 h.adv, .int .i64 h.seq, .int .i64 h.sum, .int .i64 h.long]] w
    fun r w' => r = .returned (.agg #[.int .i64 h.kind, .int .i64 h.id, .int .i64 h.adv]) ∧ ∃ q os', w' = grow (w.drewN q) os' := by
  obtain ⟨a, b, c, d, e, f, g⟩ := h
  go_enter Tryz.func23, Tryz.ntmps23
  go_wp2
  refine bodyPost_ret (v := .agg #[.int .i64 b, .int .i64 c, .int .i64 d]) (by simp [results, Tryz.results23, go_sem]) rfl ⟨rfl, 0, #[.cells #[.int .i64 a, .int .i64 b, .int .i64 c, .int .i64 d, .int .i64 e, .int .i64 f, .int .i64 g] 27, .cells #[.int .i64 b, .int .i64 c, .int .i64 d] 69], ?_⟩
  rw [alloc_eq_grow, alloc_eq_grow, grow_grow]
  rfl
set_option maxHeartbeats 2000000 in
set_option maxRecDepth 100000 in
theorem before_g7 (a1 a2 a3 b1 b2 b3 : Int) (w : World) : Calls Tryz.prog 45 #[.agg #[.int .i64 a1, .int .i64 a2, .int .i64 a3], .agg #[.int .i64 b1, .int .i64 b2, .int .i64 b3]] w fun r w' => r = .returned (.int .i64 (cmp3 a1 a2 a3 b1 b2 b3)) ∧ ∃ q os', w' = grow (w.drewN q) os' := by
  obtain ⟨w0, hW0⟩ : ∃ w0, (w.alloc (.cells #[.int .i64 a1, .int .i64 a2, .int .i64 a3] 69)).alloc (.cells #[.int .i64 b1, .int .i64 b2, .int .i64 b3] 69) = w0 := ⟨_, rfl⟩
  have hA : Blk w0 w.heap.size 69 #[.int .i64 a1, .int .i64 a2, .int .i64 a3] := by rw [← hW0]; exact (Blk.new w _ _).alloc _
  have hB : Blk w0 (w.heap.size + 1) 69 #[.int .i64 b1, .int .i64 b2, .int .i64 b3] := by
    rw [← hW0]
    have := Blk.new (w.alloc (.cells #[.int .i64 a1, .int .i64 a2, .int .i64 a3] 69)) 69 #[.int .i64 b1, .int .i64 b2, .int .i64 b3]
    simpa using this
  have Hg : Hid (∃ os, w0 = grow w os) := Lib.hid ⟨_, by rw [← hW0, alloc_eq_grow, alloc_eq_grow, grow_grow]⟩
  obtain ⟨a_0, a_1, a_2⟩ : _ ∧ _ ∧ _ := ⟨hA.cell 0, hA.cell 1, hA.cell 2⟩
  obtain ⟨b_0, b_1, b_2⟩ : _ ∧ _ ∧ _ := ⟨hB.cell 0, hB.cell 1, hB.cell 2⟩
  simp only [List.getElem?_toArray, List.getElem?_cons_zero, List.getElem?_cons_succ] at a_0 a_1 a_2 b_0 b_1 b_2
  clear hA hB
  go_enter Tryz.func45, Tryz.ntmps45
  go_wp2_with fail
  refine wp_drew_tail 15 (by kernel_rfl) (by kernel_rfl) ?_
  simp only [List.take_succ_cons, List.take_zero, List.drop_succ_cons, List.drop_zero]
  repeat (go_big_quiet_step (exact cmp_q _ _ _ _))
  refine wpQuiet_nil ?_
  rintro w3 ⟨dq, rfl⟩
  go_wp2_with (go_at_call 59; (with_reducible refine Calls.mono (or3_s _ _ _ _) ?_); rintro r w4 ⟨rfl, rfl⟩)
  go_ret
  obtain ⟨os, hos⟩ := Hg.out
  refine ⟨rfl, dq, os.push (.cells #[.int .i64 (cmpI a1 b1), .int .i64 (cmpI a2 b2), .int .i64 (cmpI a3 b3)] 3), ?_⟩
  subst hos
  simp [grow, World.alloc, World.drewN]
theorem blkX {w : World} {g : Nat} {t : TypeId} {a b c d e f x y z : Value} (h : Blk w g t #[a, b, c, d, e, f, x, y, z]) : (∀ q os, (grow (w.drewN q) os).cell? ⟨g, 0, none⟩ = some a) ∧ (∀ q os, (grow (w.drewN q) os).cell? ⟨g, 1, none⟩ = some b) ∧ (∀ q os, (grow (w.drewN q) os).cell? ⟨g, 2, none⟩ = some c) ∧ (∀ q os, (grow (w.drewN q) os).cell? ⟨g, 3, none⟩ = some d) ∧ (∀ q os, (grow (w.drewN q) os).cell? ⟨g, 4, none⟩ = some e) ∧ (∀ q os, (grow (w.drewN q) os).cell? ⟨g, 5, none⟩ = some f) ∧ (∀ q os, (grow (w.drewN q) os).cell? ⟨g, 6, none⟩ = some x) :=
  ⟨cell_gd (h.cell 0), cell_gd (h.cell 1), cell_gd (h.cell 2), cell_gd (h.cell 3), cell_gd (h.cell 4), cell_gd (h.cell 5), cell_gd (h.cell 6)⟩
set_option maxHeartbeats 2000000 in
set_option maxRecDepth 100000 in
theorem allCmp7_any (a b : Lsa) (w : World) : Calls Tryz.prog 44 #[.agg (Lsa.cells a).toArray, .agg (Lsa.cells b).toArray] w fun r w' => r = .returned (.int .i64 (cmpX a b)) ∧ ∃ q os', w' = grow (w.drewN q) os' := by
  obtain ⟨⟨a1, a2, a3, a4, a5, a6, a7⟩, ka, kc, ls, ma, mc, ms⟩ := a
  obtain ⟨⟨b1, b2, b3, b4, b5, b6, b7⟩, kb, kd, lt, mb, md, mt⟩ := b
  obtain ⟨n1, hn1⟩ : ∃ n, ls.length = n := ⟨_, rfl⟩
  obtain ⟨n2, hn2⟩ : ∃ n, ms.length = n := ⟨_, rfl⟩
  obtain ⟨n3, hn3⟩ : ∃ n, lt.length = n := ⟨_, rfl⟩
  obtain ⟨n4, hn4⟩ : ∃ n, mt.length = n := ⟨_, rfl⟩
  unfold cmpX cmpK keyX keyH Lsa.cells
  simp only [hn1, hn2, hn3, hn4]
  clear hn1 hn2 hn3 hn4
  obtain ⟨w0, hW0⟩ : ∃ w0, (w.alloc (.cells #[.int .i64 a1, .int .i64 a2, .int .i64 a3, .int .i64 a4, .int .i64 a5, .int .i64 a6, .int .i64 a7, .slice ka n1 kc, .slice ma n2 mc] 31)).alloc (.cells #[.int .i64 b1, .int .i64 b2, .int .i64 b3, .int .i64 b4, .int .i64 b5, .int .i64 b6, .int .i64 b7, .slice kb n3 kd, .slice mb n4 md] 31) = w0 := ⟨_, rfl⟩
  have hA : Blk w0 w.heap.size 31 #[.int .i64 a1, .int .i64 a2, .int .i64 a3, .int .i64 a4, .int .i64 a5, .int .i64 a6, .int .i64 a7, .slice ka n1 kc, .slice ma n2 mc] := by rw [← hW0]; exact (Blk.new w _ _).alloc _
  have hB : Blk w0 (w.heap.size + 1) 31 #[.int .i64 b1, .int .i64 b2, .int .i64 b3, .int .i64 b4, .int .i64 b5, .int .i64 b6, .int .i64 b7, .slice kb n3 kd, .slice mb n4 md] := by rw [← hW0]; exact Blk.size (by simp)
  have Hg : Hid (∃ os, w0 = grow w os) := Lib.hid ⟨_, by rw [← hW0, alloc_eq_grow, alloc_eq_grow, grow_grow]⟩
  obtain ⟨a_0, a_1, a_2, a_3, a_4, a_5, a_6⟩ := blkX hA
  obtain ⟨b_0, b_1, b_2, b_3, b_4, b_5, b_6⟩ := blkX hB
  have CK := Lib.hid (fun h q os => gd_of (w := w0) (q := q) (os := os) (keyOf_g7 h _))
  have CB := Lib.hid (fun x1 x2 x3 y1 y2 y3 q os => gd_of (w := w0) (q := q) (os := os) (before_g7 x1 x2 x3 y1 y2 y3 _))
  clear hA hB
  go_enter Tryz.func44, Tryz.ntmps44
  go_wp2_with fail
  refine wp_gd_tail 7 (by kernel_rfl) (by kernel_rfl) ?_
  simp only [List.take_succ_cons, List.take_zero, List.drop_succ_cons, List.drop_zero]
  repeat (go_big_quiet_step (first | exact CK.out ⟨_, _, _, _, _, _, _⟩ _ _ | exact CB.out _ _ _ _ _ _ _ _))
  refine wpQuiet_nil ?_
  rintro w3 ⟨⟨dq, osq⟩, rfl⟩
  go_wp2
  go_ret
  obtain ⟨os, hos⟩ := Hg.out
  refine ⟨rfl, dq, os ++ osq, ?_⟩
  subst hos
  simp [grow, World.drewN, Array.append_assoc]

end Go.Proofs.YtpnbibokddhheaaGreat

/-
  Layer 07: all descriptions, in order: the program's way.
-/
namespace Go.Proofs.YtpnbibokddhheaaGreat
open Go.RowKit Go.Sort Go.Proofs

instance : Inhabited Lsa := ⟨zeroX⟩
abbrev OwnX (w : World) (B : Nat) (v : Value) (L : List Lsa) : Prop := OwnR 31 9 Lsa.cells w B v L
theorem ltOf_X : ltOf cmpX = fun a b => lessK (keyX a) (keyX b) := by
  funext a b
  exact cmpK_less _ _
theorem swoX : SWO (ltOf cmpX) := by
  rw [ltOf_X]
  exact { irrefl := fun _ => lessK_irr _, trans := fun _ _ _ h1 h2 => lessK_trans h1 h2, ntrans := fun _ _ _ h1 h2 => lessK_ntrans h1 h2 }
theorem call_allCmp7 (xs : Array Value) (w : World) : (callFunc 44 xs).run Tryz.prog w = .ok (.enter 44 xs) w := callOf Tryz.func44 rfl (by kernel_rfl) xs w
theorem sortX_of (v : Value) (M : List Lsa) (B : Nat) (w : World) (hown : OwnX w B v M) (hlen : M.length ≤ 2 ^ 20) (hk : (M.map keyX).Nodup) :
    Calls Tryz.prog 43 #[v, .func (.func 44) #[] #[]] w fun r w' => r = .returned (.tuple #[]) ∧ (∃ N, OwnX w' B v N ∧ N.Perm M ∧ sortedX N) ∧ w.grownBy w' v.ownBlock := by
  have h := sort_row Tryz.sortLsa (C := 9) Tryz.isAgg31 Tryz.sizeOf31 Lsa.cells (fun _ => rfl) onesX cmpX swoX 44 call_allCmp7 (fun x y w => allCmp7_any x y w) v M B w hown hlen
  change Calls Tryz.prog 43 _ _ _ at h
  refine h.mono ?_
  rintro r w' ⟨rfl, N, hN, hpN, hsN, hg⟩
  rw [ltOf_X] at hsN
  have hkeys : (N.map keyX).Nodup := (hpN.map keyX).nodup_iff.2 hk
  refine ⟨rfl, ⟨N, hN, hpN, ?_⟩, hg⟩
  unfold sortedX
  rw [List.Nodup, List.pairwise_map] at hkeys
  refine (hsN.and hkeys).imp fun {a b} ⟨h1, h2⟩ => ?_
  cases h3 : lessK (keyX a) (keyX b) with
  | true => rfl
  | false => exact absurd (lessK_tot h3 h1) h2
theorem dbL_split {R : List Lsa} {pre post : List (K3 × Value)} {e : K3 × Value} (h : dbL R = pre ++ e :: post) : ∃ P h' Q, R = P ++ h' :: Q ∧ pre = dbL P ∧ post = dbL Q ∧ e = (keyH h'.head, h'.val) := by
  unfold dbL at h
  obtain ⟨P, q, rfl, h1, h2⟩ := List.map_eq_append_iff.1 h
  obtain ⟨h', Q, rfl, h3, h4⟩ := List.map_eq_cons_iff.1 h2
  exact ⟨P, h', Q, rfl, h1.symm, h4.symm, h3.symm⟩
theorem dbL_append (P Q : List Lsa) : dbL P ++ dbL Q = dbL (P ++ Q) := by simp [dbL]
theorem XsAt.sorted {W W' : World} {B : Nat} {v : Value} {D N : List Lsa} (h : XsAt W B v D) (ho : OwnX W' B v N) (hg : W.grownBy W' v.ownBlock) (hp : N.Perm D) : XsAt W' B v N :=
  ⟨ho, fun x hx => (h.rows x (hp.subset hx)).grown hg (fun a ha => ha.elim (fun e => (h.far x (hp.subset hx)).1 a e.1 e.2) (fun e => (h.far x (hp.subset hx)).2 a e.1 e.2)), fun x hx => h.far x (hp.subset hx), fun x hx => h.from_ x (hp.subset hx), fun x hx => h.lens x (hp.subset hx)⟩
/-- sorted by keys without repeats, what they hold stands fast -/
theorem sortedV_one : ∀ {L M : List VX}, L.Perm M → (L.Pairwise fun x y => lessK (keyV x) (keyV y) = true) → (M.Pairwise fun x y => lessK (keyV x) (keyV y) = true) → L = M
  | [], M, hp, _, _ => (List.nil_perm.1 hp).symm
  | x :: L, [], hp, _, _ => absurd hp.length_eq (by simp)
  | x :: L, y :: M, hp, h1, h2 => by
    rw [List.pairwise_cons] at h1 h2
    have hx : x ∈ y :: M := hp.subset (by simp)
    have hy : y ∈ x :: L := hp.symm.subset (by simp)
    have hxy : x = y := by
      rcases List.mem_cons.1 hx with e | hx
      · exact e
      · rcases List.mem_cons.1 hy with e | hy
        · exact e.symm
        · have a := h1.1 y hy
          have b := h2.1 x hx
          have c := lessK_trans a b
          rw [lessK_irr] at c
          cases c
    subst hxy
    rw [sortedV_one (List.Perm.cons_inv hp) h1.2 h2.2]
theorem sortedX_vX {N L : List Lsa} (hp : (N.map vX).Perm (L.map vX)) (h1 : sortedX N) (h2 : sortedX L) : N.map vX = L.map vX :=
  sortedV_one hp (by rw [List.pairwise_map]; exact h1) (by rw [List.pairwise_map]; exact h2)
/-- all, laid out in order -/
structure AllTo (w w' : World) (r : Ending) (M : List Lsa) (v : Value) (N : List Lsa) : Prop where
  ret : r = .returned v
  xs : XsAt w' w.heap.size v N
  perm : (N.map vX).Perm (M.map vX)
  sorted : sortedX N

set_option maxHeartbeats 4000000 in
set_option maxRecDepth 100000 in
theorem DbAll_any (p b : Nat) (room : Int) (M : List Lsa) (w : World) (h : DbAt w p b room M) (hn : (M.map keyX).Nodup) (hlen : M.length ≤ 2 ^ 20) :
    Calls Tryz.prog 16 #[.pointer (some ⟨p, 0, none⟩)] w fun r w' => (∃ v N, AllTo w w' r M v N) ∧ Below w.heap.size w w' := by
  have hcell := h.ptr.cell 1
  simp only [List.getElem?_toArray, List.getElem?_cons_succ, List.getElem?_cons_zero] at hcell
  have H := Lib.hid h
  have HM := Lib.hid h.map
  have Hn := Lib.hid hn
  clear h hn
  go_enter Tryz.func16, Tryz.ntmps16
  go_wp2_with (at_range; refine wpList_range_st _ rfl _ 112 rfl 69 31 Tryz.underlying112 rfl HM.out ?_; intro w1 hr1 hb1 hs1; have HR := Lib.hid hr1; have Hb1 := Lib.hid hb1; clear hr1 hb1 hs1)
  go_frame
  go_loopw [3] (fun v wr => ∃ D E R, RangeAt K3.enc wr b w.heap.size (dbL M) (dbL R) ∧ (E ++ R).Perm M ∧ D.map vX = E.map vX ∧ XsAt wr (w.heap.size + 1) v D ∧ Below w.heap.size w wr) (fun _ wr => wr.rangeLeft b w.heap.size)
  case atStart => exact ⟨[], [], M, HR.out, by rw [List.nil_append], rfl, XsAt.nil _ _, Hb1.out⟩
  case round =>
    obtain ⟨D, E, R, hrg, hperm, hDE, hxs, hb⟩ := hrel
    obtain ⟨A7, c7, hv7⟩ := hxs.own.shape
    subst hv7
    have hDl : D.length ≤ 2 ^ 20 := by
      have h1 := hperm.length_eq
      have h2 := congrArg List.length hDE
      rw [List.length_append] at h1
      rw [List.length_map, List.length_map] at h2
      omega
    have Hrg := Lib.hid hrg
    have Hperm := Lib.hid hperm
    have HDE := Lib.hid hDE
    have Hxs := Lib.hid hxs
    have Hb := Lib.hid hb
    clear hrg hperm hDE hxs hb
    go_wp2_with (at_next; refine wpList_next_st _ rfl _ rfl keyK3.inj rfl Hrg.out ?_ ?_)
    · intro h0
      have hR0 : R = [] := by simpa [dbL] using h0
      subst hR0
      clear h0
      have hperm := Hperm.out
      rw [List.append_nil] at hperm
      have hp : (D.map vX).Perm (M.map vX) := by rw [HDE.out]; exact hperm.map vX
      have hk : (D.map keyX).Nodup := by
        rw [← map_keys, (hp.map keyV).nodup_iff, map_keys]
        exact Hn.out
      have HS := Lib.hid (fun W hO => sortX_of (.slice A7 D.length c7) D (w.heap.size + 1) W hO hDl hk)
      have Hp := Lib.hid hp
      clear hperm hp hk
      go_wp2_with (go_at_call 43; (with_reducible refine Calls.mono (HS.out _ Hxs.out.own) ?_); rintro r w3 ⟨rfl, ⟨N, hown3, hpN, hsN⟩, hg3⟩; have Hx3 := Lib.hid (Hxs.out.sorted hown3 hg3 hpN); have HN := Lib.hid hpN; have HsN := Lib.hid hsN; have Hg3 := Lib.hid hg3; clear hown3 hg3 hpN hsN)
      go_ret
      exact ⟨⟨_, N, rfl, Hx3.out.lower (by omega), (HN.out.map vX).trans Hp.out, HsN.out⟩, Hb.out.grown Hg3.out Hb.out.size (fun k hk => by have := (Hxs.out.own.block k hk).1; omega)⟩
    · intro pre e ev post w2 hsplit hrg2 hg2 hs2 hen
      obtain ⟨P, x, Q, hR, rfl, rfl, he⟩ := dbL_split hsplit
      injection he with he1 he2
      subst he1 he2
      rw [dbL_append] at hrg2
      have hmeas : (dbL (P ++ Q)).length < (dbL R).length := by rw [hR]; simp [dbL]
      have hperm2 : (E ++ [x] ++ (P ++ Q)).Perm M := by
        refine List.Perm.trans ?_ Hperm.out
        rw [hR, List.append_assoc]
        refine List.Perm.append_left E ?_
        rw [List.singleton_append]
        exact List.perm_middle.symm
      have hxM : x ∈ M := hperm2.subset (by simp)
      have Hmeas := Lib.hid hmeas
      have Hperm2 := Lib.hid hperm2
      have hb2 : Below w.heap.size w w2 := Hb.out.grown hg2 Hb.out.size (fun k hk => by injection hk with hk; omega)
      have hxs2 : XsAt w2 (w.heap.size + 1) (.slice A7 D.length c7) D := Hxs.out.iter hg2 (by omega)
      have hdb2 := H.out.keep hb2
      have Hrow := Lib.hid (hdb2.rows x hxM)
      have Hln := Lib.hid (hdb2.lens x hxM)
      have Hrg2 := Lib.hid hrg2
      have Hxs2 := Lib.hid hxs2
      have Hb2 := Lib.hid hb2
      clear hsplit hrg2 hg2 hs2 hR hmeas hperm2 hxM hb2 hxs2 hdb2
      obtain ⟨⟨y1, y2, y3, y4, y5, y6, y7⟩, ka, kc, ls, ma, mc, ms⟩ := x
      obtain ⟨nl, hnl⟩ : ∃ nl, ls.length = nl := ⟨_, rfl⟩
      obtain ⟨nm, hnm⟩ : ∃ nm, ms.length = nm := ⟨_, rfl⟩
      unfold Lsa.val Lsa.cells keyH at hen
      simp only [hnl, hnm] at hen
      have Hnl := Lib.hid hnl.symm
      have Hnm := Lib.hid hnm.symm
      clear hnl hnm
      obtain ⟨w3, hW3⟩ : ∃ w3, w2.alloc (.cells #[.int .i64 y1, .int .i64 y2, .int .i64 y3, .int .i64 y4, .int .i64 y5, .int .i64 y6, .int .i64 y7, .slice ka nl kc, .slice ma nm mc] 31) = w3 := ⟨_, rfl⟩
      have hb3 := below_new w2 (.cells #[.int .i64 y1, .int .i64 y2, .int .i64 y3, .int .i64 y4, .int .i64 y5, .int .i64 y6, .int .i64 y7, .slice ka nl kc, .slice ma nm mc] 31)
      have hk3 := Blk.new w2 31 #[.int .i64 y1, .int .i64 y2, .int .i64 y3, .int .i64 y4, .int .i64 y5, .int .i64 y6, .int .i64 y7, .slice ka nl kc, .slice ma nm mc]
      rw [hW3] at hb3 hk3
      obtain ⟨z0, z1, z2, z3, z4, z5, z6, z7, z8, zf⟩ := blk9 hk3
      clear hk3
      have HO := Lib.hid (own_any y1 y2 y3 y4 y5 y6 y7 ka kc ls ma mc ms w3 w3.heap.size (rows_keep Hrow.out.1 hb3) (rows_keep Hrow.out.2 hb3) (Nat.le_refl _) (Nat.le_trans Hln.out.1 (by decide)) (Nat.le_trans Hln.out.2 (by decide)) nl nm Hnl.out Hnm.out)
      have Hb3 := Lib.hid hb3
      have Hs3 := Lib.hid (show w2.heap.size + 1 = w3.heap.size by rw [← hW3]; simp)
      clear hb3
      go_wp2_with fail
      with_reducible refine Calls.mono HO.out ?_
      rintro r w4 ⟨Aa, ca, Ab, cb, rfl, oa, ob, hb4⟩
      have hx3 := Hxs2.out.keep Hb3.out
      have HX := Lib.hid (seal_el (q := w.heap.size) (h := ⟨y1, y2, y3, y4, y5, y6, y7⟩) hx3.own (by have := Hb2.out.size; have := Hs3.out; omega) Hnl.out Hnm.out Hln.out.1 Hln.out.2 oa ob)
      have Hx4 := Lib.hid (hx3.keep hb4)
      have Hb4 := Lib.hid (below_trans Hb3.out Hb3.out.size hb4)
      have Hrg4 := Lib.hid (show RangeAt K3.enc w4 b w.heap.size (dbL M) (dbL (P ++ Q)) from by have h := (Hrg2.out.alloc (.cells #[.int .i64 y1, .int .i64 y2, .int .i64 y3, .int .i64 y4, .int .i64 y5, .int .i64 y6, .int .i64 y7, .slice ka nl kc, .slice ma nm mc] 31)); rw [hW3] at h; exact h.below hb4 h.map.lt h.lt)
      have Hba5 := Lib.hid (below_new w4 (.cells #[.int .i64 y1, .int .i64 y2, .int .i64 y3, .int .i64 y4, .int .i64 y5, .int .i64 y6, .int .i64 y7, .slice Aa nl ca, .slice Ab nm cb] 31))
      have Hbk5 := Lib.hid (show Blk (w4.alloc (.cells #[.int .i64 y1, .int .i64 y2, .int .i64 y3, .int .i64 y4, .int .i64 y5, .int .i64 y6, .int .i64 y7, .slice Aa nl ca, .slice Ab nm cb] 31)) w4.heap.size 31 (Lsa.cells ⟨⟨y1, y2, y3, y4, y5, y6, y7⟩, Aa, ca, ls, Ab, cb, ms⟩).toArray by unfold Lsa.cells; simp only; rw [← Hnl.out, ← Hnm.out]; exact Blk.new _ _ _)
      have Hsz := Lib.hid (show w.heap.size + 1 ≤ w4.heap.size from by have := Hb2.out.size; have := Hs3.out; have := hb4.size; omega)
      clear hx3 oa ob hb4
      go_wp2_with (at_builtin; (refine app_row Lsa.cells (fun _ => rfl) (by decide) (bytes := 104) (by decide) infoX rfl Tryz.underlying22 onesX (by rfl) _ _ (by rfl) (w.heap.size + 1) _ D (by rfl) (Hx4.out.own.below Hba5.out) w4.heap.size ⟨⟨y1, y2, y3, y4, y5, y6, y7⟩, Aa, ca, ls, Ab, cb, ms⟩ (by rfl) Hbk5.out (by omega) (by have := Hsz.out; have := Hba5.out.size; omega) ?_); intro v6 w6 hown6 hg6 hor6; have Hx6 := Lib.hid ((Hx4.out.keep Hba5.out).app hown6 hg6 hor6 (HX.out.1.keep Hba5.out) HX.out.2.1 HX.out.2.2.1 HX.out.2.2.2); have Hg6 := Lib.hid hg6; clear hown6 hg6 hor6)
      have hne : ∀ j, (Value.slice A7 D.length c7).ownBlock = some j → w.heap.size + 1 ≤ j := fun j hj => (Hx4.out.own.block j hj).1
      have hrg6 : RangeAt K3.enc w6 b w.heap.size (dbL M) (dbL (P ++ Q)) := (Hrg4.out.below Hba5.out Hrg4.out.map.lt Hrg4.out.lt).grown Hg6.out (fun e => by have := hne b e.symm; have := HM.out.lt; omega) (fun e => by have := hne _ e.symm; omega)
      have Hrg6 := Lib.hid hrg6
      have Hb6 := Lib.hid (show Below w.heap.size w w6 from ((below_trans Hb2.out Hb2.out.size Hb4.out) |> fun h => below_trans h h.size Hba5.out).grown Hg6.out (by have := Hsz.out; have := Hba5.out.size; omega) (fun j hj => by have := hne j hj; omega))
      clear hne hrg6
      go_wp2
      go_roundw
      case measure => rw [Hrg6.out.left_eq, Hrg.out.left_eq]; exact Hmeas.out
      case rel => exact ⟨D ++ [⟨⟨y1, y2, y3, y4, y5, y6, y7⟩, Aa, ca, ls, Ab, cb, ms⟩], E ++ [⟨⟨y1, y2, y3, y4, y5, y6, y7⟩, ka, kc, ls, ma, mc, ms⟩], P ++ Q, Hrg6.out, Hperm2.out, by rw [List.map_append, List.map_append, HDE.out]; rfl, Hx6.out, Hb6.out⟩

end Go.Proofs.YtpnbibokddhheaaGreat

/-
  How the heads of a summary are compared: by their keys.
-/
namespace Go.Proofs.YtpnbibokddhheaaGreat
open Go.RowKit Go.Sort

def cmpS (a b : Hd) : Int := cmpK (keyH a) (keyH b)
def ltS (a b : Hd) : Bool := lessK (keyH a) (keyH b)
theorem cmpS_lt (a b : Hd) : decide (cmpS a b < 0) = ltS a b := cmpK_less _ _
theorem ltOf_S : ltOf cmpS = ltS := by
  funext a b
  exact cmpK_less _ _
theorem swoS : SWO ltS := { irrefl := fun _ => lessK_irr _, trans := fun _ _ _ h1 h2 => lessK_trans h1 h2, ntrans := fun _ _ _ h1 h2 => lessK_ntrans h1 h2 }
theorem call_newCmp (xs : Array Value) (w : World) : (callFunc 47 xs).run Tryz.prog w = .ok (.enter 47 xs) w := callOf Tryz.func47 rfl (by kernel_rfl) xs w
set_option maxHeartbeats 400000 in
theorem keyOf_gS (h : Hd) (w : World) : Calls Tryz.prog 23 #[.agg #[.int .i64 h.age, .int .i64 h.kind, .int .i64 h.id, .int .i64 h.adv, .int .i64 h.seq, .int .i64 h.sum, .int .i64 h.long]] w
    fun r w' => r = .returned (.agg #[.int .i64 h.kind, .int .i64 h.id, .int .i64 h.adv]) ∧ ∃ q os', w' = grow (w.drewN q) os' := by
  obtain ⟨a, b, c, d, e, f, g⟩ := h
  go_enter Tryz.func23, Tryz.ntmps23
  go_wp2
  refine bodyPost_ret (v := .agg #[.int .i64 b, .int .i64 c, .int .i64 d]) (by simp [results, Tryz.results23, go_sem]) rfl ⟨rfl, 0, #[.cells #[.int .i64 a, .int .i64 b, .int .i64 c, .int .i64 d, .int .i64 e, .int .i64 f, .int .i64 g] 27, .cells #[.int .i64 b, .int .i64 c, .int .i64 d] 69], ?_⟩
  rw [alloc_eq_grow, alloc_eq_grow, grow_grow]
  rfl
set_option maxHeartbeats 2000000 in
set_option maxRecDepth 100000 in
theorem newCmp_any (a b : Hd) (w : World) : Calls Tryz.prog 47 #[.agg #[.int .i64 a.age, .int .i64 a.kind, .int .i64 a.id, .int .i64 a.adv, .int .i64 a.seq, .int .i64 a.sum, .int .i64 a.long], .agg #[.int .i64 b.age, .int .i64 b.kind, .int .i64 b.id, .int .i64 b.adv, .int .i64 b.seq, .int .i64 b.sum, .int .i64 b.long]] w fun r w' => r = .returned (.int .i64 (cmpS a b)) ∧ ∃ q os', w' = grow (w.drewN q) os' := by
  obtain ⟨a1, a2, a3, a4, a5, a6, a7⟩ := a
  obtain ⟨b1, b2, b3, b4, b5, b6, b7⟩ := b
  obtain ⟨w0, hW0⟩ : ∃ w0, (w.alloc (.cells #[.int .i64 a1, .int .i64 a2, .int .i64 a3, .int .i64 a4, .int .i64 a5, .int .i64 a6, .int .i64 a7] 27)).alloc (.cells #[.int .i64 b1, .int .i64 b2, .int .i64 b3, .int .i64 b4, .int .i64 b5, .int .i64 b6, .int .i64 b7] 27) = w0 := ⟨_, rfl⟩
  have hA : Blk w0 w.heap.size 27 #[.int .i64 a1, .int .i64 a2, .int .i64 a3, .int .i64 a4, .int .i64 a5, .int .i64 a6, .int .i64 a7] := by rw [← hW0]; exact (Blk.new w _ _).alloc _
  have hB : Blk w0 (w.heap.size + 1) 27 #[.int .i64 b1, .int .i64 b2, .int .i64 b3, .int .i64 b4, .int .i64 b5, .int .i64 b6, .int .i64 b7] := by rw [← hW0]; exact Blk.size (by simp)
  have Hg : Hid (∃ os, w0 = grow w os) := Lib.hid ⟨_, by rw [← hW0, alloc_eq_grow, alloc_eq_grow, grow_grow]⟩
  obtain ⟨a_0, a_1, a_2, a_3, a_4, a_5, a_6⟩ : _ ∧ _ ∧ _ ∧ _ ∧ _ ∧ _ ∧ _ := ⟨cell_gd (hA.cell 0), cell_gd (hA.cell 1), cell_gd (hA.cell 2), cell_gd (hA.cell 3), cell_gd (hA.cell 4), cell_gd (hA.cell 5), cell_gd (hA.cell 6)⟩
  obtain ⟨b_0, b_1, b_2, b_3, b_4, b_5, b_6⟩ : _ ∧ _ ∧ _ ∧ _ ∧ _ ∧ _ ∧ _ := ⟨cell_gd (hB.cell 0), cell_gd (hB.cell 1), cell_gd (hB.cell 2), cell_gd (hB.cell 3), cell_gd (hB.cell 4), cell_gd (hB.cell 5), cell_gd (hB.cell 6)⟩
  have CK := Lib.hid (fun h q os => gd_of (w := w0) (q := q) (os := os) (keyOf_gS h _))
  have CB := Lib.hid (fun x1 x2 x3 y1 y2 y3 q os => gd_of (w := w0) (q := q) (os := os) (before_g13 x1 x2 x3 y1 y2 y3 _))
  clear hA hB
  unfold cmpS cmpK keyH
  (try simp only)
  go_enter Tryz.func47, Tryz.ntmps47
  go_wp2_with fail
  refine wp_gd_tail 5 (by kernel_rfl) (by kernel_rfl) ?_
  simp only [List.take_succ_cons, List.take_zero, List.drop_succ_cons, List.drop_zero]
  repeat (go_big_quiet_step (first | exact CK.out ⟨_, _, _, _, _, _, _⟩ _ _ | exact CB.out _ _ _ _ _ _ _ _))
  refine wpQuiet_nil ?_
  rintro w3 ⟨⟨dq, osq⟩, rfl⟩
  go_wp2
  go_ret
  obtain ⟨os, hos⟩ := Hg.out
  refine ⟨rfl, dq, os ++ osq, ?_⟩
  subst hos
  simp [grow, World.drewN, Array.append_assoc]

end Go.Proofs.YtpnbibokddhheaaGreat

/-
  Heads sorted stably by their keys, one put behind the other (plain).
-/
namespace Go.Proofs.YtpnbibokddhheaaGreat
open Go.Sort

def insS (x : Hd) : List Hd → List Hd
  | [] => [x]
  | z :: Z => if ltS x z = true then x :: z :: Z else z :: insS x Z
def stbS (L : List Hd) : List Hd := L.foldl (fun Z x => insS x Z) []
theorem insS_cut (x : Hd) : ∀ {Z : List Hd}, SrtL ltS Z → ∃ Z1 Z2, Z = Z1 ++ Z2 ∧ insS x Z = Z1 ++ [x] ++ Z2 ∧ (∀ z ∈ Z2, ltS x z = true) ∧ (Z1 = [] ∨ ∃ Y z, Z1 = Y ++ [z] ∧ ltS x z = false)
  | [], _ => ⟨[], [], rfl, rfl, by simp, .inl rfl⟩
  | z :: Z, h => by
    obtain ⟨h1, h2⟩ := List.pairwise_cons.1 h
    unfold insS
    by_cases hl : ltS x z = true
    · rw [if_pos hl]
      refine ⟨[], z :: Z, rfl, rfl, fun u hu => ?_, .inl rfl⟩
      rcases List.mem_cons.1 hu with rfl | hu
      · exact hl
      · cases e : ltS x u with
        | true => rfl
        | false => have := swoS.ntrans _ _ _ e (h1 u hu); rw [hl] at this; cases this
    · rw [if_neg hl]
      obtain ⟨Z1, Z2, rfl, g2, g3, g4⟩ := insS_cut x h2
      refine ⟨z :: Z1, Z2, rfl, by rw [g2]; simp, g3, .inr ?_⟩
      rcases g4 with rfl | ⟨Y, u, rfl, hu⟩
      · exact ⟨[], z, rfl, by simpa using hl⟩
      · exact ⟨z :: Y, u, rfl, hu⟩
theorem insS_stb {X Z : List Hd} (h : Stb ltS X Z) (x : Hd) : Stb ltS (X ++ [x]) (insS x Z) := by
  obtain ⟨Z1, Z2, rfl, e, h1, h2⟩ := insS_cut x h.srt
  rw [e]
  exact stb_ins swoS h h1 h2
theorem fold_stb : ∀ (L X Z : List Hd), Stb ltS X Z → Stb ltS (X ++ L) (L.foldl (fun Z x => insS x Z) Z)
  | [], X, Z, h => by simpa using h
  | x :: L, X, Z, h => by
    have := fold_stb L (X ++ [x]) (insS x Z) (insS_stb h x)
    simpa using this
theorem stbS_stb (L : List Hd) : Stb ltS L (stbS L) := fold_stb L [] [] (Stb.refl srt_nil)
theorem stbS_is {L M : List Hd} (h : Stb ltS L M) : M = stbS L := h.unique swoS (stbS_stb L)
theorem stbS_len (L : List Hd) : (stbS L).length = L.length := (stbS_stb L).len.symm
theorem stbS_more (L : List Hd) (x : Hd) {Z1 Z2 : List Hd} (h : stbS L = Z1 ++ Z2) (h1 : ∀ z ∈ Z2, ltS x z = true) (h2 : Z1 = [] ∨ ∃ Y z, Z1 = Y ++ [z] ∧ ltS x z = false) : Z1 ++ x :: Z2 = stbS (L ++ [x]) := by
  have := stbS_is (stb_ins swoS (h ▸ stbS_stb L) h1 h2)
  simpa using this

end Go.Proofs.YtpnbibokddhheaaGreat
