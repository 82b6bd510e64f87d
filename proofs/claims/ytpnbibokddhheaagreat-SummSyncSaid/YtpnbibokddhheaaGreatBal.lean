/-
  A row of structs that a call made itself, behind the library's sort.
-/
import Derived.Shelf.SlSortCmp.NoneTotal
import Derived.Shelf.SlGeneric
import Derived.Ground.SlsfProg
import Derived.Test.YtpnbibokddhheaaGreatProg
import Derived.Test.YtpnbibokddhheaaGreatBaa
import Derived.Test.YtpnbibokddhheaaGreatBab
import Derived.Test.YtpnbibokddhheaaGreatBac
import Derived.Test.YtpnbibokddhheaaGreatBaj
namespace Go.Proofs.YtpnbibokddhheaaGreat
open Go.RowKit Go.Sort Go.Proofs

section
variable {α : Type} [Inhabited α] {e : TypeId} {C : Nat} {cells : α → List Value} {w : World} {B : Nat} {L : List α}
theorem flatK_list (hC : ∀ x, (cells x).length = C) (M : List α) : (flatK cells C M.toArray).toList = M.flatMap cells := by
  apply List.ext_getElem?
  intro t
  by_cases ht : t < M.length * C
  · have h0 : 0 < C := by
      rcases Nat.eq_zero_or_pos C with h | h
      · subst h; simp at ht
      · exact h
    have hk : t / C < M.length := Nat.div_lt_of_lt_mul (by rw [Nat.mul_comm]; exact ht)
    have hi : t % C < C := Nat.mod_lt _ h0
    have e1 := flatR cells C hC M (t / C) (t % C) hk hi
    rw [show t / C * C + t % C = t by rw [Nat.mul_comm]; exact Nat.div_add_mod t C] at e1
    rw [e1, Array.getElem?_toList]
    have hs : t < (flatK cells C M.toArray).size := by rw [size_flatK]; simpa using ht
    have e2 := get_flatK cells C M.toArray t (by simpa using ht)
    rw [getElem!_pos _ t hs] at e2
    rw [Array.getElem?_eq_getElem hs, e2]
    have e3 : M.toArray[t / C]! = M[t / C] := by simp [hk]
    have e4 : t % C < (cells M[t / C]).length := by rw [hC]; exact hi
    rw [e3, List.getElem?_eq_getElem e4, getElem!_pos (cells M[t / C]) (t % C) e4]
  · rw [List.getElem?_eq_none (by simpa using Nat.le_of_not_lt ht), List.getElem?_eq_none (by rw [flatLenR cells C hC]; omega)]
theorem ownR_holds (hC : ∀ x, (cells x).length = C) {g n cap : Nat} (h : OwnR e C cells w B (.slice (some ⟨g, 0, none⟩) n cap) L) : HoldsK cells C w g 0 L.toArray ∧ g < w.heap.size := by
  rcases h.2 with ⟨hv, -⟩ | ⟨g', cap', cur, hv, hb, hg, hnc, hcm, hcs, ht⟩
  · cases hv
  · simp only [Value.slice.injEq, Option.some.injEq, Addr.mk.injEq, and_true] at hv
    obtain ⟨rfl, rfl, rfl⟩ := hv
    refine ⟨fun j hj => ⟨?_, by simp [World.frozen?, hg]⟩, (Array.getElem?_eq_some_iff.1 hg).1⟩
    have hj' : j < L.length * C := by rw [size_flatK] at hj; simpa using hj
    have h1 : (cur.toList.take (L.length * C))[j]? = (L.flatMap cells)[j]? := by rw [ht]
    rw [List.getElem?_take_of_lt hj', ← flatK_list hC, Array.getElem?_toList, Array.getElem?_toList, Array.getElem?_eq_getElem hj] at h1
    simp only [World.cell?, hg, Nat.zero_add, Option.isSome_none, Bool.false_eq_true, if_false]
    rw [h1, getElem!_pos (flatK cells C L.toArray) j hj]
    rfl
theorem take_put (F cur : Array Value) (h : F.size ≤ cur.size) : (putCells id 0 F cur).toList.take F.size = F.toList := by
  apply List.ext_getElem?
  intro j
  by_cases hj : j < F.size
  · rw [List.getElem?_take_of_lt hj, Array.getElem?_toList, Array.getElem?_toList]
    simp [putCells, hj, show j < cur.size by omega]
  · rw [List.getElem?_take_eq_none (by omega), List.getElem?_eq_none (by simp; omega)]
theorem ownR_sorted (hC : ∀ x, (cells x).length = C) {g n cap m : Nat} {os : Array Obj} {M : List α} (h : OwnR e C cells w B (.slice (some ⟨g, 0, none⟩) n cap) L) (hl : M.length = L.length) :
    OwnR e C cells (sortWorldK cells C w g 0 m M.toArray os) B (.slice (some ⟨g, 0, none⟩) n cap) M ∧ w.grownBy (sortWorldK cells C w g 0 m M.toArray os) (some g) := by
  rcases h.2 with ⟨hv, -⟩ | ⟨g', cap', cur, hv, hb, hg, hnc, hcm, hcs, ht⟩
  · cases hv
  · simp only [Value.slice.injEq, Option.some.injEq, Addr.mk.injEq, and_true] at hv
    obtain ⟨rfl, rfl, rfl⟩ := hv
    have hlt : g < w.heap.size := (Array.getElem?_eq_some_iff.1 hg).1
    have hheap : (sortWorldK cells C w g 0 m M.toArray os).heap[g]? = some (.cells (putCells id 0 (flatK cells C M.toArray) cur) e (0, 0)) := by
      unfold sortWorldK putRowK
      rw [heap_grow_old _ _ (by simpa using hlt)]
      simp [putRow, mapBlock, Sort.ahead, Array.getElem?_modify, hg, onCells]
    have hfs : (flatK cells C M.toArray).size = L.length * C := by rw [size_flatK]; simp [hl]
    refine ⟨⟨?_, .inr ⟨g, cap, _, by rw [hl], hb, hheap, by omega, hcm, by simp [putCells, hcs], ?_⟩⟩, rfl, rfl, rfl, ?_, fun k hk hne => ?_⟩
    · rw [flatLenR cells C hC]
    · rw [← flatK_list hC, hl, ← hfs]
      exact take_put _ _ (by rw [hfs, hcs]; exact Nat.mul_le_mul_right C hnc)
    · unfold sortWorldK putRowK
      simp
    · unfold sortWorldK putRowK
      rw [heap_grow_old _ _ (by simpa using hk)]
      have : g ≠ k := fun e => hne (by rw [e])
      simp [putRow, mapBlock, Sort.ahead, Array.getElem?_modify, this]
end

end Go.Proofs.YtpnbibokddhheaaGreat

/-
  The library's sort at a row that a call made itself: a permutation, in order.
-/
namespace Go.Proofs.YtpnbibokddhheaaGreat
open Go.RowKit Go.Sort Go.Proofs Go.Shelf

theorem sort_row {α : Type} [Inhabited α] {ρ : Ren} (LL : SlLaysF0.n6 Tryz.prog ρ) {C : Nat} (aE : ∀ w, (isAgg (ρ.t 24)).run Tryz.prog w = .ok true w) (zE : ∀ w, (Go.sizeOf (ρ.t 24)).run Tryz.prog w = .ok C w) (cells : α → List Value) (hC : ∀ x, (cells x).length = C) (h1 : ∀ x, ∀ v ∈ cells x, v.oneCell' = true)
    (cf : α → α → Int) (hO : SWO (ltOf cf)) (g : Nat) (eg : ∀ xs w, (callFunc g xs).run Tryz.prog w = .ok (.enter g xs) w)
    (hcmp : ∀ x y w, Calls Tryz.prog g #[.agg (cells x).toArray, .agg (cells y).toArray] w fun r w' => r = .returned (.int .i64 (cf x y)) ∧ ∃ q os', w' = grow (w.drewN q) os')
    {e : TypeId} (v : Value) (L : List α) (B : Nat) (w : World) (hown : OwnR e C cells w B v L) (hlen : L.length ≤ 2 ^ 20) :
    Calls Tryz.prog (ρ.f 6) #[v, .func (.func g) #[] #[]] w fun r w' => r = .returned (.tuple #[]) ∧ ∃ M, OwnR e C cells w' B v M ∧ M.Perm L ∧ (M.Pairwise fun x y => ltOf cf y x = false) ∧ w.grownBy w' v.ownBlock := by
  obtain ⟨A, cap, rfl⟩ := hown.shape
  by_cases h0 : L.length = 0
  · have hL : L = [] := List.eq_nil_of_length_eq_zero h0
    subst hL
    refine (AnyF.slices_SortFunc_none { LL with } A cap (.func (.func g) #[] #[]) w).mono ?_
    rintro r w' ⟨rfl, rfl⟩
    exact ⟨rfl, [], hown, List.Perm.refl _, List.Pairwise.nil, World.grownBy.refl _ _⟩
  · rcases hown.2 with ⟨hv, hn⟩ | ⟨g', cap', cur, hv, -⟩
    · omega
    · simp only [Value.slice.injEq, true_and] at hv
      obtain ⟨rfl, rfl⟩ := hv
      obtain ⟨hH, hlt⟩ := ownR_holds (C := C) (cells := cells) hC hown
      have h := AnyQ.slices_SortFunc LL C aE zE cells hC h1 cf hO g #[] g' 0 cap L.toArray w eg (fun m os dk _ x y => hcmp x y _) hH hlt (by simp; omega)
      refine h.mono ?_
      rintro r w' ⟨rfl, d', n, os, ⟨hsz, -, hperm⟩, hs, rfl⟩
      have e1 : d'.extract 0 L.toArray.size = d' := by rw [← hsz]; exact Array.extract_size
      rw [e1, Array.extract_size] at hperm
      have hl : d'.toList.length = L.length := by simpa using hsz
      have := ownR_sorted (C := C) (cells := cells) (m := n) (os := os) (M := d'.toList) hC hown hl
      rw [Array.toArray_toList] at this
      refine ⟨rfl, d'.toList, this.1, by simpa using hperm, ?_, this.2⟩
      rw [List.pairwise_iff_getElem]
      intro i j hi hj hij
      have hi' : i < d'.size := by simpa using hi
      have hj' : j < d'.size := by simpa using hj
      have := hs i j (Nat.zero_le _) hij (by omega)
      rw [getElem!_pos d' j hj', getElem!_pos d' i hi'] at this
      simpa using this

end Go.Proofs.YtpnbibokddhheaaGreat

/-
  The library's slices.SortFunc, laid at this program: written by lay-plain.mjs of the kit.
-/
namespace Go.Proofs
open Go.Shelf
def Tryz.sortKey_ren : Go.Shelf.Ren := ⟨fun | 6 => 37 | 15 => 79 | 14 => 78 | 28 => 118 | 29 => 119 | 20 => 110 | 21 => 111 | 22 => 112 | 23 => 113 | 24 => 114 | 25 => 115 | 26 => 116 | 27 => 117 | 46 => 177 | 47 => 178 | 48 => 179 | 49 => 180 | 50 => 181 | 57 => 211 | n => n, fun | 22 => 54 | 24 => 69 | 25 => 109 | 3 => 3 | 39 => 92 | 0 => 0 | 53 => 213 | 55 => 215 | 4 => 4 | 46 => 207 | 45 => 206 | 50 => 123 | 5 => 5 | 9 => 9 | 66 => 260 | 70 => 264 | 76 => 285 | 77 => 235 | n => n, fun | n => n⟩
theorem Tryz.sortKey : Go.Proofs.SlLaysF0.n6 Tryz.prog Tryz.sortKey_ren := {
  mixed := by kernel_rfl
  f6 := ⟨Tryz.f37.name, by decide, Tryz.func37.trans (congrArg some (by kernel_rfl))⟩
  f14 := ⟨Tryz.f78.name, by decide, Tryz.func78.trans (congrArg some (by kernel_rfl))⟩
  f15 := Tryz.func79.trans (congrArg some (by kernel_rfl))
  f20 := ⟨Tryz.f110.name, by decide, Tryz.func110.trans (congrArg some (by kernel_rfl))⟩
  f21 := ⟨Tryz.f111.name, by decide, Tryz.func111.trans (congrArg some (by kernel_rfl))⟩
  f22 := ⟨Tryz.f112.name, by decide, Tryz.func112.trans (congrArg some (by kernel_rfl))⟩
  f23 := ⟨Tryz.f113.name, by decide, Tryz.func113.trans (congrArg some (by kernel_rfl))⟩
  f24 := ⟨Tryz.f114.name, by decide, Tryz.func114.trans (congrArg some (by kernel_rfl))⟩
  f25 := ⟨Tryz.f115.name, by decide, Tryz.func115.trans (congrArg some (by kernel_rfl))⟩
  f26 := ⟨Tryz.f116.name, by decide, Tryz.func116.trans (congrArg some (by kernel_rfl))⟩
  f27 := ⟨Tryz.f117.name, by decide, Tryz.func117.trans (congrArg some (by kernel_rfl))⟩
  f28 := Tryz.func118.trans (congrArg some (by kernel_rfl))
  f29 := Tryz.func119.trans (congrArg some (by kernel_rfl))
  f46 := ⟨Tryz.f177.name, by decide, Tryz.func177.trans (congrArg some (by kernel_rfl))⟩
  f47 := Tryz.func178.trans (congrArg some (by kernel_rfl))
  f48 := Tryz.func179.trans (congrArg some (by kernel_rfl))
  f49 := ⟨Tryz.f180.name, by decide, Tryz.func180.trans (congrArg some (by kernel_rfl))⟩
  f50 := ⟨Tryz.f181.name, by decide, Tryz.func181.trans (congrArg some (by kernel_rfl))⟩
  f57 := ⟨Tryz.f211.name, by decide, Tryz.func211.trans (congrArg some (by kernel_rfl))⟩
  t0 := Tryz.underlying0
  a0 := Tryz.isAgg0
  z0 := Tryz.sizeOf0
  v0 := Tryz.zeroValue0
  t3 := Tryz.underlying3
  a3 := Tryz.isAgg3
  z3 := Tryz.sizeOf3
  v3 := Tryz.zeroValue3
  t4 := Tryz.underlying4
  a4 := Tryz.isAgg4
  z4 := Tryz.sizeOf4
  v4 := Tryz.zeroValue4
  t5 := Tryz.underlying5
  a5 := Tryz.isAgg5
  z5 := Tryz.sizeOf5
  v5 := Tryz.zeroValue5
  t9 := Tryz.underlying9
  a9 := Tryz.isAgg9
  z9 := Tryz.sizeOf9
  v9 := Tryz.zeroValue9
  t22 := Tryz.underlying54
  a22 := Tryz.isAgg54
  z22 := Tryz.sizeOf54
  v22 := Tryz.zeroValue54
  t25 := Tryz.underlying109
  a25 := Tryz.isAgg109
  z25 := Tryz.sizeOf109
  v25 := Tryz.zeroValue109
  t39 := Tryz.underlying92
  a39 := Tryz.isAgg92
  z39 := Tryz.sizeOf92
  v39 := Tryz.zeroValue92
  t45 := Tryz.underlying206
  a45 := Tryz.isAgg206
  z45 := Tryz.sizeOf206
  v45 := Tryz.zeroValue206
  t46 := Tryz.underlying207
  a46 := Tryz.isAgg207
  z46 := Tryz.sizeOf207
  v46 := Tryz.zeroValue207
  t50 := Tryz.underlying123
  a50 := Tryz.isAgg123
  z50 := Tryz.sizeOf123
  v50 := Tryz.zeroValue123
  t53 := Tryz.underlying213
  a53 := Tryz.isAgg213
  z53 := Tryz.sizeOf213
  v53 := Tryz.zeroValue213
  t55 := Tryz.underlying215
  a55 := Tryz.isAgg215
  z55 := Tryz.sizeOf215
  v55 := Tryz.zeroValue215
  t66 := Tryz.underlying260
  a66 := Tryz.isAgg260
  z66 := Tryz.sizeOf260
  v66 := Tryz.zeroValue260
  t70 := Tryz.underlying264
  a70 := Tryz.isAgg264
  z70 := Tryz.sizeOf264
  v70 := Tryz.zeroValue264
  t76 := Tryz.underlying285
  a76 := Tryz.isAgg285
  z76 := Tryz.sizeOf285
  v76 := Tryz.zeroValue285
  t77 := Tryz.underlying235
  a77 := Tryz.isAgg235
  z77 := Tryz.sizeOf235
  v77 := Tryz.zeroValue235 }
end Go.Proofs

/-
  Layer 13: the sorts of the summary; a stable one of a single head.
-/
namespace Go.Proofs.YtpnbibokddhheaaGreat
open Go.RowKit Go.Sort Go.Proofs

set_option maxHeartbeats 1000000 in
theorem insert1 (A : Option Addr) (c : Nat) (f : Value) (w : World) : Calls Tryz.prog 128 #[.slice A 1 c, .int .i64 0, .int .i64 1, f] w fun r w' => r = .returned (.tuple #[]) ∧ w' = w := by
  go_enter Tryz.func128, Tryz.ntmps128
  go_wp2
  go_loopw [8] (fun i wr => i = .int .i64 1 ∧ wr = w) (fun _ _ => 0)
  case atStart => exact ⟨rfl, rfl⟩
  case round =>
    obtain ⟨rfl, rfl⟩ := hrel
    go_wp2
    refine bodyPost_end (results_none rfl _ _ _) rfl ?_
    exact ⟨rfl, rfl⟩
set_option maxHeartbeats 1000000 in
theorem stable1 (A : Option Addr) (c : Nat) (f : Value) (w : World) : Calls Tryz.prog 83 #[.slice A 1 c, .int .i64 1, f] w fun r w' => r = .returned (.tuple #[]) ∧ w' = w := by
  go_enter Tryz.func83, Tryz.ntmps83
  go_wp2
  go_loopw [7, 8] (fun a b wr => a = .int .i64 0 ∧ b = .int .i64 20 ∧ wr = w) (fun _ _ _ => 0)
  case atStart => exact ⟨rfl, rfl, rfl⟩
  case round =>
    obtain ⟨rfl, rfl, rfl⟩ := hrel
    go_wp2_with fail
    with_reducible refine Calls.mono (insert1 _ _ _ _) ?_
    rintro r w2 ⟨rfl, rfl⟩
    obtain ⟨wo, hwo⟩ : ∃ wo : World, wo = w2 := ⟨_, rfl⟩
    go_wp2
    go_loopw [6] (fun a wx => a = .int .i64 20 ∧ wx = wo) (fun _ _ => 0)
    case atStart => exact ⟨rfl, hwo.symm⟩
    case round =>
      obtain ⟨rfl, rfl⟩ := hrel
      go_wp2
      refine bodyPost_end (results_none rfl _ _ _) rfl ?_
      exact ⟨rfl, rfl⟩
set_option maxHeartbeats 1000000 in
theorem sortStable1 (A : Option Addr) (c : Nat) (f : Value) (w : World) : Calls Tryz.prog 46 #[.slice A 1 c, f] w fun r w' => r = .returned (.tuple #[]) ∧ w' = w := by
  go_enter Tryz.func46, Tryz.ntmps46
  go_wp2_with fail
  with_reducible refine Calls.mono (stable1 _ _ _ _) ?_
  rintro r w2 ⟨rfl, rfl⟩
  go_wp2
  refine bodyPost_end (results_none rfl _ _ _) rfl ?_
  exact ⟨rfl, rfl⟩
set_option maxHeartbeats 1000000 in
theorem compact1 (A : Option Addr) (c n : Nat) (hn : n < 2) (w : World) : Calls Tryz.prog 39 #[.slice A n c] w fun r w' => r = .returned (.slice A n c) ∧ w' = w := by
  have hn' : (n : Int) < 2 := by omega
  go_enter Tryz.func39, Tryz.ntmps39
  go_wp2
  go_ret
  exact ⟨rfl, rfl⟩
set_option maxHeartbeats 2000000 in
set_option maxRecDepth 100000 in
theorem before_g13 (a1 a2 a3 b1 b2 b3 : Int) (w : World) : Calls Tryz.prog 38 #[.agg #[.int .i64 a1, .int .i64 a2, .int .i64 a3], .agg #[.int .i64 b1, .int .i64 b2, .int .i64 b3]] w fun r w' => r = .returned (.int .i64 (cmp3 a1 a2 a3 b1 b2 b3)) ∧ ∃ q os', w' = grow (w.drewN q) os' := by
  obtain ⟨w0, hW0⟩ : ∃ w0, (w.alloc (.cells #[.int .i64 a1, .int .i64 a2, .int .i64 a3] 69)).alloc (.cells #[.int .i64 b1, .int .i64 b2, .int .i64 b3] 69) = w0 := ⟨_, rfl⟩
  have hA : Blk w0 w.heap.size 69 #[.int .i64 a1, .int .i64 a2, .int .i64 a3] := by rw [← hW0]; exact (Blk.new w _ _).alloc _
  have hB : Blk w0 (w.heap.size + 1) 69 #[.int .i64 b1, .int .i64 b2, .int .i64 b3] := by
    rw [← hW0]
    have := Blk.new (w.alloc (.cells #[.int .i64 a1, .int .i64 a2, .int .i64 a3] 69)) 69 #[.int .i64 b1, .int .i64 b2, .int .i64 b3]
    simpa using this
  have Hg : Hid (∃ os, w0 = grow w os) := Lib.hid ⟨_, by rw [← hW0, alloc_eq_grow, alloc_eq_grow, grow_grow]⟩
  obtain ⟨a_0, a_1, a_2⟩ : _ ∧ _ ∧ _ := ⟨hA.cell 0, hA.cell 1, hA.cell 2⟩
  obtain ⟨b_0, b_1, b_2⟩ : _ ∧ _ ∧ _ := ⟨hB.cell 0, hB.cell 1, hB.cell 2⟩
  simp only [List.getElem?_toArray, List.getElem?_cons_zero, List.getElem?_cons_succ] at a_0 a_1 a_2 b_0 b_1 b_2
  clear hA hB
  go_enter Tryz.func38, Tryz.ntmps38
  go_wp2_with fail
  refine wp_drew_tail 15 (by kernel_rfl) (by kernel_rfl) ?_
  simp only [List.take_succ_cons, List.take_zero, List.drop_succ_cons, List.drop_zero]
  repeat (go_big_quiet_step (exact cmp_q _ _ _ _))
  refine wpQuiet_nil ?_
  rintro w3 ⟨dq, rfl⟩
  go_wp2_with (go_at_call 59; (with_reducible refine Calls.mono (or3_s _ _ _ _) ?_); rintro r w4 ⟨rfl, rfl⟩)
  go_ret
  obtain ⟨os, hos⟩ := Hg.out
  refine ⟨rfl, dq, os.push (.cells #[.int .i64 (cmpI a1 b1), .int .i64 (cmpI a2 b2), .int .i64 (cmpI a3 b3)] 3), ?_⟩
  subst hos
  simp [grow, World.alloc, World.drewN]
instance : Inhabited K3 := ⟨⟨0, 0, 0⟩⟩
theorem onesK13 (x : K3) : ∀ u ∈ K3.cells x, u.oneCell' = true := by
  intro u hu
  simp [K3.cells] at hu
  rcases hu with rfl | rfl | rfl <;> rfl
theorem ltOf_K13 : ltOf cmpK = lessK := by
  funext a b
  exact cmpK_less _ _
theorem swoK13 : SWO (ltOf cmpK) := by
  rw [ltOf_K13]
  exact { irrefl := lessK_irr, trans := fun _ _ _ h1 h2 => lessK_trans h1 h2, ntrans := fun _ _ _ h1 h2 => lessK_ntrans h1 h2 }
theorem call_before13 (xs : Array Value) (w : World) : (callFunc 38 xs).run Tryz.prog w = .ok (.enter 38 xs) w := callOf Tryz.func38 rfl (by kernel_rfl) xs w
theorem before13_any (x y : K3) (w : World) : Calls Tryz.prog 38 #[.agg (K3.cells x).toArray, .agg (K3.cells y).toArray] w fun r w' => r = .returned (.int .i64 (cmpK x y)) ∧ ∃ q os', w' = grow (w.drewN q) os' := by
  obtain ⟨a1, a2, a3⟩ := x
  obtain ⟨b1, b2, b3⟩ := y
  exact before_g13 a1 a2 a3 b1 b2 b3 w
theorem sortKs13 (v : Value) (M : List K3) (B : Nat) (w : World) (hown : OwnR 69 3 K3.cells w B v M) (hlen : M.length ≤ 2 ^ 20) :
    Calls Tryz.prog 37 #[v, .func (.func 38) #[] #[]] w fun r w' => r = .returned (.tuple #[]) ∧ (∃ N, OwnR 69 3 K3.cells w' B v N ∧ N.Perm M ∧ N.Pairwise fun x y => lessK y x = false) ∧ w.grownBy w' v.ownBlock := by
  have h := sort_row Tryz.sortKey (C := 3) Tryz.isAgg69 Tryz.sizeOf69 K3.cells (fun _ => rfl) onesK13 cmpK swoK13 38 call_before13 (fun x y w => before13_any x y w) v M B w hown hlen
  change Calls Tryz.prog 37 _ _ _ at h
  refine h.mono ?_
  rintro r w' ⟨rfl, N, hN, hpN, hsN, hg⟩
  rw [ltOf_K13] at hsN
  exact ⟨rfl, ⟨N, hN, hpN, hsN⟩, hg⟩

end Go.Proofs.YtpnbibokddhheaaGreat

/-
  Layer 13: the keys of what is gone: the program's way.
-/
namespace Go.Proofs.YtpnbibokddhheaaGreat
open Go.RowKit Go.Sort

theorem infoK13 : (Tryz.prog.info? 69).map (fun i => (i.zero, i.size, i.bytes)) = some (some (.agg #[.int .i64 0, .int .i64 0, .int .i64 0]), 3, 24) := by kernel_rfl
def goneOf (l : List Lsa) : List K3 := (l.filter fun x => decide (x.head.age = 60)).map keyX
theorem gone_more {l : List Lsa} {k : Nat} (hk : k < l.length) : goneOf (l.take (k + 1)) = goneOf (l.take k) ++ if l[k].head.age = 60 then [keyX l[k]] else [] := by
  unfold goneOf
  rw [List.take_succ_eq_append_getElem hk, List.filter_append, List.map_append]
  congr 1
  by_cases h : l[k].head.age = 60 <;> simp [h]
theorem gone_len (l : List Lsa) : (goneOf l).length ≤ l.length := by
  unfold goneOf
  rw [List.length_map]
  exact List.length_filter_le _ _
set_option maxHeartbeats 8000000 in
set_option maxRecDepth 100000 in
theorem SuGone_any (A : Option Addr) (c : Nat) (l : List Lsa) (w : World) (B : Nat) (h : RowsAt 9 Lsa.cells w B A l) (hB : B ≤ w.heap.size) (hm : l.length ≤ 2 ^ 20) (nn : Nat) (hnn : nn = l.length) (X : List K3)
    (HC : ∀ W A n c N, OwnR 69 3 K3.cells W w.heap.size (.slice A n c) N → N.Perm (goneOf l) → (N.Pairwise fun x y => lessK y x = false) → Calls Tryz.prog 39 #[.slice A n c] W fun r W' => (∃ v, r = .returned v ∧ OwnR 69 3 K3.cells W' w.heap.size v X) ∧ W.grownBy W' (Value.slice A n c).ownBlock) :
    Calls Tryz.prog 14 #[.slice A nn c] w fun r w' => (∃ v, r = .returned v ∧ OwnR 69 3 K3.cells w' w.heap.size v X) ∧ Below w.heap.size w w' := by
  subst hnn
  have HL := Lib.hid h
  have HCo := Lib.hid HC
  have hm' : (l.length : Int) ≤ 9223372036854775807 := by omega
  clear h HC
  go_enter Tryz.func14, Tryz.ntmps14
  go_wp2
  go_loopw [3, 8] (fun v i wr => ∃ k : Nat, i = .int .i64 k ∧ k ≤ l.length ∧ OwnR 69 3 K3.cells wr w.heap.size v (goneOf (l.take k)) ∧ Below w.heap.size w wr) (fun _ i _ => l.length - (intOf i).toNat)
  case atStart => exact ⟨0, rfl, Nat.zero_le _, OwnR.nil _ _, Below.refl _ _⟩
  case round =>
    obtain ⟨k, rfl, hk, hown, hb⟩ := hrel
    obtain ⟨A7, c7, hv7⟩ := hown.shape
    subst hv7
    have hHl : (goneOf (l.take k)).length ≤ 2 ^ 20 := Nat.le_trans (gone_len _) (by rw [List.length_take]; omega)
    obtain ⟨H, hH⟩ : ∃ H, goneOf (l.take k) = H := ⟨_, rfl⟩
    by_cases hlt : k < l.length
    · obtain ⟨g, o, hA, -, x0, x1, x2, x3, x4, x5, x6, x7, x8⟩ := row_lsa9b (HL.out.below (hb.mono hB)) k hlt
      have hkl : (k : Int) < (l.length : Int) := by omega
      have hmore := gone_more hlt
      have HA := Lib.hid hA
      rw [hA]
      have Hlt := Lib.hid hlt
      generalize l[k] = x at *
      obtain ⟨⟨y1, y2, y3, y4, y5, y6, y7⟩, ka, kc, ls, ma, mc, ms⟩ := x
      simp only at x0 x1 x2 x3 x4 x5 x6 x7 x8 hmore
      obtain ⟨nl, hnl⟩ : ∃ nl, ls.length = nl := ⟨_, rfl⟩
      obtain ⟨nm, hnm⟩ : ∃ nm, ms.length = nm := ⟨_, rfl⟩
      rw [hnl] at x7
      rw [hnm] at x8
      rw [hH] at hown hmore hHl ⊢
      have Hmore := Lib.hid hmore
      have HHl := Lib.hid hHl
      obtain ⟨w8, hw8⟩ : ∃ w8, wr.alloc (.cells #[.int .i64 y1, .int .i64 y2, .int .i64 y3, .int .i64 y4, .int .i64 y5, .int .i64 y6, .int .i64 y7, .slice ka nl kc, .slice ma nm mc] 31) = w8 := ⟨_, rfl⟩
      obtain ⟨g8, hg8⟩ : ∃ g8, wr.heap.size = g8 := ⟨_, rfl⟩
      have hk8 := Blk.new wr 31 #[.int .i64 y1, .int .i64 y2, .int .i64 y3, .int .i64 y4, .int .i64 y5, .int .i64 y6, .int .i64 y7, .slice ka nl kc, .slice ma nm mc]
      have hb8 := below_new wr (.cells #[.int .i64 y1, .int .i64 y2, .int .i64 y3, .int .i64 y4, .int .i64 y5, .int .i64 y6, .int .i64 y7, .slice ka nl kc, .slice ma nm mc] 31)
      rw [hw8, hg8] at hk8
      rw [hw8] at hb8
      have O8 := Lib.hid (hown.below hb8)
      have B8 := Lib.hid (below_trans hb hb.size hb8)
      obtain ⟨z0, z1, z2, z3, z4, z5, z6, z7, z8, zf⟩ := blk9 hk8
      clear hnl hnm hA hlt hk8 hb8 hk hown hb hmore hHl hH
      by_cases h60 : y1 = 60
      · subst h60
        rw [if_pos rfl] at Hmore
        go_wp2_with fail
        with_reducible refine Calls.mono (keyOf_any _ _ _ _ _ _ _ _) ?_
        rintro r w9 ⟨rfl, hb9⟩
        have O9 := Lib.hid (O8.out.below hb9)
        have B9 := Lib.hid (below_trans B8.out B8.out.size hb9)
        clear hb9
        go_wp2_with (at_builtin; (refine app_row K3.cells (fun _ => rfl) (by decide) (bytes := 24) (by decide) infoK13 rfl Tryz.underlying54 onesK13 (by rfl) _ _ (by rfl) w.heap.size _ H (by rfl) (O9.out.alloc _) w9.heap.size ⟨y2, y3, y4⟩ (by rfl) (Blk.new _ _ _) (by have := HHl.out; omega) (by have := B9.out.size; simp; omega) ?_); intro v6 w6 hown6 hg6 hor6; have O6 := Lib.hid hown6; have Hg6 := Lib.hid hg6; clear hown6 hg6 hor6)
        have B6 := Lib.hid (show Below w.heap.size w w6 from (B9.out.alloc B9.out.size _).grown Hg6.out (by have := B9.out.size; simp; omega) (fun m e => (O9.out.block m e).1))
        go_wp2
        go_roundw
        case measure => have := Hlt.out; simp only [intOf]; omega
        case rel => exact ⟨k + 1, by go_num, Hlt.out, by rw [Hmore.out]; exact O6.out, B6.out⟩
      · rw [if_neg h60, List.append_nil] at Hmore
        go_wp2
        go_roundw
        case measure => have := Hlt.out; simp only [intOf]; omega
        case rel => exact ⟨k + 1, by go_num, Hlt.out, by rw [Hmore.out]; exact O8.out, B8.out⟩
    · have hke : k = l.length := by omega
      subst hke
      have hkl : ¬ (l.length : Int) < (l.length : Int) := by omega
      have hH2 : goneOf l = H := by rw [← hH, List.take_length]
      rw [hH] at hown hHl ⊢
      have HS := Lib.hid (sortKs13 _ H w.heap.size wr hown hHl)
      have B8 := Lib.hid hb
      have O8 := Lib.hid hown
      have HH := Lib.hid hH2
      clear hown hb hlt hH hHl hH2
      go_wp2_with fail
      with_reducible refine Calls.mono HS.out ?_
      rintro r w9 ⟨rfl, ⟨N, hown9, hpN, hsN⟩, hg9⟩
      have hc := HCo.out w9 _ _ _ N hown9 (by rw [HH.out]; exact hpN) hsN
      have HC9 := Lib.hid hc
      have B9 := Lib.hid (show Below w.heap.size w w9 from B8.out.grown hg9 B8.out.size (fun m e => (O8.out.block m e).1))
      have O9 := Lib.hid hown9
      clear hown9 hpN hsN hg9 hc
      go_wp2_with fail
      with_reducible refine Calls.mono HC9.out ?_
      rintro r w10 ⟨⟨v, rfl, hown10⟩, hg10⟩
      have B10 := Lib.hid (show Below w.heap.size w w10 from B9.out.grown hg10 B9.out.size (fun m e => (O9.out.block m e).1))
      obtain ⟨Av, cv, hv⟩ := hown10.shape
      subst hv
      have O10 := Lib.hid hown10
      clear hown10 hg10
      go_wp2
      go_ret
      exact ⟨⟨_, rfl, O10.out⟩, B10.out⟩
theorem SuGone_one (A : Option Addr) (c : Nat) (l : List Lsa) (w : World) (B : Nat) (h : RowsAt 9 Lsa.cells w B A l) (hB : B ≤ w.heap.size) (hm : l.length ≤ 2 ^ 20) (nn : Nat) (hnn : nn = l.length) (h1 : (goneOf l).length < 2) :
    Calls Tryz.prog 14 #[.slice A nn c] w fun r w' => (∃ v, r = .returned v ∧ OwnR 69 3 K3.cells w' w.heap.size v (goneOf l)) ∧ Below w.heap.size w w' := by
  refine SuGone_any A c l w B h hB hm nn hnn (goneOf l) (fun W A n c N hown hp hs => ?_)
  have hl := hp.length_eq
  have hN : N = goneOf l := by
    cases hg : goneOf l with
    | nil => rw [hg] at hp; exact List.perm_nil.1 hp
    | cons a t =>
      cases t with
      | nil => rw [hg] at hp; exact List.perm_singleton.1 hp
      | cons b t => rw [hg] at h1; simp at h1; omega
  subst hN
  have hn : n = (goneOf l).length := by obtain ⟨A2, c2, hv⟩ := hown.shape; injection hv
  refine (compact1 A c n (by omega) W).mono ?_
  rintro r W' ⟨rfl, rfl⟩
  exact ⟨⟨_, rfl, hown⟩, World.grownBy.refl _ _⟩

end Go.Proofs.YtpnbibokddhheaaGreat

/-
  Layer 13: the example that each law asks first.
-/
namespace Go.Proofs.YtpnbibokddhheaaGreat
open Go.RowKit Go.Sort

def xa13 : Lsa := ⟨⟨0, 1, 1, 1, 0, 0, 0⟩, none, 0, [], none, 0, []⟩
def xb13 : Lsa := ⟨⟨60, 1, 2, 2, 0, 0, 0⟩, none, 0, [], none, 0, []⟩
theorem rows_of_blkX {w : World} {g B : Nat} {t : TypeId} {L : List Lsa} (h : Blk w g t (L.flatMap Lsa.cells).toArray) (hB : g < B) : RowsAt 9 Lsa.cells w B (some ⟨g, 0, none⟩) L := by
  intro _
  refine ⟨g, 0, rfl, hB, fun k hk i u hi hu => ?_⟩
  rw [show 0 + k * 9 + i = k * 9 + i by omega, h.cell, List.getElem?_toArray, flatR Lsa.cells 9 (fun _ => rfl) L k i hk hi]
  exact hu
theorem row_hd13 {w : World} {B : Nat} {A : Option Addr} {x : Hd} (h : RowsAt 7 Hd.cells w B A [x]) : ∃ b o, A = some ⟨b, o, none⟩ ∧ b < B ∧ w.cell? ⟨b, o, none⟩ = some (.int .i64 x.age) ∧ w.cell? ⟨b, o + 1, none⟩ = some (.int .i64 x.kind) ∧ w.cell? ⟨b, o + 2, none⟩ = some (.int .i64 x.id) ∧ w.cell? ⟨b, o + 3, none⟩ = some (.int .i64 x.adv) ∧ w.cell? ⟨b, o + 4, none⟩ = some (.int .i64 x.seq) ∧ w.cell? ⟨b, o + 5, none⟩ = some (.int .i64 x.sum) ∧ w.cell? ⟨b, o + 6, none⟩ = some (.int .i64 x.long) := by
  obtain ⟨b, o, e, hb, hc⟩ := h (by simp)
  have h0 := fun i u hi hu => hc 0 (by simp) i u hi hu
  simp only [List.getElem_cons_zero, Nat.zero_mul, Nat.add_zero] at h0
  exact ⟨b, o, e, hb, h0 0 _ (by omega) rfl, h0 1 _ (by omega) rfl, h0 2 _ (by omega) rfl, h0 3 _ (by omega) rfl, h0 4 _ (by omega) rfl, h0 5 _ (by omega) rfl, h0 6 _ (by omega) rfl⟩
theorem ba_cells : ([xb13, xa13].flatMap Lsa.cells).toArray = #[.int .i64 60, .int .i64 1, .int .i64 2, .int .i64 2, .int .i64 0, .int .i64 0, .int .i64 0, .slice none 0 0, .slice none 0 0, .int .i64 0, .int .i64 1, .int .i64 1, .int .i64 1, .int .i64 0, .int .i64 0, .int .i64 0, .slice none 0 0, .slice none 0 0] := rfl
theorem ab_cells : ([xa13, xb13].flatMap Lsa.cells).toArray = #[.int .i64 0, .int .i64 1, .int .i64 1, .int .i64 1, .int .i64 0, .int .i64 0, .int .i64 0, .slice none 0 0, .slice none 0 0, .int .i64 60, .int .i64 1, .int .i64 2, .int .i64 2, .int .i64 0, .int .i64 0, .int .i64 0, .slice none 0 0, .slice none 0 0] := rfl
theorem ba_heads : headsOf [xb13, xa13] = [⟨0, 1, 1, 1, 0, 0, 0⟩] := by decide
theorem ab_gone : goneOf [xa13, xb13] = [⟨1, 2, 2⟩] := by decide
theorem new13 (W : World) : Calls Tryz.prog 18 #[.slice (some ⟨W.heap.size, 0, none⟩) 2 2] (W.alloc (.cells #[.int .i64 60, .int .i64 1, .int .i64 2, .int .i64 2, .int .i64 0, .int .i64 0, .int .i64 0, .slice none 0 0, .slice none 0 0, .int .i64 0, .int .i64 1, .int .i64 1, .int .i64 1, .int .i64 0, .int .i64 0, .int .i64 0, .slice none 0 0, .slice none 0 0] 31)) fun r w' => r = .returned (.pointer (some ⟨W.heap.size + 1, 0, none⟩)) ∧ (∃ v, SmAt w' (W.heap.size + 1) v 0 [⟨0, 1, 1, 1, 0, 0, 0⟩]) ∧ Below (W.heap.size + 1) (W.alloc (.cells #[.int .i64 60, .int .i64 1, .int .i64 2, .int .i64 2, .int .i64 0, .int .i64 0, .int .i64 0, .slice none 0 0, .slice none 0 0, .int .i64 0, .int .i64 1, .int .i64 1, .int .i64 1, .int .i64 0, .int .i64 0, .int .i64 0, .slice none 0 0, .slice none 0 0] 31)) w' := by
  have hk := Blk.new W 31 #[.int .i64 60, .int .i64 1, .int .i64 2, .int .i64 2, .int .i64 0, .int .i64 0, .int .i64 0, .slice none 0 0, .slice none 0 0, .int .i64 0, .int .i64 1, .int .i64 1, .int .i64 1, .int .i64 0, .int .i64 0, .int .i64 0, .slice none 0 0, .slice none 0 0]
  rw [← ba_cells] at hk ⊢
  have hsz : (W.alloc (.cells ([xb13, xa13].flatMap Lsa.cells).toArray 31)).heap.size = W.heap.size + 1 := by simp
  have h := SuNew_any (some ⟨W.heap.size, 0, none⟩) 2 [xb13, xa13] _ _ (rows_of_blkX hk (B := W.heap.size + 1) (by omega)) (by omega) (by decide) 2 rfl [⟨0, 1, 1, 1, 0, 0, 0⟩] (fun W' v hown => by
    rw [ba_heads] at hown
    obtain ⟨A7, c7, hv⟩ := hown.shape
    subst hv
    refine (sortStable1 A7 c7 _ W').mono ?_
    rintro r w' ⟨rfl, rfl⟩
    exact ⟨rfl, hown, World.grownBy.refl _ _⟩)
  rw [hsz] at h
  exact h
theorem gone13 (W : World) : Calls Tryz.prog 14 #[.slice (some ⟨W.heap.size, 0, none⟩) 2 2] (W.alloc (.cells #[.int .i64 0, .int .i64 1, .int .i64 1, .int .i64 1, .int .i64 0, .int .i64 0, .int .i64 0, .slice none 0 0, .slice none 0 0, .int .i64 60, .int .i64 1, .int .i64 2, .int .i64 2, .int .i64 0, .int .i64 0, .int .i64 0, .slice none 0 0, .slice none 0 0] 31)) fun r w' => (∃ A c, r = .returned (.slice A 1 c)) ∧ Below (W.heap.size + 1) (W.alloc (.cells #[.int .i64 0, .int .i64 1, .int .i64 1, .int .i64 1, .int .i64 0, .int .i64 0, .int .i64 0, .slice none 0 0, .slice none 0 0, .int .i64 60, .int .i64 1, .int .i64 2, .int .i64 2, .int .i64 0, .int .i64 0, .int .i64 0, .slice none 0 0, .slice none 0 0] 31)) w' := by
  have hk := Blk.new W 31 #[.int .i64 0, .int .i64 1, .int .i64 1, .int .i64 1, .int .i64 0, .int .i64 0, .int .i64 0, .slice none 0 0, .slice none 0 0, .int .i64 60, .int .i64 1, .int .i64 2, .int .i64 2, .int .i64 0, .int .i64 0, .int .i64 0, .slice none 0 0, .slice none 0 0]
  rw [← ab_cells] at hk ⊢
  have hsz : (W.alloc (.cells ([xa13, xb13].flatMap Lsa.cells).toArray 31)).heap.size = W.heap.size + 1 := by simp
  have h := SuGone_one (some ⟨W.heap.size, 0, none⟩) 2 [xa13, xb13] _ _ (rows_of_blkX hk (B := W.heap.size + 1) (by omega)) (by omega) (by decide) 2 rfl (by rw [ab_gone]; decide)
  rw [hsz] at h
  refine h.mono ?_
  rintro r w' ⟨⟨v, rfl, hown⟩, hb⟩
  rw [ab_gone] at hown
  obtain ⟨A7, c7, hv⟩ := hown.shape
  exact ⟨⟨A7, c7, by rw [hv]; rfl⟩, hb⟩
theorem eqHead13 (w : World) : (Op.equalIn 10000 27 (.agg #[.int .i64 0, .int .i64 1, .int .i64 1, .int .i64 1, .int .i64 0, .int .i64 0, .int .i64 0]) (.agg #[.int .i64 0, .int .i64 1, .int .i64 1, .int .i64 1, .int .i64 0, .int .i64 0, .int .i64 0])).run Tryz.prog w = .ok true w := by kernel_rfl
set_option maxHeartbeats 4000000 in
set_option maxRecDepth 100000 in
theorem wakes13 (w : World) : Calls Tryz.prog 10 #[] w fun r w' => r = .returned (.bool true) ∧ Below w.heap.size w w' := by
  go_enter Tryz.func10, Tryz.ntmps10
  go_upto_region 2 with fail
  obtain ⟨w2, hw2⟩ : ∃ w2, (w.alloc (.cells #[.int .i64 0, .int .i64 1, .int .i64 1, .int .i64 1, .int .i64 0, .int .i64 0, .int .i64 0, .slice none 0 0, .slice none 0 0] 31)).alloc (.cells #[.int .i64 60, .int .i64 1, .int .i64 2, .int .i64 2, .int .i64 0, .int .i64 0, .int .i64 0, .slice none 0 0, .slice none 0 0] 31) = w2 := ⟨_, rfl⟩
  have ha : Blk w2 w.heap.size 31 #[.int .i64 0, .int .i64 1, .int .i64 1, .int .i64 1, .int .i64 0, .int .i64 0, .int .i64 0, .slice none 0 0, .slice none 0 0] := by rw [← hw2]; exact (Blk.new _ _ _).alloc _
  have hb : Blk w2 (w.heap.size + 1) 31 #[.int .i64 60, .int .i64 1, .int .i64 2, .int .i64 2, .int .i64 0, .int .i64 0, .int .i64 0, .slice none 0 0, .slice none 0 0] := by rw [← hw2]; exact Blk.size (by simp)
  have hb2 : Below w.heap.size w w2 := by rw [← hw2]; exact ((Below.refl _ _).alloc (Nat.le_refl _) _).alloc (by simp) _
  rw [hw2]
  have Ha := Lib.hid ha
  have Hb := Lib.hid hb
  have Hb2 := Lib.hid hb2
  obtain ⟨z0, z1, z2, z3, z4, z5, z6, z7, z8, zf⟩ := blk9 ha
  obtain ⟨y0, y1, y2, y3, y4, y5, y6, y7, y8, yf⟩ := blk9 hb
  clear ha hb hb2 hw2
  go_wp2_with fail
  with_reducible refine Calls.mono (new13 _) ?_
  rintro r w3 ⟨rfl, ⟨v, hsm⟩, hb3⟩
  have hb3' : Below w2.heap.size w2 w3 := (below_new w2 _).trans (hb3.mono (by omega))
  have HP := Lib.hid (SuPiece_one _ v _ w3 hsm)
  have Ha3 := Lib.hid (Ha.out.below hb3' Ha.out.lt)
  have Hb33 := Lib.hid (Hb.out.below hb3' Hb.out.lt)
  have Hw3 := Lib.hid (below_trans Hb2.out Hb2.out.size hb3')
  clear hsm hb3 hb3' z0 z1 z2 z3 z4 z5 z6 z7 z8 zf y0 y1 y2 y3 y4 y5 y6 y7 y8 yf
  go_wp2_with fail
  with_reducible refine Calls.mono HP.out ?_
  rintro r w4 ⟨⟨u, rfl, hu⟩, hb4⟩
  obtain ⟨g, cap, hc, hv⟩ : ∃ g c, 1 ≤ c ∧ u = .slice (some ⟨g, 0, none⟩) 1 c := by
    rcases hu.shape2 with ⟨-, hl⟩ | ⟨g, c5, rfl, hc5⟩
    · cases hl
    · exact ⟨g, c5, hc5, rfl⟩
  subst hv
  obtain ⟨g', o', e, -, x0, x1, x2, x3, x4, x5, x6⟩ := row_hd13 (OwnR.rows (C := 7) (cells := Hd.cells) (fun _ => rfl) hu).2
  injection e with e
  injection e with e1 e2
  subst e1 e2
  obtain ⟨z0, z1, z2, z3, z4, z5, z6, z7, z8, zf⟩ := blk9 (Ha3.out.below hb4 Ha3.out.lt)
  obtain ⟨y0, y1, y2, y3, y4, y5, y6, y7, y8, yf⟩ := blk9 (Hb33.out.below hb4 Hb33.out.lt)
  have Hw4 := Lib.hid (below_trans Hw3.out Hw3.out.size hb4)
  have he := eqHead13
  clear hu hb4 hc
  go_wp2_with fail
  refine wp_drew_tail 14 (by kernel_rfl) (by kernel_rfl) ?_
  simp only [List.take_succ_cons, List.take_zero, List.drop_succ_cons, List.drop_zero]
  repeat (go_big_quiet_step (fail))
  refine wpQuiet_nil ?_
  rintro w5 ⟨dq, rfl⟩
  have Hw5 := Lib.hid (below_drewN Hw4.out dq)
  go_wp2_with fail
  with_reducible refine Calls.mono (gone13 _) ?_
  rintro r w6 ⟨⟨A6, c6, rfl⟩, hb6⟩
  have Hw6 := Lib.hid (below_trans Hw5.out Hw5.out.size ((below_new _ _).trans (hb6.mono (by omega))))
  clear hb6
  go_wp2
  go_ret
  exact ⟨rfl, Hw6.out⟩

end Go.Proofs.YtpnbibokddhheaaGreat

/-
  Layer 13: what a database that is not there lacks of a head.
-/
namespace Go.Proofs.YtpnbibokddhheaaGreat
open Go.RowKit Go.Sort

theorem zeroI13 (w : World) : (zeroValue 3).run Tryz.prog w = .ok (.int .i64 0) w := by kernel_rfl
set_option maxRecDepth 100000 in
theorem GetNil (k1 k2 k3 : Int) (w : World) : Calls Tryz.prog 22 #[.pointer none, .agg #[.int .i64 k1, .int .i64 k2, .int .i64 k3]] w fun r w' => (∃ u1 u2 u3 u4 u5 u6 u7 Aa nl ca Ab nm cb, r = .returned (.tuple #[.agg #[.int .i64 u1, .int .i64 u2, .int .i64 u3, .int .i64 u4, .int .i64 u5, .int .i64 u6, .int .i64 u7, .slice Aa nl ca, .slice Ab nm cb], .bool false])) ∧ Below w.heap.size w w' := by
  go_enter Tryz.func22, Tryz.ntmps22
  go_wp2
  refine bodyPost_ret (v := .tuple #[.agg #[.int .i64 0, .int .i64 0, .int .i64 0, .int .i64 0, .int .i64 0, .int .i64 0, .int .i64 0, .slice none 0 0, .slice none 0 0], .bool false]) (by simp [results, Tryz.results22, go_sem]) rfl ⟨⟨_, _, _, _, _, _, _, _, _, _, _, _, _, rfl⟩, ?_⟩
  exact ((Below.refl _ _).alloc (Nat.le_refl _) _).alloc (by simp) _
theorem blk7n {w : World} {g : Nat} {t : TypeId} {a b c d e f x : Value} (h : Blk w g t #[a, b, c, d, e, f, x]) : w.cell? ⟨g, 0, none⟩ = some a ∧ w.cell? ⟨g, 1, none⟩ = some b ∧ w.cell? ⟨g, 2, none⟩ = some c ∧ w.cell? ⟨g, 3, none⟩ = some d ∧ w.cell? ⟨g, 4, none⟩ = some e ∧ w.cell? ⟨g, 5, none⟩ = some f ∧ w.cell? ⟨g, 6, none⟩ = some x :=
  ⟨h.cell 0, h.cell 1, h.cell 2, h.cell 3, h.cell 4, h.cell 5, h.cell 6⟩
theorem blk3n {w : World} {g : Nat} {t : TypeId} {a b c : Value} (h : Blk w g t #[a, b, c]) : w.cell? ⟨g, 0, none⟩ = some a ∧ w.cell? ⟨g, 1, none⟩ = some b ∧ w.cell? ⟨g, 2, none⟩ = some c := ⟨h.cell 0, h.cell 1, h.cell 2⟩
set_option maxHeartbeats 8000000 in
set_option maxRecDepth 100000 in
theorem Lacks_one (g : Nat) (y1 y2 y3 y4 y5 y6 y7 : Int) (w : World) (hk : Blk w g 27 #[.int .i64 y1, .int .i64 y2, .int .i64 y3, .int .i64 y4, .int .i64 y5, .int .i64 y6, .int .i64 y7]) :
    Calls Tryz.prog 21 #[.pointer none, .slice (some ⟨g, 0, none⟩) 1 1] w fun r w' => (∃ v, r = .returned v ∧ OwnR 27 7 Hd.cells w' w.heap.size v [⟨y1, y2, y3, y4, y5, y6, y7⟩]) ∧ Below w.heap.size w w' := by
  have HK := Lib.hid hk
  have hg := hk.lt
  obtain ⟨b, hb⟩ : ∃ b, w.heap.size = b := ⟨_, rfl⟩
  have hmm := @run_makeMap Tryz.prog
  have HM0 := Lib.hid (MapAt.new (enc := K3.enc) w)
  clear hk
  go_enter Tryz.func21, Tryz.ntmps21
  go_wp2
  clear hmm
  go_loopw [5, 17] (fun v i wr => ((i = .int .i64 0 ∧ v = .slice none 0 0 ∧ MapAt K3.enc wr b []) ∨ (i = .int .i64 1 ∧ OwnR 27 7 Hd.cells wr w.heap.size v [⟨y1, y2, y3, y4, y5, y6, y7⟩])) ∧ Below w.heap.size w wr) (fun _ i _ => 1 - (intOf i).toNat)
  case atStart => exact ⟨.inl ⟨rfl, rfl, by rw [← hb]; exact HM0.out⟩, (Below.refl _ _).alloc (Nat.le_refl _) _⟩
  case round =>
    obtain ⟨⟨rfl, rfl, hm⟩ | ⟨rfl, hown⟩, hbel⟩ := hrel
    · obtain ⟨x0, x1, x2, x3, x4, x5, x6⟩ := blk7n (HK.out.below hbel hg)
      obtain ⟨w8, hw8⟩ : ∃ w8, wr.alloc (.cells #[.int .i64 y1, .int .i64 y2, .int .i64 y3, .int .i64 y4, .int .i64 y5, .int .i64 y6, .int .i64 y7] 27) = w8 := ⟨_, rfl⟩
      obtain ⟨g8, hg8⟩ : ∃ g8, wr.heap.size = g8 := ⟨_, rfl⟩
      have hk8 := Blk.new wr 27 #[.int .i64 y1, .int .i64 y2, .int .i64 y3, .int .i64 y4, .int .i64 y5, .int .i64 y6, .int .i64 y7]
      have hb8 := below_new wr (.cells #[.int .i64 y1, .int .i64 y2, .int .i64 y3, .int .i64 y4, .int .i64 y5, .int .i64 y6, .int .i64 y7] 27)
      rw [hw8, hg8] at hk8
      rw [hw8] at hb8
      have K8 := Lib.hid hk8
      have M8 := Lib.hid (hm.below hb8 hm.lt)
      have B8 := Lib.hid (below_trans hbel hbel.size hb8)
      have HBg := Lib.hid (show g8 ≠ b by have := hm.lt; omega)
      obtain ⟨z0, z1, z2, z3, z4, z5, z6⟩ := blk7n hk8
      clear hk8 hb8 hm hbel
      go_wp2_with fail
      with_reducible refine Calls.mono (keyOf_any _ _ _ _ _ _ _ _) ?_
      rintro r w9 ⟨rfl, hb9⟩
      obtain ⟨w10, hw10⟩ : ∃ w10, w9.alloc (.cells #[.int .i64 y2, .int .i64 y3, .int .i64 y4] 69) = w10 := ⟨_, rfl⟩
      obtain ⟨g10, hg10⟩ : ∃ g10, w9.heap.size = g10 := ⟨_, rfl⟩
      have hk10 := Blk.new w9 69 #[.int .i64 y2, .int .i64 y3, .int .i64 y4]
      have hb10 := below_new w9 (.cells #[.int .i64 y2, .int .i64 y3, .int .i64 y4] 69)
      rw [hw10, hg10] at hk10
      rw [hw10] at hb10
      have hb9' := below_trans B8.out B8.out.size hb9
      have K10 := Lib.hid hk10
      have H10 := Lib.hid ((K8.out.below hb9 K8.out.lt).below hb10 (Nat.lt_of_lt_of_le K8.out.lt hb9.size))
      have M10 := Lib.hid ((M8.out.below hb9 M8.out.lt).below hb10 (Nat.lt_of_lt_of_le M8.out.lt hb9.size))
      have B10 := Lib.hid (below_trans hb9' hb9'.size hb10)
      obtain ⟨q0, q1, q2⟩ := blk3n hk10
      clear hk10 hb10 hb9 hb9' z0 z1 z2 z3 z4 z5 z6
      go_wp2_with fail
      with_reducible refine Calls.mono (GetNil _ _ _ _) ?_
      rintro r w11 ⟨⟨u1, u2, u3, u4, u5, u6, u7, Aa, nl, ca, Ab, nm, cb, rfl⟩, hb11⟩
      obtain ⟨w12, hw12⟩ : ∃ w12, w11.alloc (.cells #[.int .i64 u1, .int .i64 u2, .int .i64 u3, .int .i64 u4, .int .i64 u5, .int .i64 u6, .int .i64 u7, .slice Aa nl ca, .slice Ab nm cb] 31) = w12 := ⟨_, rfl⟩
      have hb12 := below_new w11 (.cells #[.int .i64 u1, .int .i64 u2, .int .i64 u3, .int .i64 u4, .int .i64 u5, .int .i64 u6, .int .i64 u7, .slice Aa nl ca, .slice Ab nm cb] 31)
      rw [hw12] at hb12
      have hb12' : Below w10.heap.size w10 w12 := below_trans hb11 hb11.size hb12
      have K12 := Lib.hid (K10.out.below hb12' K10.out.lt)
      have H12 := Lib.hid (H10.out.below hb12' H10.out.lt)
      have hm12 := M10.out.below hb12' M10.out.lt
      have M12 := Lib.hid hm12
      have B12 := Lib.hid (below_trans B10.out B10.out.size hb12')
      have hl := hm12.look_run keyK3 Tryz.underlying122 (zeroI13 _) ⟨y2, y3, y4⟩ true
      simp only [if_true, K3.enc, getL, Option.getD, Option.isSome] at hl
      obtain ⟨q0, q1, q2⟩ := blk3n K12.out
      obtain ⟨z0, z1, z2, z3, z4, z5, z6⟩ := blk7n H12.out
      clear hb11 hb12 hb12' hm12
      go_wp2_with (first
        | (at_mapUpdate; (refine wpList_update_st _ (by rfl) _ _ _ 122 (by rfl) 69 3 keyK3 Tryz.underlying122 (by rfl) M12.out ⟨y2, y3, y4⟩ (by rfl) (.int .i64 0) (by rfl) ?_); intro w13 hm13 hg13 hs13; have hb13 : Below w.heap.size w w13 := B12.out.grown hg13 B12.out.size (fun k e => by injection e with e; omega); have H13 := Lib.hid (H12.out.grown hg13 (fun e => HBg.out (by injection e))); have B13 := Lib.hid hb13; clear hm13 hg13 hs13 hb13; obtain ⟨s0, s1, s2, s3, s4, s5, s6⟩ := blk7n H13.out)
        | (at_builtin; (refine app_row Hd.cells (fun _ => rfl) (by decide) (bytes := 56) (by decide) infoHd13 rfl Tryz.underlying58 onesHd13 (by rfl) _ _ (by rfl) w.heap.size _ [] (by rfl) (OwnR.nil _ _) w13.heap.size ⟨y1, y2, y3, y4, y5, y6, y7⟩ (by rfl) (Blk.new _ _ _) (by simp) (by have := B13.out.size; simp; omega) ?_); intro v14 w14 hown14 hg14 hor14; have O14 := Lib.hid hown14; have B14 := Lib.hid (show Below w.heap.size w w14 from (B13.out.alloc B13.out.size _).grown hg14 (by have := B13.out.size; simp; omega) (fun m e => by cases e)); clear hown14 hg14 hor14)
        | fail)
      go_roundw
      case measure => simp [intOf]
      case rel => exact ⟨.inr ⟨rfl, O14.out⟩, B14.out⟩
    · obtain ⟨A5, c5, hv5⟩ := hown.shape
      subst hv5
      have O5 := Lib.hid hown
      have B5 := Lib.hid hbel
      clear hown hbel
      go_wp2
      go_ret
      exact ⟨⟨_, rfl, O5.out⟩, B5.out⟩

end Go.Proofs.YtpnbibokddhheaaGreat

/-
  Layer 13: what a database lacks of heads: the program's way.
-/
namespace Go.Proofs.YtpnbibokddhheaaGreat
open Go.RowKit Go.Sort

set_option maxHeartbeats 8000000 in
set_option maxRecDepth 100000 in
theorem Lacks_any (p bd : Nat) (room : Int) (M : List Lsa) (A : Option Addr) (c : Nat) (hs : List Hd) (w : World) (B : Nat) (hdb : DbAt w p bd room M) (hag : ages13 M) (hR : RowsAt 7 Hd.cells w B A hs) (hB : B ≤ w.heap.size) (hm : hs.length ≤ 2 ^ 20) (hha : agesH hs) (nn : Nat) (hnn : nn = hs.length) :
    Calls Tryz.prog 21 #[.pointer (some ⟨p, 0, none⟩), .slice A nn c] w fun r w' => (∃ v, r = .returned v ∧ OwnR 27 7 Hd.cells w' w.heap.size v (lackAll M hs)) ∧ Below w.heap.size w w' := by
  subst hnn
  have HDb := Lib.hid hdb
  have HAg := Lib.hid hag
  have HR := Lib.hid hR
  have HHa := Lib.hid hha
  have hm' : (hs.length : Int) ≤ 9223372036854775807 := by omega
  obtain ⟨b, hb⟩ : ∃ b, w.heap.size = b := ⟨_, rfl⟩
  have Hbw := Lib.hid (show b = w.heap.size from hb.symm)
  have hmm := @run_makeMap Tryz.prog
  have HM0 := Lib.hid (MapAt.new (enc := K3.enc) w)
  clear hdb hag hR hha
  go_enter Tryz.func21, Tryz.ntmps21
  go_wp2
  clear hmm hb
  go_loopw [5, 17] (fun v i wr => ∃ (k : Nat) (S : List (K3 × Value)), i = .int .i64 k ∧ k ≤ hs.length ∧ OwnR 27 7 Hd.cells wr (w.heap.size + 1) v (lackAll M (hs.take k)) ∧ MapAt K3.enc wr b S ∧ AtIs S (lackAll M (hs.take k)) ∧ Below w.heap.size w wr) (fun _ i _ => hs.length - (intOf i).toNat)
  case atStart => exact ⟨0, [], rfl, Nat.zero_le _, OwnR.nil _ _, by rw [Hbw.out]; exact HM0.out, AtIs.nil, (Below.refl _ _).alloc (Nat.le_refl _) _⟩
  case round =>
    obtain ⟨k, S, rfl, hk, hown, hmap, hat, hbel⟩ := hrel
    obtain ⟨A7, c7, hv7⟩ := hown.shape
    subst hv7
    by_cases hlt : k < hs.length
    · obtain ⟨g, o, hA, -, x0, x1, x2, x3, x4, x5, x6⟩ := row_hd7 (HR.out.below (hbel.mono hB)) k hlt
      have hya := HHa.out hs[k] (List.getElem_mem hlt)
      have hkl : (k : Int) < (hs.length : Int) := by omega
      have hmore := lack_more M hlt
      have hta : agesH (hs.take k) := fun x hx => HHa.out x (List.mem_of_mem_take hx)
      have hoa := lack_ages (M := M) hta
      have hol : (lackAll M (hs.take k)).length ≤ 2 ^ 20 := Nat.le_trans (lack_len hta) (by rw [List.length_take]; omega)
      have HA := Lib.hid hA
      rw [hA]
      have Hlt := Lib.hid hlt
      generalize hs[k] = x at *
      obtain ⟨y1, y2, y3, y4, y5, y6, y7⟩ := x
      simp only at x0 x1 x2 x3 x4 x5 x6 hya
      obtain ⟨O, hO⟩ : ∃ O, lackAll M (hs.take k) = O := ⟨_, rfl⟩
      rw [hO] at hown hat hmore hoa hol ⊢
      have Hmore := Lib.hid hmore
      have HOa := Lib.hid hoa
      have HOl := Lib.hid hol
      have HAt := Lib.hid hat
      have Hya := Lib.hid hya
      obtain ⟨w8, hw8⟩ : ∃ w8, wr.alloc (.cells #[.int .i64 y1, .int .i64 y2, .int .i64 y3, .int .i64 y4, .int .i64 y5, .int .i64 y6, .int .i64 y7] 27) = w8 := ⟨_, rfl⟩
      obtain ⟨g8, hg8⟩ : ∃ g8, wr.heap.size = g8 := ⟨_, rfl⟩
      have hk8 := Blk.new wr 27 #[.int .i64 y1, .int .i64 y2, .int .i64 y3, .int .i64 y4, .int .i64 y5, .int .i64 y6, .int .i64 y7]
      have hb8 := below_new wr (.cells #[.int .i64 y1, .int .i64 y2, .int .i64 y3, .int .i64 y4, .int .i64 y5, .int .i64 y6, .int .i64 y7] 27)
      rw [hw8, hg8] at hk8
      rw [hw8] at hb8
      have K8 := Lib.hid hk8
      have O8 := Lib.hid (hown.below hb8)
      have M8 := Lib.hid (hmap.below hb8 hmap.lt)
      have B8 := Lib.hid (below_trans hbel hbel.size hb8)
      have HBg := Lib.hid (show g8 ≠ b by have := hmap.lt; omega)
      obtain ⟨z0, z1, z2, z3, z4, z5, z6⟩ := blk7n hk8
      clear hk8 hb8 hmap hbel hown hat hmore hoa hol hta hya hA hlt hO hk
      go_wp2_with fail
      with_reducible refine Calls.mono (keyOf_any _ _ _ _ _ _ _ _) ?_
      rintro r w9 ⟨rfl, hb9⟩
      obtain ⟨w10, hw10⟩ : ∃ w10, w9.alloc (.cells #[.int .i64 y2, .int .i64 y3, .int .i64 y4] 69) = w10 := ⟨_, rfl⟩
      obtain ⟨g10, hg10⟩ : ∃ g10, w9.heap.size = g10 := ⟨_, rfl⟩
      have hk10 := Blk.new w9 69 #[.int .i64 y2, .int .i64 y3, .int .i64 y4]
      have hb10 := below_new w9 (.cells #[.int .i64 y2, .int .i64 y3, .int .i64 y4] 69)
      rw [hw10, hg10] at hk10
      rw [hw10] at hb10
      have hb910 := below_trans hb9 hb9.size hb10
      have K10 := Lib.hid hk10
      have H10 := Lib.hid (K8.out.below hb910 K8.out.lt)
      have O10 := Lib.hid (O8.out.below hb910)
      have M10 := Lib.hid (M8.out.below hb910 M8.out.lt)
      have B10 := Lib.hid (below_trans B8.out B8.out.size hb910)
      obtain ⟨q0, q1, q2⟩ := blk3n hk10
      obtain ⟨u, hu⟩ : ∃ u, (getX ⟨y2, y3, y4⟩ M).getD zeroX = u := ⟨_, rfl⟩
      obtain ⟨is, his⟩ : ∃ is, (getX ⟨y2, y3, y4⟩ M).isSome = is := ⟨_, rfl⟩
      obtain ⟨⟨u1, u2, u3, u4, u5, u6, u7⟩, xa, xc, xs, va, vc, vs⟩ := u
      obtain ⟨ul, hul⟩ : ∃ ul, ul = xs.length := ⟨_, rfl⟩
      obtain ⟨um, hum⟩ : ∃ um, um = vs.length := ⟨_, rfl⟩
      have HG := Lib.hid (DbGet p bd room M y2 y3 y4 w10 (HDb.out.keep B10.out) hu his ul um hul hum)
      have Hu := Lib.hid hu
      have His := Lib.hid his
      clear hk10 hb10 hb9 hb910 z0 z1 z2 z3 z4 z5 z6 hu his hul hum
      go_wp2_with fail
      with_reducible refine Calls.mono HG.out ?_
      rintro r w11 ⟨Aa, ca, Ab, cb, rfl, -, -, hb11⟩
      obtain ⟨w12, hw12⟩ : ∃ w12, w11.alloc (.cells #[.int .i64 u1, .int .i64 u2, .int .i64 u3, .int .i64 u4, .int .i64 u5, .int .i64 u6, .int .i64 u7, .slice Aa ul ca, .slice Ab um cb] 31) = w12 := ⟨_, rfl⟩
      obtain ⟨g12, hg12⟩ : ∃ g12, w11.heap.size = g12 := ⟨_, rfl⟩
      have hk12 := Blk.new w11 31 #[.int .i64 u1, .int .i64 u2, .int .i64 u3, .int .i64 u4, .int .i64 u5, .int .i64 u6, .int .i64 u7, .slice Aa ul ca, .slice Ab um cb]
      have hb12 := below_new w11 (.cells #[.int .i64 u1, .int .i64 u2, .int .i64 u3, .int .i64 u4, .int .i64 u5, .int .i64 u6, .int .i64 u7, .slice Aa ul ca, .slice Ab um cb] 31)
      rw [hw12, hg12] at hk12
      rw [hw12] at hb12
      have hb12' : Below w10.heap.size w10 w12 := below_trans hb11 hb11.size hb12
      have K12 := Lib.hid (K10.out.below hb12' K10.out.lt)
      have H12 := Lib.hid (H10.out.below hb12' H10.out.lt)
      have O12 := Lib.hid (O10.out.below hb12')
      have M12 := Lib.hid (M10.out.below hb12' M10.out.lt)
      have B12 := Lib.hid (below_trans B10.out B10.out.size hb12')
      obtain ⟨a0, a1, a2, a3, a4, a5, a6, a7, a8, af⟩ := blk9 hk12
      clear hb11 hb12 hb12' hk12 q0 q1 q2
      cases is with
      | false =>
        have hno : ¬ hasIt M ⟨y1, y2, y3, y4, y5, y6, y7⟩ = true := by
          have := His.out
          unfold hasIt
          cases hg : getX (keyH ⟨y1, y2, y3, y4, y5, y6, y7⟩) M with
          | none => simp
          | some a => rw [show getX ⟨y2, y3, y4⟩ M = some a from hg] at this; cases this
        have HNo := Lib.hid hno
        clear hno a0 a1 a2 a3 a4 a5 a6 a7 a8 af
        obtain ⟨WB, hWB⟩ : ∃ WB, WB = w12 := ⟨_, rfl⟩
        subst hWB
        have KB := K12
        have HB := H12
        have OB := O12
        have MB := M12
        have BB := B12
        have hl0 := MB.out.look_run keyK3 Tryz.underlying122 (zeroI13 _) ⟨y2, y3, y4⟩ true
        rw [HAt.out ⟨y2, y3, y4⟩] at hl0
        obtain ⟨q0, q1, q2⟩ := blk3n KB.out
        obtain ⟨z0, z1, z2, z3, z4, z5, z6⟩ := blk7n HB.out
        rcases placeH_get (k := ⟨y2, y3, y4⟩) (L := O) with ⟨h1, h2⟩ | ⟨j, hj, h1, h2, h3, h4⟩
        · have hput : lackStep M O ⟨y1, y2, y3, y4, y5, y6, y7⟩ = O ++ [⟨y1, y2, y3, y4, y5, y6, y7⟩] := by
            unfold lackStep putIt; rw [if_neg HNo.out, show getH (keyH ⟨y1, y2, y3, y4, y5, y6, y7⟩) O = none from h2]
          simp only [if_true, K3.enc, if_pos h1, Option.getD, Option.isSome] at hl0
          have HP := Lib.hid hput
          have H1 := Lib.hid h1
          clear hput h1 h2
          go_wp2_with (first
            | (at_mapUpdate; (refine wpList_update_st _ (by rfl) _ _ _ 122 (by rfl) 69 3 keyK3 Tryz.underlying122 (by rfl) MB.out ⟨y2, y3, y4⟩ (by rfl) (.int .i64 O.length) (by rfl) ?_); intro w13 hm13 hg13 hs13; have M13 := Lib.hid hm13; have O13 := Lib.hid (OB.out.kept hg13 (.inr (fun e => by have := (OB.out.block _ e).1; have := Hbw.out; omega))); have hb13 : Below w.heap.size w w13 := BB.out.grown hg13 BB.out.size (fun k e => by injection e with e; have := Hbw.out; omega); have H13 := Lib.hid (HB.out.grown hg13 (fun e => HBg.out (by injection e))); have B13 := Lib.hid hb13; clear hm13 hg13 hs13 hb13; obtain ⟨s0, s1, s2, s3, s4, s5, s6⟩ := blk7n H13.out)
            | (at_builtin; (refine app_row Hd.cells (fun _ => rfl) (by decide) (bytes := 56) (by decide) infoHd13 rfl Tryz.underlying58 onesHd13 (by rfl) _ _ (by rfl) (w.heap.size + 1) _ O (by rfl) (O13.out.alloc _) w13.heap.size ⟨y1, y2, y3, y4, y5, y6, y7⟩ (by rfl) (Blk.new _ _ _) (by have := HOl.out; omega) (by have := M13.out.lt; have := Hbw.out; simp; omega) ?_); intro v14 w14 hown14 hg14 hor14; have O14 := Lib.hid hown14; have M14 := Lib.hid ((M13.out.alloc _).grown hg14 (fun e => by have := (O13.out.block _ e.symm).1; have := Hbw.out; omega)); have B14 := Lib.hid (show Below w.heap.size w w14 from (B13.out.alloc B13.out.size _).grown hg14 (by have := B13.out.size; simp; omega) (fun m e => by have := (O13.out.block _ e).1; omega)); clear hown14 hg14 hor14)
            | fail)
          go_roundw
          case measure => have := Hlt.out; simp only [intOf]; omega
          case rel => exact ⟨k + 1, _, by go_num, Hlt.out, by rw [Hmore.out, HP.out]; exact O14.out, M14.out, by rw [Hmore.out, HP.out]; exact HAt.out.snoc ⟨y1, y2, y3, y4, y5, y6, y7⟩ H1.out, B14.out⟩
        · have hj0 : ¬ (j : Int) < 0 := by omega
          have hjl : (j : Int) < (O.length : Int) := by omega
          simp only [if_true, K3.enc, h1, if_neg hj0, Option.getD, Option.isSome] at hl0
          have hput : lackStep M O ⟨y1, y2, y3, y4, y5, y6, y7⟩ = if 0 < newerI ⟨y1, y2, y3, y4, y5, y6, y7⟩ O[j] then O.set j ⟨y1, y2, y3, y4, y5, y6, y7⟩ else O := by
            unfold lackStep putIt; rw [if_neg HNo.out, show getH (keyH ⟨y1, y2, y3, y4, y5, y6, y7⟩) O = some O[j] from h2, h4 ⟨y1, y2, y3, y4, y5, y6, y7⟩ rfl]
          have hoa := HOa.out O[j] (List.getElem_mem hj)
          obtain ⟨g7, c8, hv, e0, e1, e2, e3, e4, e5, e6⟩ := row_own7 OB.out j hj
          injection hv with hA hnn hcc
          subst hA hcc
          have Hj := Lib.hid hj
          have Hkj := Lib.hid h3
          generalize hx : O[j] = x at hput hoa e0 e1 e2 e3 e4 e5 e6
          obtain ⟨x1, x2, x3, x4, x5, x6, x7⟩ := x
          simp only at e0 e1 e2 e3 e4 e5 e6 hoa
          obtain ⟨m2, hm2⟩ : ∃ m, newerI ⟨y1, y2, y3, y4, y5, y6, y7⟩ ⟨x1, x2, x3, x4, x5, x6, x7⟩ = m := ⟨_, rfl⟩
          rw [hm2] at hput
          have HP := Lib.hid hput
          have CN := Lib.hid (fun dd os => Calls.regrown_of (w := WB) (d := dd) (os := os) (newer_any y1 y2 y3 y4 y5 y6 y7 x1 x2 x3 x4 x5 x6 x7 _ Hya.out.1 Hya.out.2 hoa.1 hoa.2 hm2))
          clear hput h1 h2 h3 h4 hx hm2 hoa hnn
          go_upto_region 13 with fail
          have z0 := cell_regrown z0
          have z1 := cell_regrown z1
          have z2 := cell_regrown z2
          have z3 := cell_regrown z3
          have z4 := cell_regrown z4
          have z5 := cell_regrown z5
          have z6 := cell_regrown z6
          have e0 := cell_regrown e0
          have e1 := cell_regrown e1
          have e2 := cell_regrown e2
          have e3 := cell_regrown e3
          have e4 := cell_regrown e4
          have e5 := cell_regrown e5
          have e6 := cell_regrown e6
          refine wp_below_tail 6 (by kernel_rfl) (by kernel_rfl) ?_
          simp only [List.take_succ_cons, List.take_zero, List.drop_succ_cons, List.drop_zero]
          repeat (go_big_quiet_step (exact CN.out _ _))
          refine wpQuiet_nil ?_
          rintro w15 ⟨⟨dq, osq⟩, rfl⟩
          have hb15 := below_regrown WB dq osq
          generalize grow (redrawn WB dq) osq = w15 at *
          have O15 := Lib.hid (OB.out.below hb15)
          have M15 := Lib.hid (MB.out.below hb15 MB.out.lt)
          have B15 := Lib.hid (below_trans BB.out BB.out.size hb15)
          have H15 := Lib.hid (HB.out.below hb15 HB.out.lt)
          clear hb15 z0 z1 z2 z3 z4 z5 z6 e0 e1 e2 e3 e4 e5 e6 q0 q1 q2 hl0 CN
          by_cases hm1 : 0 < m2
          · rw [if_pos hm1] at HP
            have hm1' : m2 > 0 := hm1
            have hfz := fun i => OwnH13.frozen O15.out i
            obtain ⟨z0, z1, z2, z3, z4, z5, z6⟩ := blk7n H15.out
            obtain ⟨g9, c9, hv9, e0, e1, e2, e3, e4, e5, e6⟩ := row_own7 O15.out j Hj.out
            injection hv9 with hA9 hnn9 hcc9
            injection hA9 with hA9
            injection hA9 with hA9
            subst hA9 hcc9
            go_wp2
            go_roundw
            case measure => have := Hlt.out; simp only [intOf]; omega
            case rel => exact ⟨k + 1, _, by go_num, Hlt.out, by rw [Hmore.out, HP.out, show O.length = (O.set j ⟨y1, y2, y3, y4, y5, y6, y7⟩).length by simp]; exact OwnH13.set7 (by simpa using O15.out) (by simp) j Hj.out ⟨y1, y2, y3, y4, y5, y6, y7⟩, M15.out.grown (grown7 _ _ _ _ _ _ _ _ _ _) (fun e => by injection e with e; have := (O15.out.block g7 rfl).1; have := Hbw.out; omega), by rw [Hmore.out, HP.out]; exact HAt.out.set ⟨y1, y2, y3, y4, y5, y6, y7⟩ j Hj.out Hkj.out, below_set7k B15.out (by have := (O15.out.block g7 rfl).1; have := Hbw.out; omega) _ _ _ _ _ _ _ _⟩
          · rw [if_neg hm1] at HP
            have hm1' : ¬ m2 > 0 := hm1
            go_wp2
            go_roundw
            case measure => have := Hlt.out; simp only [intOf]; omega
            case rel => exact ⟨k + 1, _, by go_num, Hlt.out, by rw [Hmore.out, HP.out]; exact O15.out, M15.out, by rw [Hmore.out, HP.out]; exact HAt.out, B15.out⟩
      | true =>
        obtain ⟨m, hm1⟩ : ∃ m, newerI ⟨y1, y2, y3, y4, y5, y6, y7⟩ ⟨u1, u2, u3, u4, u5, u6, u7⟩ = m := ⟨_, rfl⟩
        have hgx : getX (keyH ⟨y1, y2, y3, y4, y5, y6, y7⟩) M = some ⟨⟨u1, u2, u3, u4, u5, u6, u7⟩, xa, xc, xs, va, vc, vs⟩ := by
          have h1 := His.out
          have h2 := Hu.out
          cases hg : getX ⟨y2, y3, y4⟩ M with
          | none => rw [hg] at h1; cases h1
          | some a => rw [hg] at h2; rw [show getX (keyH ⟨y1, y2, y3, y4, y5, y6, y7⟩) M = some a from hg]; exact congrArg some h2
        have hua := HAg.out _ (getX_mem hgx).1
        simp only at hua
        have hhas : hasIt M ⟨y1, y2, y3, y4, y5, y6, y7⟩ = decide (m ≤ 0) := by
          unfold hasIt
          rw [hgx]
          simp only
          rw [hm1]
        obtain ⟨z0, z1, z2, z3, z4, z5, z6⟩ := blk7n H12.out
        have HN := Lib.hid (newer_any y1 y2 y3 y4 y5 y6 y7 u1 u2 u3 u4 u5 u6 u7 w12 Hya.out.1 Hya.out.2 hua.1 hua.2 hm1)
        have Hhas := Lib.hid hhas
        clear hgx hua hhas hm1
        go_wp2_with fail
        with_reducible refine Calls.mono HN.out ?_
        rintro r WB ⟨rfl, hb13⟩
        have KB := Lib.hid (K12.out.below hb13 K12.out.lt)
        have HB := Lib.hid (H12.out.below hb13 H12.out.lt)
        have OB := Lib.hid (O12.out.below hb13)
        have MB := Lib.hid (M12.out.below hb13 M12.out.lt)
        have BB := Lib.hid (below_trans B12.out B12.out.size hb13)
        clear hb13 a0 a1 a2 a3 a4 a5 a6 a7 a8 af z0 z1 z2 z3 z4 z5 z6
        by_cases hm0 : m ≤ 0
        · have HP := Lib.hid (show lackStep M O ⟨y1, y2, y3, y4, y5, y6, y7⟩ = O by unfold lackStep; rw [if_pos (by rw [Hhas.out]; exact decide_eq_true hm0)])
          go_wp2
          go_roundw
          case measure => have := Hlt.out; simp only [intOf]; omega
          case rel => exact ⟨k + 1, _, by go_num, Hlt.out, by rw [Hmore.out, HP.out]; exact OB.out, MB.out, by rw [Hmore.out, HP.out]; exact HAt.out, BB.out⟩
        · have HNo := Lib.hid (show ¬ hasIt M ⟨y1, y2, y3, y4, y5, y6, y7⟩ = true by rw [Hhas.out]; simpa using hm0)
          have hl0 := MB.out.look_run keyK3 Tryz.underlying122 (zeroI13 _) ⟨y2, y3, y4⟩ true
          rw [HAt.out ⟨y2, y3, y4⟩] at hl0
          obtain ⟨q0, q1, q2⟩ := blk3n KB.out
          obtain ⟨z0, z1, z2, z3, z4, z5, z6⟩ := blk7n HB.out
          rcases placeH_get (k := ⟨y2, y3, y4⟩) (L := O) with ⟨h1, h2⟩ | ⟨j, hj, h1, h2, h3, h4⟩
          · have hput : lackStep M O ⟨y1, y2, y3, y4, y5, y6, y7⟩ = O ++ [⟨y1, y2, y3, y4, y5, y6, y7⟩] := by
              unfold lackStep putIt; rw [if_neg HNo.out, show getH (keyH ⟨y1, y2, y3, y4, y5, y6, y7⟩) O = none from h2]
            simp only [if_true, K3.enc, if_pos h1, Option.getD, Option.isSome] at hl0
            have HP := Lib.hid hput
            have H1 := Lib.hid h1
            clear hput h1 h2
            go_wp2_with (first
              | (at_mapUpdate; (refine wpList_update_st _ (by rfl) _ _ _ 122 (by rfl) 69 3 keyK3 Tryz.underlying122 (by rfl) MB.out ⟨y2, y3, y4⟩ (by rfl) (.int .i64 O.length) (by rfl) ?_); intro w13 hm13 hg13 hs13; have M13 := Lib.hid hm13; have O13 := Lib.hid (OB.out.kept hg13 (.inr (fun e => by have := (OB.out.block _ e).1; have := Hbw.out; omega))); have hb13 : Below w.heap.size w w13 := BB.out.grown hg13 BB.out.size (fun k e => by injection e with e; have := Hbw.out; omega); have H13 := Lib.hid (HB.out.grown hg13 (fun e => HBg.out (by injection e))); have B13 := Lib.hid hb13; clear hm13 hg13 hs13 hb13; obtain ⟨s0, s1, s2, s3, s4, s5, s6⟩ := blk7n H13.out)
              | (at_builtin; (refine app_row Hd.cells (fun _ => rfl) (by decide) (bytes := 56) (by decide) infoHd13 rfl Tryz.underlying58 onesHd13 (by rfl) _ _ (by rfl) (w.heap.size + 1) _ O (by rfl) (O13.out.alloc _) w13.heap.size ⟨y1, y2, y3, y4, y5, y6, y7⟩ (by rfl) (Blk.new _ _ _) (by have := HOl.out; omega) (by have := M13.out.lt; have := Hbw.out; simp; omega) ?_); intro v14 w14 hown14 hg14 hor14; have O14 := Lib.hid hown14; have M14 := Lib.hid ((M13.out.alloc _).grown hg14 (fun e => by have := (O13.out.block _ e.symm).1; have := Hbw.out; omega)); have B14 := Lib.hid (show Below w.heap.size w w14 from (B13.out.alloc B13.out.size _).grown hg14 (by have := B13.out.size; simp; omega) (fun m e => by have := (O13.out.block _ e).1; omega)); clear hown14 hg14 hor14)
              | fail)
            go_roundw
            case measure => have := Hlt.out; simp only [intOf]; omega
            case rel => exact ⟨k + 1, _, by go_num, Hlt.out, by rw [Hmore.out, HP.out]; exact O14.out, M14.out, by rw [Hmore.out, HP.out]; exact HAt.out.snoc ⟨y1, y2, y3, y4, y5, y6, y7⟩ H1.out, B14.out⟩
          · have hj0 : ¬ (j : Int) < 0 := by omega
            have hjl : (j : Int) < (O.length : Int) := by omega
            simp only [if_true, K3.enc, h1, if_neg hj0, Option.getD, Option.isSome] at hl0
            have hput : lackStep M O ⟨y1, y2, y3, y4, y5, y6, y7⟩ = if 0 < newerI ⟨y1, y2, y3, y4, y5, y6, y7⟩ O[j] then O.set j ⟨y1, y2, y3, y4, y5, y6, y7⟩ else O := by
              unfold lackStep putIt; rw [if_neg HNo.out, show getH (keyH ⟨y1, y2, y3, y4, y5, y6, y7⟩) O = some O[j] from h2, h4 ⟨y1, y2, y3, y4, y5, y6, y7⟩ rfl]
            have hoa := HOa.out O[j] (List.getElem_mem hj)
            obtain ⟨g7, c8, hv, e0, e1, e2, e3, e4, e5, e6⟩ := row_own7 OB.out j hj
            injection hv with hA hnn hcc
            subst hA hcc
            have Hj := Lib.hid hj
            have Hkj := Lib.hid h3
            generalize hx : O[j] = x at hput hoa e0 e1 e2 e3 e4 e5 e6
            obtain ⟨x1, x2, x3, x4, x5, x6, x7⟩ := x
            simp only at e0 e1 e2 e3 e4 e5 e6 hoa
            obtain ⟨m2, hm2⟩ : ∃ m, newerI ⟨y1, y2, y3, y4, y5, y6, y7⟩ ⟨x1, x2, x3, x4, x5, x6, x7⟩ = m := ⟨_, rfl⟩
            rw [hm2] at hput
            have HP := Lib.hid hput
            have CN := Lib.hid (fun dd os => Calls.regrown_of (w := WB) (d := dd) (os := os) (newer_any y1 y2 y3 y4 y5 y6 y7 x1 x2 x3 x4 x5 x6 x7 _ Hya.out.1 Hya.out.2 hoa.1 hoa.2 hm2))
            clear hput h1 h2 h3 h4 hx hm2 hoa hnn
            go_upto_region 13 with fail
            have z0 := cell_regrown z0
            have z1 := cell_regrown z1
            have z2 := cell_regrown z2
            have z3 := cell_regrown z3
            have z4 := cell_regrown z4
            have z5 := cell_regrown z5
            have z6 := cell_regrown z6
            have e0 := cell_regrown e0
            have e1 := cell_regrown e1
            have e2 := cell_regrown e2
            have e3 := cell_regrown e3
            have e4 := cell_regrown e4
            have e5 := cell_regrown e5
            have e6 := cell_regrown e6
            refine wp_below_tail 6 (by kernel_rfl) (by kernel_rfl) ?_
            simp only [List.take_succ_cons, List.take_zero, List.drop_succ_cons, List.drop_zero]
            repeat (go_big_quiet_step (exact CN.out _ _))
            refine wpQuiet_nil ?_
            rintro w15 ⟨⟨dq, osq⟩, rfl⟩
            have hb15 := below_regrown WB dq osq
            generalize grow (redrawn WB dq) osq = w15 at *
            have O15 := Lib.hid (OB.out.below hb15)
            have M15 := Lib.hid (MB.out.below hb15 MB.out.lt)
            have B15 := Lib.hid (below_trans BB.out BB.out.size hb15)
            have H15 := Lib.hid (HB.out.below hb15 HB.out.lt)
            clear hb15 z0 z1 z2 z3 z4 z5 z6 e0 e1 e2 e3 e4 e5 e6 q0 q1 q2 hl0 CN
            by_cases hm1 : 0 < m2
            · rw [if_pos hm1] at HP
              have hm1' : m2 > 0 := hm1
              have hfz := fun i => OwnH13.frozen O15.out i
              obtain ⟨z0, z1, z2, z3, z4, z5, z6⟩ := blk7n H15.out
              obtain ⟨g9, c9, hv9, e0, e1, e2, e3, e4, e5, e6⟩ := row_own7 O15.out j Hj.out
              injection hv9 with hA9 hnn9 hcc9
              injection hA9 with hA9
              injection hA9 with hA9
              subst hA9 hcc9
              go_wp2
              go_roundw
              case measure => have := Hlt.out; simp only [intOf]; omega
              case rel => exact ⟨k + 1, _, by go_num, Hlt.out, by rw [Hmore.out, HP.out, show O.length = (O.set j ⟨y1, y2, y3, y4, y5, y6, y7⟩).length by simp]; exact OwnH13.set7 (by simpa using O15.out) (by simp) j Hj.out ⟨y1, y2, y3, y4, y5, y6, y7⟩, M15.out.grown (grown7 _ _ _ _ _ _ _ _ _ _) (fun e => by injection e with e; have := (O15.out.block g7 rfl).1; have := Hbw.out; omega), by rw [Hmore.out, HP.out]; exact HAt.out.set ⟨y1, y2, y3, y4, y5, y6, y7⟩ j Hj.out Hkj.out, below_set7k B15.out (by have := (O15.out.block g7 rfl).1; have := Hbw.out; omega) _ _ _ _ _ _ _ _⟩
            · rw [if_neg hm1] at HP
              have hm1' : ¬ m2 > 0 := hm1
              go_wp2
              go_roundw
              case measure => have := Hlt.out; simp only [intOf]; omega
              case rel => exact ⟨k + 1, _, by go_num, Hlt.out, by rw [Hmore.out, HP.out]; exact O15.out, M15.out, by rw [Hmore.out, HP.out]; exact HAt.out, B15.out⟩
    · have hke : k = hs.length := by omega
      subst hke
      have hkl : ¬ (hs.length : Int) < (hs.length : Int) := by omega
      rw [List.take_length] at hown ⊢
      have O5 := Lib.hid hown
      have B5 := Lib.hid hbel
      clear hown hbel hat hmap hlt
      have hS5 : OwnR 27 7 Hd.cells wr w.heap.size (.slice A7 (lackAll M hs).length c7) (lackAll M hs) := O5.out.lower (by omega)
      have S5 := Lib.hid hS5
      clear hS5
      go_wp2
      go_ret
      exact ⟨⟨_, rfl, S5.out⟩, B5.out⟩

end Go.Proofs.YtpnbibokddhheaaGreat

/-
  The library's slices.SortFunc, laid at this program: written by lay-plain.mjs of the kit.
-/
namespace Go.Proofs
open Go.Shelf
def Tryz.sortLsa_ren : Go.Shelf.Ren := ⟨fun | 6 => 43 | 15 => 79 | 14 => 82 | 28 => 118 | 29 => 119 | 20 => 120 | 21 => 121 | 22 => 122 | 23 => 123 | 24 => 124 | 25 => 125 | 26 => 126 | 27 => 127 | 46 => 182 | 47 => 178 | 48 => 179 | 49 => 183 | 50 => 184 | 57 => 212 | n => n, fun | 22 => 22 | 24 => 31 | 25 => 117 | 3 => 3 | 39 => 92 | 0 => 0 | 53 => 213 | 55 => 215 | 4 => 4 | 46 => 207 | 45 => 206 | 50 => 123 | 5 => 5 | 9 => 9 | 66 => 260 | 70 => 264 | 76 => 285 | 77 => 235 | n => n, fun | n => n⟩
theorem Tryz.sortLsa : Go.Proofs.SlLaysF0.n6 Tryz.prog Tryz.sortLsa_ren := {
  mixed := by kernel_rfl
  f6 := ⟨Tryz.f43.name, by decide, Tryz.func43.trans (congrArg some (by kernel_rfl))⟩
  f14 := ⟨Tryz.f82.name, by decide, Tryz.func82.trans (congrArg some (by kernel_rfl))⟩
  f15 := Tryz.func79.trans (congrArg some (by kernel_rfl))
  f20 := ⟨Tryz.f120.name, by decide, Tryz.func120.trans (congrArg some (by kernel_rfl))⟩
  f21 := ⟨Tryz.f121.name, by decide, Tryz.func121.trans (congrArg some (by kernel_rfl))⟩
  f22 := ⟨Tryz.f122.name, by decide, Tryz.func122.trans (congrArg some (by kernel_rfl))⟩
  f23 := ⟨Tryz.f123.name, by decide, Tryz.func123.trans (congrArg some (by kernel_rfl))⟩
  f24 := ⟨Tryz.f124.name, by decide, Tryz.func124.trans (congrArg some (by kernel_rfl))⟩
  f25 := ⟨Tryz.f125.name, by decide, Tryz.func125.trans (congrArg some (by kernel_rfl))⟩
  f26 := ⟨Tryz.f126.name, by decide, Tryz.func126.trans (congrArg some (by kernel_rfl))⟩
  f27 := ⟨Tryz.f127.name, by decide, Tryz.func127.trans (congrArg some (by kernel_rfl))⟩
  f28 := Tryz.func118.trans (congrArg some (by kernel_rfl))
  f29 := Tryz.func119.trans (congrArg some (by kernel_rfl))
  f46 := ⟨Tryz.f182.name, by decide, Tryz.func182.trans (congrArg some (by kernel_rfl))⟩
  f47 := Tryz.func178.trans (congrArg some (by kernel_rfl))
  f48 := Tryz.func179.trans (congrArg some (by kernel_rfl))
  f49 := ⟨Tryz.f183.name, by decide, Tryz.func183.trans (congrArg some (by kernel_rfl))⟩
  f50 := ⟨Tryz.f184.name, by decide, Tryz.func184.trans (congrArg some (by kernel_rfl))⟩
  f57 := ⟨Tryz.f212.name, by decide, Tryz.func212.trans (congrArg some (by kernel_rfl))⟩
  t0 := Tryz.underlying0
  a0 := Tryz.isAgg0
  z0 := Tryz.sizeOf0
  v0 := Tryz.zeroValue0
  t3 := Tryz.underlying3
  a3 := Tryz.isAgg3
  z3 := Tryz.sizeOf3
  v3 := Tryz.zeroValue3
  t4 := Tryz.underlying4
  a4 := Tryz.isAgg4
  z4 := Tryz.sizeOf4
  v4 := Tryz.zeroValue4
  t5 := Tryz.underlying5
  a5 := Tryz.isAgg5
  z5 := Tryz.sizeOf5
  v5 := Tryz.zeroValue5
  t9 := Tryz.underlying9
  a9 := Tryz.isAgg9
  z9 := Tryz.sizeOf9
  v9 := Tryz.zeroValue9
  t22 := Tryz.underlying22
  a22 := Tryz.isAgg22
  z22 := Tryz.sizeOf22
  v22 := Tryz.zeroValue22
  t25 := Tryz.underlying117
  a25 := Tryz.isAgg117
  z25 := Tryz.sizeOf117
  v25 := Tryz.zeroValue117
  t39 := Tryz.underlying92
  a39 := Tryz.isAgg92
  z39 := Tryz.sizeOf92
  v39 := Tryz.zeroValue92
  t45 := Tryz.underlying206
  a45 := Tryz.isAgg206
  z45 := Tryz.sizeOf206
  v45 := Tryz.zeroValue206
  t46 := Tryz.underlying207
  a46 := Tryz.isAgg207
  z46 := Tryz.sizeOf207
  v46 := Tryz.zeroValue207
  t50 := Tryz.underlying123
  a50 := Tryz.isAgg123
  z50 := Tryz.sizeOf123
  v50 := Tryz.zeroValue123
  t53 := Tryz.underlying213
  a53 := Tryz.isAgg213
  z53 := Tryz.sizeOf213
  v53 := Tryz.zeroValue213
  t55 := Tryz.underlying215
  a55 := Tryz.isAgg215
  z55 := Tryz.sizeOf215
  v55 := Tryz.zeroValue215
  t66 := Tryz.underlying260
  a66 := Tryz.isAgg260
  z66 := Tryz.sizeOf260
  v66 := Tryz.zeroValue260
  t70 := Tryz.underlying264
  a70 := Tryz.isAgg264
  z70 := Tryz.sizeOf264
  v70 := Tryz.zeroValue264
  t76 := Tryz.underlying285
  a76 := Tryz.isAgg285
  z76 := Tryz.sizeOf285
  v76 := Tryz.zeroValue285
  t77 := Tryz.underlying235
  a77 := Tryz.isAgg235
  z77 := Tryz.sizeOf235
  v77 := Tryz.zeroValue235 }
end Go.Proofs
