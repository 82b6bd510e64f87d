/-
  A row of structs that a call made itself, behind the library's sort.
-/
import Derived.Shelf.SlSortCmp.NoneTotal
import Derived.Shelf.SlGeneric
import Derived.Ground.SlsfProg
import Derived.Test.YtpnbibokddhheaaProg
import Derived.Test.YtpnbibokddhheaaBaa
import Derived.Test.YtpnbibokddhheaaBae
import Derived.Test.YtpnbibokddhheaaBaf
import Derived.Test.YtpnbibokddhheaaBag
namespace Go.Proofs.Ytpnbibokddhheaa
open Go.RowKit Go.Sort Go.Proofs

section
variable {α : Type} [Inhabited α] {e : TypeId} {C : Nat} {cells : α → List Value} {w : World} {B : Nat} {L : List α}
theorem flatK_list (hC : ∀ x, (cells x).length = C) (M : List α) : (flatK cells C M.toArray).toList = M.flatMap cells := by
  apply List.ext_getElem?
  intro t
  by_cases ht : t < M.length * C
  · have h0 : 0 < C := by
      rcases Nat.eq_zero_or_pos C with h | h
      · subst h; simp at ht
      · exact h
    have hk : t / C < M.length := Nat.div_lt_of_lt_mul (by rw [Nat.mul_comm]; exact ht)
    have hi : t % C < C := Nat.mod_lt _ h0
    have e1 := flatR cells C hC M (t / C) (t % C) hk hi
    rw [show t / C * C + t % C = t by rw [Nat.mul_comm]; exact Nat.div_add_mod t C] at e1
    rw [e1, Array.getElem?_toList]
    have hs : t < (flatK cells C M.toArray).size := by rw [size_flatK]; simpa using ht
    have e2 := get_flatK cells C M.toArray t (by simpa using ht)
    rw [getElem!_pos _ t hs] at e2
    rw [Array.getElem?_eq_getElem hs, e2]
    have e3 : M.toArray[t / C]! = M[t / C] := by simp [hk]
    have e4 : t % C < (cells M[t / C]).length := by rw [hC]; exact hi
    rw [e3, List.getElem?_eq_getElem e4, getElem!_pos (cells M[t / C]) (t % C) e4]
  · rw [List.getElem?_eq_none (by simpa using Nat.le_of_not_lt ht), List.getElem?_eq_none (by rw [flatLenR cells C hC]; omega)]
theorem ownR_holds (hC : ∀ x, (cells x).length = C) {g n cap : Nat} (h : OwnR e C cells w B (.slice (some ⟨g, 0, none⟩) n cap) L) : HoldsK cells C w g 0 L.toArray ∧ g < w.heap.size := by
  rcases h.2 with ⟨hv, -⟩ | ⟨g', cap', cur, hv, hb, hg, hnc, hcm, hcs, ht⟩
  · cases hv
  · simp only [Value.slice.injEq, Option.some.injEq, Addr.mk.injEq, and_true] at hv
    obtain ⟨rfl, rfl, rfl⟩ := hv
    refine ⟨fun j hj => ⟨?_, by simp [World.frozen?, hg]⟩, (Array.getElem?_eq_some_iff.1 hg).1⟩
    have hj' : j < L.length * C := by rw [size_flatK] at hj; simpa using hj
    have h1 : (cur.toList.take (L.length * C))[j]? = (L.flatMap cells)[j]? := by rw [ht]
    rw [List.getElem?_take_of_lt hj', ← flatK_list hC, Array.getElem?_toList, Array.getElem?_toList, Array.getElem?_eq_getElem hj] at h1
    simp only [World.cell?, hg, Nat.zero_add, Option.isSome_none, Bool.false_eq_true, if_false]
    rw [h1, getElem!_pos (flatK cells C L.toArray) j hj]
    rfl
theorem take_put (F cur : Array Value) (h : F.size ≤ cur.size) : (putCells id 0 F cur).toList.take F.size = F.toList := by
  apply List.ext_getElem?
  intro j
  by_cases hj : j < F.size
  · rw [List.getElem?_take_of_lt hj, Array.getElem?_toList, Array.getElem?_toList]
    simp [putCells, hj, show j < cur.size by omega]
  · rw [List.getElem?_take_eq_none (by omega), List.getElem?_eq_none (by simp; omega)]
theorem ownR_sorted (hC : ∀ x, (cells x).length = C) {g n cap m : Nat} {os : Array Obj} {M : List α} (h : OwnR e C cells w B (.slice (some ⟨g, 0, none⟩) n cap) L) (hl : M.length = L.length) :
    OwnR e C cells (sortWorldK cells C w g 0 m M.toArray os) B (.slice (some ⟨g, 0, none⟩) n cap) M ∧ w.grownBy (sortWorldK cells C w g 0 m M.toArray os) (some g) := by
  rcases h.2 with ⟨hv, -⟩ | ⟨g', cap', cur, hv, hb, hg, hnc, hcm, hcs, ht⟩
  · cases hv
  · simp only [Value.slice.injEq, Option.some.injEq, Addr.mk.injEq, and_true] at hv
    obtain ⟨rfl, rfl, rfl⟩ := hv
    have hlt : g < w.heap.size := (Array.getElem?_eq_some_iff.1 hg).1
    have hheap : (sortWorldK cells C w g 0 m M.toArray os).heap[g]? = some (.cells (putCells id 0 (flatK cells C M.toArray) cur) e (0, 0)) := by
      unfold sortWorldK putRowK
      rw [heap_grow_old _ _ (by simpa using hlt)]
      simp [putRow, mapBlock, Sort.ahead, Array.getElem?_modify, hg, onCells]
    have hfs : (flatK cells C M.toArray).size = L.length * C := by rw [size_flatK]; simp [hl]
    refine ⟨⟨?_, .inr ⟨g, cap, _, by rw [hl], hb, hheap, by omega, hcm, by simp [putCells, hcs], ?_⟩⟩, rfl, rfl, rfl, ?_, fun k hk hne => ?_⟩
    · rw [flatLenR cells C hC]
    · rw [← flatK_list hC, hl, ← hfs]
      exact take_put _ _ (by rw [hfs, hcs]; exact Nat.mul_le_mul_right C hnc)
    · unfold sortWorldK putRowK
      simp
    · unfold sortWorldK putRowK
      rw [heap_grow_old _ _ (by simpa using hk)]
      have : g ≠ k := fun e => hne (by rw [e])
      simp [putRow, mapBlock, Sort.ahead, Array.getElem?_modify, this]
end

end Go.Proofs.Ytpnbibokddhheaa

/-
  The library's sort at a row that a call made itself: a permutation, in order.
-/
namespace Go.Proofs.Ytpnbibokddhheaa
open Go.RowKit Go.Sort Go.Proofs Go.Shelf

theorem sort_row {α : Type} [Inhabited α] {ρ : Ren} (LL : SlLaysF0.n6 Try.prog ρ) {C : Nat} (aE : ∀ w, (isAgg (ρ.t 24)).run Try.prog w = .ok true w) (zE : ∀ w, (Go.sizeOf (ρ.t 24)).run Try.prog w = .ok C w) (cells : α → List Value) (hC : ∀ x, (cells x).length = C) (h1 : ∀ x, ∀ v ∈ cells x, v.oneCell' = true)
    (cf : α → α → Int) (hO : SWO (ltOf cf)) (g : Nat) (eg : ∀ xs w, (callFunc g xs).run Try.prog w = .ok (.enter g xs) w)
    (hcmp : ∀ x y w, Calls Try.prog g #[.agg (cells x).toArray, .agg (cells y).toArray] w fun r w' => r = .returned (.int .i64 (cf x y)) ∧ ∃ q os', w' = grow (w.drewN q) os')
    {e : TypeId} (v : Value) (L : List α) (B : Nat) (w : World) (hown : OwnR e C cells w B v L) (hlen : L.length ≤ 2 ^ 20) :
    Calls Try.prog (ρ.f 6) #[v, .func (.func g) #[] #[]] w fun r w' => r = .returned (.tuple #[]) ∧ ∃ M, OwnR e C cells w' B v M ∧ M.Perm L ∧ (M.Pairwise fun x y => ltOf cf y x = false) ∧ w.grownBy w' v.ownBlock := by
  obtain ⟨A, cap, rfl⟩ := hown.shape
  by_cases h0 : L.length = 0
  · have hL : L = [] := List.eq_nil_of_length_eq_zero h0
    subst hL
    refine (AnyF.slices_SortFunc_none { LL with } A cap (.func (.func g) #[] #[]) w).mono ?_
    rintro r w' ⟨rfl, rfl⟩
    exact ⟨rfl, [], hown, List.Perm.refl _, List.Pairwise.nil, World.grownBy.refl _ _⟩
  · rcases hown.2 with ⟨hv, hn⟩ | ⟨g', cap', cur, hv, -⟩
    · omega
    · simp only [Value.slice.injEq, true_and] at hv
      obtain ⟨rfl, rfl⟩ := hv
      obtain ⟨hH, hlt⟩ := ownR_holds (C := C) (cells := cells) hC hown
      have h := AnyQ.slices_SortFunc LL C aE zE cells hC h1 cf hO g #[] g' 0 cap L.toArray w eg (fun m os dk _ x y => hcmp x y _) hH hlt (by simp; omega)
      refine h.mono ?_
      rintro r w' ⟨rfl, d', n, os, ⟨hsz, -, hperm⟩, hs, rfl⟩
      have e1 : d'.extract 0 L.toArray.size = d' := by rw [← hsz]; exact Array.extract_size
      rw [e1, Array.extract_size] at hperm
      have hl : d'.toList.length = L.length := by simpa using hsz
      have := ownR_sorted (C := C) (cells := cells) (m := n) (os := os) (M := d'.toList) hC hown hl
      rw [Array.toArray_toList] at this
      refine ⟨rfl, d'.toList, this.1, by simpa using hperm, ?_, this.2⟩
      rw [List.pairwise_iff_getElem]
      intro i j hi hj hij
      have hi' : i < d'.size := by simpa using hi
      have hj' : j < d'.size := by simpa using hj
      have := hs i j (Nat.zero_le _) hij (by omega)
      rw [getElem!_pos d' j hj', getElem!_pos d' i hi'] at this
      simpa using this

end Go.Proofs.Ytpnbibokddhheaa

/-
  The library's slices.SortFunc, laid at this program: written by lay-plain.mjs of the kit.
-/
namespace Go.Proofs
open Go.Shelf
def Try.sortHead_ren : Go.Shelf.Ren := ⟨fun | 6 => 88 | 15 => 85 | 14 => 111 | 28 => 109 | 29 => 110 | 20 => 93 | 21 => 129 | 22 => 130 | 23 => 131 | 24 => 132 | 25 => 133 | 26 => 134 | 27 => 135 | 46 => 141 | 47 => 125 | 48 => 126 | 49 => 142 | 50 => 143 | 57 => 145 | n => n, fun | 22 => 27 | 24 => 34 | 25 => 87 | 3 => 3 | 39 => 136 | 0 => 0 | 53 => 157 | 55 => 159 | 4 => 4 | 46 => 151 | 45 => 150 | 50 => 103 | 5 => 5 | 9 => 9 | 66 => 169 | 70 => 173 | 76 => 182 | 77 => 166 | n => n, fun | n => n⟩
theorem Try.sortHead : Go.Proofs.SlLaysF0.n6 Try.prog Try.sortHead_ren := {
  mixed := by kernel_rfl
  f6 := ⟨Try.f88.name, by decide, Try.func88.trans (congrArg some (by kernel_rfl))⟩
  f14 := ⟨Try.f111.name, by decide, Try.func111.trans (congrArg some (by kernel_rfl))⟩
  f15 := Try.func85.trans (congrArg some (by kernel_rfl))
  f20 := ⟨Try.f93.name, by decide, Try.func93.trans (congrArg some (by kernel_rfl))⟩
  f21 := ⟨Try.f129.name, by decide, Try.func129.trans (congrArg some (by kernel_rfl))⟩
  f22 := ⟨Try.f130.name, by decide, Try.func130.trans (congrArg some (by kernel_rfl))⟩
  f23 := ⟨Try.f131.name, by decide, Try.func131.trans (congrArg some (by kernel_rfl))⟩
  f24 := ⟨Try.f132.name, by decide, Try.func132.trans (congrArg some (by kernel_rfl))⟩
  f25 := ⟨Try.f133.name, by decide, Try.func133.trans (congrArg some (by kernel_rfl))⟩
  f26 := ⟨Try.f134.name, by decide, Try.func134.trans (congrArg some (by kernel_rfl))⟩
  f27 := ⟨Try.f135.name, by decide, Try.func135.trans (congrArg some (by kernel_rfl))⟩
  f28 := Try.func109.trans (congrArg some (by kernel_rfl))
  f29 := Try.func110.trans (congrArg some (by kernel_rfl))
  f46 := ⟨Try.f141.name, by decide, Try.func141.trans (congrArg some (by kernel_rfl))⟩
  f47 := Try.func125.trans (congrArg some (by kernel_rfl))
  f48 := Try.func126.trans (congrArg some (by kernel_rfl))
  f49 := ⟨Try.f142.name, by decide, Try.func142.trans (congrArg some (by kernel_rfl))⟩
  f50 := ⟨Try.f143.name, by decide, Try.func143.trans (congrArg some (by kernel_rfl))⟩
  f57 := ⟨Try.f145.name, by decide, Try.func145.trans (congrArg some (by kernel_rfl))⟩
  t0 := Try.underlying0
  a0 := Try.isAgg0
  z0 := Try.sizeOf0
  v0 := Try.zeroValue0
  t3 := Try.underlying3
  a3 := Try.isAgg3
  z3 := Try.sizeOf3
  v3 := Try.zeroValue3
  t4 := Try.underlying4
  a4 := Try.isAgg4
  z4 := Try.sizeOf4
  v4 := Try.zeroValue4
  t5 := Try.underlying5
  a5 := Try.isAgg5
  z5 := Try.sizeOf5
  v5 := Try.zeroValue5
  t9 := Try.underlying9
  a9 := Try.isAgg9
  z9 := Try.sizeOf9
  v9 := Try.zeroValue9
  t22 := Try.underlying27
  a22 := Try.isAgg27
  z22 := Try.sizeOf27
  v22 := Try.zeroValue27
  t25 := Try.underlying87
  a25 := Try.isAgg87
  z25 := Try.sizeOf87
  v25 := Try.zeroValue87
  t39 := Try.underlying136
  a39 := Try.isAgg136
  z39 := Try.sizeOf136
  v39 := Try.zeroValue136
  t45 := Try.underlying150
  a45 := Try.isAgg150
  z45 := Try.sizeOf150
  v45 := Try.zeroValue150
  t46 := Try.underlying151
  a46 := Try.isAgg151
  z46 := Try.sizeOf151
  v46 := Try.zeroValue151
  t50 := Try.underlying103
  a50 := Try.isAgg103
  z50 := Try.sizeOf103
  v50 := Try.zeroValue103
  t53 := Try.underlying157
  a53 := Try.isAgg157
  z53 := Try.sizeOf157
  v53 := Try.zeroValue157
  t55 := Try.underlying159
  a55 := Try.isAgg159
  z55 := Try.sizeOf159
  v55 := Try.zeroValue159
  t66 := Try.underlying169
  a66 := Try.isAgg169
  z66 := Try.sizeOf169
  v66 := Try.zeroValue169
  t70 := Try.underlying173
  a70 := Try.isAgg173
  z70 := Try.sizeOf173
  v70 := Try.zeroValue173
  t76 := Try.underlying182
  a76 := Try.isAgg182
  z76 := Try.sizeOf182
  v76 := Try.zeroValue182
  t77 := Try.underlying166
  a77 := Try.isAgg166
  z77 := Try.sizeOf166
  v77 := Try.zeroValue166 }
end Go.Proofs

/-
  Layer 15: all that is wanted, in order, and what is asked for.
-/
namespace Go.Proofs.Ytpnbibokddhheaa
open Go.RowKit Go.Sort Go.Proofs

instance : Inhabited Hd := ⟨zeroHd⟩
theorem infoHd : (Try.prog.info? 34).map (fun i => (i.zero, i.size, i.bytes)) = some (some (.agg #[.int .i64 0, .int .i64 0, .int .i64 0, .int .i64 0, .int .i64 0, .int .i64 0, .int .i64 0]), 7, 56) := by kernel_rfl
theorem onesH (x : Hd) : ∀ u ∈ Hd.cells x, u.oneCell' = true := by
  intro u hu
  simp [Hd.cells] at hu
  rcases hu with rfl | rfl | rfl | rfl | rfl | rfl | rfl <;> rfl
abbrev OwnH (w : World) (B : Nat) (v : Value) (L : List Hd) : Prop := OwnR 34 7 Hd.cells w B v L
theorem ltOf_H : ltOf cmpH = fun a b => lessK (keyH a) (keyH b) := by
  funext a b
  exact cmpK_less _ _
theorem swoH : SWO (ltOf cmpH) := by
  rw [ltOf_H]
  exact { irrefl := fun _ => lessK_irr _, trans := fun _ _ _ h1 h2 => lessK_trans h1 h2, ntrans := fun _ _ _ h1 h2 => lessK_ntrans h1 h2 }
theorem call_allCmp (xs : Array Value) (w : World) : (callFunc 89 xs).run Try.prog w = .ok (.enter 89 xs) w := callOf Try.func89 rfl (by kernel_rfl) xs w
theorem sortH_of (v : Value) (M L : List Hd) (B : Nat) (w : World) (hown : OwnH w B v M) (hlen : M.length ≤ 2 ^ 20) (hp : M.Perm L) (hs : sortedH L) :
    Calls Try.prog 88 #[v, .func (.func 89) #[] #[]] w fun r w' => r = .returned (.tuple #[]) ∧ OwnH w' B v L ∧ w.grownBy w' v.ownBlock := by
  have h := sort_row Try.sortHead (C := 7) Try.isAgg34 Try.sizeOf34 Hd.cells (fun _ => rfl) onesH cmpH swoH 89 call_allCmp (fun x y w => allCmp_any x y w) v M B w hown hlen
  change Calls Try.prog 88 _ _ _ at h
  refine h.mono ?_
  rintro r w' ⟨rfl, N, hN, hpN, hsN, hg⟩
  rw [ltOf_H] at hsN
  have hkeys : (N.map keyH).Nodup := ((hpN.trans hp).map keyH).nodup_iff.2 hs.keys
  have hNs : sortedH N := by
    unfold sortedH
    rw [List.Nodup, List.pairwise_map] at hkeys
    refine (hsN.and hkeys).imp fun {a b} ⟨h1, h2⟩ => ?_
    cases h3 : lessK (keyH a) (keyH b) with
    | true => rfl
    | false => exact absurd (lessK_tot h3 h1) h2
  rw [sortedH_one (hpN.trans hp) hNs hs] at hN
  exact ⟨rfl, hN, hg⟩

theorem waL_split {R : List Hd} {pre post : List (K3 × Value)} {e : K3 × Value} (h : waL R = pre ++ e :: post) : ∃ P h' Q, R = P ++ h' :: Q ∧ pre = waL P ∧ post = waL Q ∧ e = (keyH h', aggH h') := by
  unfold waL at h
  obtain ⟨P, q, rfl, h1, h2⟩ := List.map_eq_append_iff.1 h
  obtain ⟨h', Q, rfl, h3, h4⟩ := List.map_eq_cons_iff.1 h2
  exact ⟨P, h', Q, rfl, h1.symm, h4.symm, h3.symm⟩
theorem waL_append (P Q : List Hd) : waL P ++ waL Q = waL (P ++ Q) := by simp [waL]

set_option maxHeartbeats 4000000 in
set_option maxRecDepth 100000 in
theorem WaAll_of (p b : Nat) (M L : List Hd) (w : World) (h : WaAt w p b M) (hL : WEq M L) (hlen : M.length ≤ 2 ^ 20) :
    Calls Try.prog 58 #[.pointer (some ⟨p, 0, none⟩)] w fun r w' => ∃ v, r = .returned v ∧ OwnH w' w.heap.size v L ∧ Below w.heap.size w w' := by
  have hcell := h.ptr.cell 0
  simp only [List.getElem?_toArray, List.getElem?_cons_zero] at hcell
  have hplt := h.ptr.lt
  have hblt := h.map.lt
  have HM := Lib.hid h.map
  have HL := Lib.hid hL
  clear h hL
  go_enter Try.func58, Try.ntmps58
  go_wp2_with (at_range; refine wpList_range_st _ rfl _ 97 rfl 85 34 Try.underlying97 rfl HM.out ?_; intro w1 hr1 hb1 hs1; have HR := Lib.hid hr1; have Hb1 := Lib.hid hb1; clear hr1 hb1 hs1)
  go_frame
  go_loopw [3] (fun v wr => ∃ D R, RangeAt K3.enc wr b w.heap.size (waL M) (waL R) ∧ (D ++ R).Perm M ∧ OwnH wr (w.heap.size + 1) v D ∧ Below w.heap.size w wr) (fun _ wr => wr.rangeLeft b w.heap.size)
  case atStart => exact ⟨[], M, HR.out, by rw [List.nil_append], OwnR.nil _ _, Hb1.out⟩
  case round =>
    obtain ⟨D, R, hrg, hperm, hown, hb⟩ := hrel
    obtain ⟨A7, c7, hv7⟩ := hown.shape
    subst hv7
    have hDl : D.length ≤ 2 ^ 20 := by
      have := hperm.length_eq
      rw [List.length_append] at this
      omega
    have Hrg := Lib.hid hrg
    have Hperm := Lib.hid hperm
    have Hown := Lib.hid hown
    have Hb := Lib.hid hb
    clear hrg hperm hown hb
    go_wp2_with (at_next; refine wpList_next_st _ rfl _ rfl keyK3.inj rfl Hrg.out ?_ ?_)
    · intro h0
      have hR0 : R = [] := by simpa [waL] using h0
      subst hR0
      clear h0
      have hperm := Hperm.out
      rw [List.append_nil] at hperm
      have HS := Lib.hid (fun W hO => sortH_of (.slice A7 D.length c7) D L (w.heap.size + 1) W hO hDl (hperm.trans HL.out.perm) HL.out.sorted)
      clear hperm
      go_wp2_with (go_at_call 88; (with_reducible refine Calls.mono (HS.out _ Hown.out) ?_); rintro r w3 ⟨rfl, hown3, hg3⟩; have Hown3 := Lib.hid hown3; have Hg3 := Lib.hid hg3; clear hown3 hg3)
      go_ret
      exact ⟨_, rfl, Hown3.out.lower (by omega), Hb.out.grown Hg3.out Hb.out.size (fun k hk => by have := (Hown.out.block k hk).1; omega)⟩
    · intro pre e ev post w2 hsplit hrg2 hg2 hs2 hen
      obtain ⟨P, x, Q, hR, rfl, rfl, he⟩ := waL_split hsplit
      injection he with he1 he2
      subst he1 he2
      rw [waL_append] at hrg2
      have HRP := Lib.hid hR
      have hmeas : (waL (P ++ Q)).length < (waL R).length := by rw [hR]; simp [waL]
      have hperm2 : (D ++ [x] ++ (P ++ Q)).Perm M := by
        refine List.Perm.trans ?_ Hperm.out
        rw [hR, List.append_assoc]
        refine List.Perm.append_left D ?_
        rw [List.singleton_append]
        exact List.perm_middle.symm
      have Hmeas := Lib.hid hmeas
      have Hperm2 := Lib.hid hperm2
      have Hrg2 := Lib.hid hrg2
      have Hown2 := Lib.hid (Hown.out.kept hg2 (by
        cases hv : (Value.slice A7 D.length c7).ownBlock with
        | none => exact .inl rfl
        | some k => right; intro e; have := (Hown.out.block k hv).1; injection e with e; omega))
      have Hb2 := Lib.hid (Hb.out.grown hg2 Hb.out.size (fun k hk => by injection hk with hk; omega))
      clear hsplit hrg2 hg2 hs2 hR hmeas hperm2
      obtain ⟨y1, y2, y3, y4, y5, y6, y7⟩ := x
      unfold aggH Hd.cells keyH at hen
      simp only at hen
      have Hbk := Lib.hid (show ∀ o, Blk ((w2.alloc o).alloc (.cells #[.int .i64 y1, .int .i64 y2, .int .i64 y3, .int .i64 y4, .int .i64 y5, .int .i64 y6, .int .i64 y7] 34)) (w2.heap.size + 1) 34 (Hd.cells ⟨y1, y2, y3, y4, y5, y6, y7⟩).toArray from fun o => by
        exact Blk.size (w := w2.alloc o) (by simp))
      have Hsz2 := Lib.hid (show ∀ o o', w.heap.size + 1 ≤ ((w2.alloc o).alloc o').heap.size from fun o o' => by
        have h2 := Hrg2.out.lt
        simp
        omega)
      go_wp2_with (at_builtin; refine app_row Hd.cells (fun _ => rfl) (by decide) (bytes := 56) (by decide) infoHd rfl Try.underlying27 onesH rfl _ _ rfl (w.heap.size + 1) _ D rfl ((Hown2.out.alloc _).alloc _) (w2.heap.size + 1) ⟨y1, y2, y3, y4, y5, y6, y7⟩ rfl (Hbk.out _) (by omega) (Hsz2.out _ _) ?_; intro v5 w5 hown5 hg5 hor5; have Hown5 := Lib.hid hown5; have Hg5 := Lib.hid hg5; clear hown5 hg5 hor5)
      have hne : ∀ j, (Value.slice A7 D.length c7).ownBlock = some j → w.heap.size + 1 ≤ j := fun j hj => (Hown2.out.block j hj).1
      have hrg5 : RangeAt K3.enc w5 b w.heap.size (waL M) (waL (P ++ Q)) := ((Hrg2.out.alloc _).alloc _).grown Hg5.out (fun e => by have := hne b e.symm; omega) (fun e => by have := hne _ e.symm; omega)
      have Hrg5 := Lib.hid hrg5
      have hb5 : Below w.heap.size w w5 := ((Hb2.out.alloc Hb2.out.size _).alloc (by have := Hb2.out.size; simp; omega) _).grown Hg5.out (by have := Hb2.out.size; simp; omega) (fun j hj => by have := hne j hj; omega)
      have Hb5 := Lib.hid hb5
      clear hne hrg5 hb5
      go_wp2
      go_roundw
      case measure => rw [Hrg5.out.left_eq, Hrg.out.left_eq]; exact Hmeas.out
      case rel => exact ⟨D ++ [⟨y1, y2, y3, y4, y5, y6, y7⟩], P ++ Q, Hrg5.out, Hperm2.out, Hown5.out, Hb5.out⟩

end Go.Proofs.Ytpnbibokddhheaa

/-
  Layer 15: what is asked for; what is taken.
-/
namespace Go.Proofs.Ytpnbibokddhheaa
open Go.RowKit Go.Sort

theorem infoK3 : (Try.prog.info? 85).map (fun i => (i.zero, i.size, i.bytes)) = some (some (.agg #[.int .i64 0, .int .i64 0, .int .i64 0]), 3, 24) := by kernel_rfl
theorem onesK3 (x : K3) : ∀ u ∈ K3.cells x, u.oneCell' = true := by
  intro u hu
  simp [K3.cells] at hu
  rcases hu with rfl | rfl | rfl <;> rfl
abbrev OwnKs (w : World) (B : Nat) (v : Value) (L : List K3) : Prop := OwnR 85 3 K3.cells w B v L
def askL (L : List Hd) : List K3 := (L.take 3).map keyH
theorem ask_len (L : List Hd) (k : Nat) : ((L.take (min k 3)).map keyH).length = min (min k 3) L.length := by simp

set_option maxHeartbeats 4000000 in
set_option maxRecDepth 100000 in
theorem WaAsk_of (p b : Nat) (M L : List Hd) (w : World) (h : WaAt w p b M) (hL : WEq M L) (hlen : M.length ≤ 2 ^ 20) :
    Calls Try.prog 25 #[.pointer (some ⟨p, 0, none⟩)] w fun r w' => ∃ v, r = .returned v ∧ OwnKs w' w.heap.size v (askL L) ∧ Below w.heap.size w w' := by
  have HA := Lib.hid (WaAll_of p b M L w h hL hlen)
  have hLl := hL.len
  rw [hLl] at hlen
  clear h hL
  go_enter Try.func25, Try.ntmps25
  go_wp2_with fail
  with_reducible refine Calls.mono HA.out ?_
  rintro r w2 ⟨v, rfl, hown, hb2⟩
  obtain ⟨A, cap, rfl⟩ := hown.shape
  have Hrow := Lib.hid (OwnR.rows (C := 7) (cells := Hd.cells) (fun _ => rfl) hown).2
  have Hb2 := Lib.hid hb2
  clear hown hb2
  go_wp2
  go_loopw [3, 9] (fun o i wr => ∃ k : Nat, i = .int .i64 k ∧ k ≤ L.length ∧ OwnKs wr w2.heap.size o ((L.take (min k 3)).map keyH) ∧ Below w2.heap.size w2 wr) (fun _ i _ => L.length - (intOf i).toNat)
  case atStart => exact ⟨0, rfl, Nat.zero_le _, OwnR.nil _ _, Below.refl _ _⟩
  case round =>
    obtain ⟨k, rfl, hk, hown, hb⟩ := hrel
    obtain ⟨A7, c7, hv7⟩ := hown.shape
    have hl := ask_len L k
    subst hv7
    by_cases hlt : k < L.length
    · obtain ⟨b1, o1, rfl, -, x0, x1, x2, x3, x4, x5, x6⟩ := row_hd (Hrow.out.below hb) k hlt
      have hs := List.take_succ_eq_append_getElem hlt
      have hkl : (k : Int) < (L.length : Int) := by omega
      generalize hy : L[k] = y at *
      obtain ⟨y1, y2, y3, y4, y5, y6, y7⟩ := y
      simp only at x0 x1 x2 x3 x4 x5 x6
      have Hown := Lib.hid hown
      have Hb := Lib.hid hb
      have hbw : w2.heap.size ≤ wr.heap.size := hb.size
      clear hown hb
      by_cases h3 : k < 3
      · have hmin : min k 3 = k := by omega
        rw [hmin] at hl Hown ⊢
        have hl2 : ((L.take k).map keyH).length = k := by rw [hl]; omega
        have hnext : (L.take (min (k + 1) 3)).map keyH = (L.take k).map keyH ++ [⟨y2, y3, y4⟩] := by
          rw [show min (k + 1) 3 = k + 1 by omega, hs, List.map_append]
          rfl
        generalize (L.take k).map keyH = N at *
        subst hl2
        have HN := Lib.hid hnext
        have h3i : (N.length : Int) < 3 := by omega
        clear hnext hs hl hmin hy
        go_wp2_with fail
        with_reducible refine Calls.mono (keyOf_any _ _ _ _ _ _ _ _) ?_
        rintro r w3 ⟨rfl, hb3⟩
        have Hown3 := Lib.hid ((Hown.out.alloc _).below hb3)
        have Hb3 := Lib.hid ((Hb.out.alloc Hb.out.size _).trans (hb3.mono (by have := Hb.out.size; simp; omega)))
        have hw3 : w2.heap.size ≤ w3.heap.size := by have := hb3.size; simp at this; omega
        clear hb3
        go_wp2_with (at_builtin; (refine app_row (e := 85) K3.cells (fun _ => rfl) (by decide) (bytes := 24) (by decide) infoK3 rfl Try.underlying48 onesK3 (by rfl) _ _ (by rfl) w2.heap.size _ N (by rfl) (Hown3.out.alloc _) w3.heap.size ⟨y2, y3, y4⟩ (by rfl) (Blk.new _ _ _) (by omega) (by simp; omega) ?_); intro v5 w5 hown5 hg5 hor5; have Hown5 := Lib.hid hown5; have Hb5 := Lib.hid ((Hb3.out.alloc Hb3.out.size _).grown hg5 (by have := Hb3.out.size; simp; omega) (fun j hj => (Hown3.out.block j hj).1)); clear hown5 hg5 hor5)
        go_wp2
        go_roundw
        case measure => simp [intOf]; omega
        case rel => exact ⟨N.length + 1, by go_num, hlt, by rw [HN.out]; exact Hown5.out, Hb5.out⟩
      · have hmin : min k 3 = 3 := by omega
        have hmin2 : min (k + 1) 3 = 3 := by omega
        rw [hmin] at hl Hown ⊢
        have HM2 := Lib.hid hmin2
        have hl2 : ((L.take 3).map keyH).length = 3 := by rw [hl]; omega
        generalize hNN : (L.take 3).map keyH = N at *
        have HNN := Lib.hid hNN
        have HN2 := Lib.hid hl2
        rw [hl2]
        clear hs hl hl2 hmin hmin2 hy hNN
        go_wp2
        go_roundw
        case measure => simp [intOf]; omega
        case rel => exact ⟨k + 1, by go_num, hlt, by rw [HM2.out, HNN.out]; have := Hown.out.alloc (.cells #[.int .i64 y1, .int .i64 y2, .int .i64 y3, .int .i64 y4, .int .i64 y5, .int .i64 y6, .int .i64 y7] 34); rw [HN2.out] at this; exact this, Hb.out.alloc Hb.out.size _⟩
    · have hkk : k = L.length := by omega
      subst hkk
      have hask : (L.take (min L.length 3)).map keyH = askL L := by
        unfold askL
        rcases Nat.lt_or_ge L.length 3 with h | h
        · rw [show min L.length 3 = L.length by omega, List.take_length, List.take_of_length_le (by omega)]
        · rw [show min L.length 3 = 3 by omega]
      rw [hask] at hown ⊢
      have Hown := Lib.hid hown
      have Hb := Lib.hid hb
      clear hown hb hl hask
      go_wp2
      go_ret
      exact ⟨_, rfl, Hown.out.lower Hb2.out.size, Hb2.out.trans (Hb.out.mono Hb2.out.size)⟩

set_option maxHeartbeats 4000000 in
set_option maxRecDepth 100000 in
theorem WaTake_none (p b : Nat) (M : List Hd) (y1 y2 y3 y4 y5 y6 y7 : Int) (w : World) (h : WaAt w p b M) (hn : getH ⟨y2, y3, y4⟩ M = none) :
    Calls Try.prog 27 #[.pointer (some ⟨p, 0, none⟩), .agg #[.int .i64 y1, .int .i64 y2, .int .i64 y3, .int .i64 y4, .int .i64 y5, .int .i64 y6, .int .i64 y7]] w fun r w' => r = .returned (.int .i64 6) ∧ Below w.heap.size w w' := by
  have H := Lib.hid h
  have HN := Lib.hid hn
  clear h hn
  go_enter Try.func27, Try.ntmps27
  go_wp2_with fail
  with_reducible refine Calls.mono (keyOf_any _ _ _ _ _ _ _ _) ?_
  rintro r w2 ⟨rfl, hb2⟩
  have Hb2 := Lib.hid (((Below.refl w.heap.size w).alloc (Nat.le_refl _) (.cells #[.int .i64 y1, .int .i64 y2, .int .i64 y3, .int .i64 y4, .int .i64 y5, .int .i64 y6, .int .i64 y7] 34)).trans (hb2.mono (by simp)))
  have HG := Lib.hid (fun W hW => WaGet p b M y2 y3 y4 W hW (y := zeroHd) (is := false) (by rw [HN.out]; rfl) (by rw [HN.out]; rfl))
  clear hb2
  go_wp2_with fail
  with_reducible refine Calls.mono (HG.out _ ((H.out.keep Hb2.out).alloc _)) ?_
  rintro r w3 ⟨rfl, hb3⟩
  have Hb3 := Lib.hid ((Hb2.out.alloc Hb2.out.size _).trans (hb3.mono (by have := Hb2.out.size; simp; omega)))
  clear hb3
  unfold aggH Hd.cells zeroHd
  go_wp2
  go_ret
  exact ⟨rfl, Hb3.out.alloc Hb3.out.size _⟩

set_option maxHeartbeats 4000000 in
set_option maxRecDepth 100000 in
theorem WaTake_old (p b : Nat) (M : List Hd) (y1 y2 y3 y4 y5 y6 y7 : Int) (w : World) (h : WaAt w p b M) (u : Hd) (hm : getH ⟨y2, y3, y4⟩ M = some u) (hx : ageOk u) (hy1 : 0 ≤ y1) (hy2 : y1 ≤ 60) (hnew : decide (0 < newerI u ⟨y1, y2, y3, y4, y5, y6, y7⟩) = true) :
    Calls Try.prog 27 #[.pointer (some ⟨p, 0, none⟩), .agg #[.int .i64 y1, .int .i64 y2, .int .i64 y3, .int .i64 y4, .int .i64 y5, .int .i64 y6, .int .i64 y7]] w fun r w' => r = .returned (.int .i64 8) ∧ Below w.heap.size w w' := by
  have H := Lib.hid h
  have Hx := Lib.hid hm
  obtain ⟨u1, u2, u3, u4, u5, u6, u7⟩ := u
  have Ha := Lib.hid (show 0 ≤ u1 ∧ u1 ≤ 60 from ⟨hx.lo, hx.hi⟩)
  obtain ⟨m, hmm⟩ : ∃ m, newerI ⟨u1, u2, u3, u4, u5, u6, u7⟩ ⟨y1, y2, y3, y4, y5, y6, y7⟩ = m := ⟨_, rfl⟩
  rw [hmm] at hnew
  have Hm := Lib.hid hmm
  clear h hx hm hmm
  go_enter Try.func27, Try.ntmps27
  go_wp2_with fail
  with_reducible refine Calls.mono (keyOf_any _ _ _ _ _ _ _ _) ?_
  rintro r w2 ⟨rfl, hb2⟩
  obtain ⟨w3, hW3, hh3, hk3, hw3, hb3⟩ : ∃ w3, w2.alloc (.cells #[.int .i64 y2, .int .i64 y3, .int .i64 y4] 85) = w3 ∧ Blk w3 w.heap.size 34 #[.int .i64 y1, .int .i64 y2, .int .i64 y3, .int .i64 y4, .int .i64 y5, .int .i64 y6, .int .i64 y7] ∧ Blk w3 w2.heap.size 85 #[.int .i64 y2, .int .i64 y3, .int .i64 y4] ∧ WaAt w3 p b M ∧ Below w.heap.size w w3 :=
    ⟨_, rfl, ((Blk.new w _ _).below hb2 (by simp)).alloc _, Blk.new _ _ _, ((H.out.alloc _).keep hb2).alloc _, below_two hb2 _⟩
  have HG := Lib.hid (WaGet p b M y2 y3 y4 w3 hw3 (y := ⟨u1, u2, u3, u4, u5, u6, u7⟩) (is := true) (by rw [Hx.out]; rfl) (by rw [Hx.out]; rfl))
  obtain ⟨q0, q1, q2⟩ : _ ∧ _ ∧ _ := ⟨hk3.cell 0, hk3.cell 1, hk3.cell 2⟩
  simp only [List.getElem?_toArray, List.getElem?_cons_zero, List.getElem?_cons_succ] at q0 q1 q2
  have Hh3 := Lib.hid hh3
  have Hk3 := Lib.hid hk3
  have Hw3 := Lib.hid hw3
  have Hb3 := Lib.hid hb3
  clear hb2 hh3 hk3 hw3 hb3
  go_wp2_with fail
  with_reducible refine Calls.mono HG.out ?_
  rintro r w4 ⟨rfl, hb4⟩
  unfold aggH Hd.cells
  obtain ⟨w5, hW5, hu5, hh5, hk5, hw5, hb5⟩ : ∃ w5, w4.alloc (.cells #[.int .i64 u1, .int .i64 u2, .int .i64 u3, .int .i64 u4, .int .i64 u5, .int .i64 u6, .int .i64 u7] 34) = w5 ∧ Blk w5 w4.heap.size 34 #[.int .i64 u1, .int .i64 u2, .int .i64 u3, .int .i64 u4, .int .i64 u5, .int .i64 u6, .int .i64 u7] ∧ Blk w5 w.heap.size 34 #[.int .i64 y1, .int .i64 y2, .int .i64 y3, .int .i64 y4, .int .i64 y5, .int .i64 y6, .int .i64 y7] ∧ Blk w5 w2.heap.size 85 #[.int .i64 y2, .int .i64 y3, .int .i64 y4] ∧ WaAt w5 p b M ∧ Below w.heap.size w w5 :=
    ⟨_, rfl, Blk.new _ _ _, (Hh3.out.below hb4 Hh3.out.lt).alloc _, (Hk3.out.below hb4 Hk3.out.lt).alloc _, (Hw3.out.keep hb4).alloc _, (Hb3.out.trans (hb4.mono Hb3.out.size)).alloc (Nat.le_trans Hb3.out.size hb4.size) _⟩
  obtain ⟨a0, a1, a2, a3, a4, a5, a6, -⟩ := hh5.both7
  obtain ⟨b0, b1, b2, b3, b4, b5, b6, -⟩ := hu5.both7
  have Hk5 := Lib.hid hk5
  have Hw5 := Lib.hid hw5
  have Hb5 := Lib.hid hb5
  clear hb4 hu5 hh5 hk5 hw5 hb5
  go_wp2_with fail
  with_reducible refine Calls.mono (newer_any _ _ _ _ _ _ _ _ _ _ _ _ _ _ _ Ha.out.1 Ha.out.2 hy1 hy2 Hm.out) ?_
  rintro r w6 ⟨rfl, hb6⟩
  have hk6 := Hk5.out.below hb6 Hk5.out.lt
  have hw6 := Hw5.out.keep hb6
  have Hb6 := Lib.hid (Hb5.out.trans (hb6.mono Hb5.out.size))
  obtain ⟨z0, z1, z2, z3⟩ : _ ∧ _ ∧ _ ∧ _ := ⟨hk6.cell 0, hk6.cell 1, hk6.cell 2, hw6.ptr.cell 0⟩
  simp only [List.getElem?_toArray, List.getElem?_cons_zero, List.getElem?_cons_succ] at z0 z1 z2 z3
  have Hw6 := Lib.hid hw6
  clear hb6 hk6 hw6 a0 a1 a2 a3 a4 a5 a6 b0 b1 b2 b3 b4 b5 b6
  go_wp2_with fail
  go_ret
  exact ⟨rfl, Hb6.out⟩
set_option maxHeartbeats 4000000 in
set_option maxRecDepth 100000 in
theorem WaTake_got (p b : Nat) (M : List Hd) (y1 y2 y3 y4 y5 y6 y7 : Int) (w : World) (h : WaAt w p b M) (u : Hd) (hm : getH ⟨y2, y3, y4⟩ M = some u) (hx : ageOk u) (hy1 : 0 ≤ y1) (hy2 : y1 ≤ 60) (hnew : decide (0 < newerI u ⟨y1, y2, y3, y4, y5, y6, y7⟩) = false) :
    Calls Try.prog 27 #[.pointer (some ⟨p, 0, none⟩), .agg #[.int .i64 y1, .int .i64 y2, .int .i64 y3, .int .i64 y4, .int .i64 y5, .int .i64 y6, .int .i64 y7]] w fun r w' => r = .returned (.int .i64 0) ∧ WaAt w' p b (dropH ⟨y2, y3, y4⟩ M) ∧ w.grownBy w' (some b) := by
  have H := Lib.hid h
  have Hx := Lib.hid hm
  obtain ⟨u1, u2, u3, u4, u5, u6, u7⟩ := u
  have Ha := Lib.hid (show 0 ≤ u1 ∧ u1 ≤ 60 from ⟨hx.lo, hx.hi⟩)
  obtain ⟨m, hmm⟩ : ∃ m, newerI ⟨u1, u2, u3, u4, u5, u6, u7⟩ ⟨y1, y2, y3, y4, y5, y6, y7⟩ = m := ⟨_, rfl⟩
  rw [hmm] at hnew
  have Hm := Lib.hid hmm
  clear h hx hm hmm
  go_enter Try.func27, Try.ntmps27
  go_wp2_with fail
  with_reducible refine Calls.mono (keyOf_any _ _ _ _ _ _ _ _) ?_
  rintro r w2 ⟨rfl, hb2⟩
  obtain ⟨w3, hW3, hh3, hk3, hw3, hb3⟩ : ∃ w3, w2.alloc (.cells #[.int .i64 y2, .int .i64 y3, .int .i64 y4] 85) = w3 ∧ Blk w3 w.heap.size 34 #[.int .i64 y1, .int .i64 y2, .int .i64 y3, .int .i64 y4, .int .i64 y5, .int .i64 y6, .int .i64 y7] ∧ Blk w3 w2.heap.size 85 #[.int .i64 y2, .int .i64 y3, .int .i64 y4] ∧ WaAt w3 p b M ∧ Below w.heap.size w w3 :=
    ⟨_, rfl, ((Blk.new w _ _).below hb2 (by simp)).alloc _, Blk.new _ _ _, ((H.out.alloc _).keep hb2).alloc _, below_two hb2 _⟩
  have HG := Lib.hid (WaGet p b M y2 y3 y4 w3 hw3 (y := ⟨u1, u2, u3, u4, u5, u6, u7⟩) (is := true) (by rw [Hx.out]; rfl) (by rw [Hx.out]; rfl))
  obtain ⟨q0, q1, q2⟩ : _ ∧ _ ∧ _ := ⟨hk3.cell 0, hk3.cell 1, hk3.cell 2⟩
  simp only [List.getElem?_toArray, List.getElem?_cons_zero, List.getElem?_cons_succ] at q0 q1 q2
  have Hh3 := Lib.hid hh3
  have Hk3 := Lib.hid hk3
  have Hw3 := Lib.hid hw3
  have Hb3 := Lib.hid hb3
  clear hb2 hh3 hk3 hw3 hb3
  go_wp2_with fail
  with_reducible refine Calls.mono HG.out ?_
  rintro r w4 ⟨rfl, hb4⟩
  unfold aggH Hd.cells
  obtain ⟨w5, hW5, hu5, hh5, hk5, hw5, hb5⟩ : ∃ w5, w4.alloc (.cells #[.int .i64 u1, .int .i64 u2, .int .i64 u3, .int .i64 u4, .int .i64 u5, .int .i64 u6, .int .i64 u7] 34) = w5 ∧ Blk w5 w4.heap.size 34 #[.int .i64 u1, .int .i64 u2, .int .i64 u3, .int .i64 u4, .int .i64 u5, .int .i64 u6, .int .i64 u7] ∧ Blk w5 w.heap.size 34 #[.int .i64 y1, .int .i64 y2, .int .i64 y3, .int .i64 y4, .int .i64 y5, .int .i64 y6, .int .i64 y7] ∧ Blk w5 w2.heap.size 85 #[.int .i64 y2, .int .i64 y3, .int .i64 y4] ∧ WaAt w5 p b M ∧ Below w.heap.size w w5 :=
    ⟨_, rfl, Blk.new _ _ _, (Hh3.out.below hb4 Hh3.out.lt).alloc _, (Hk3.out.below hb4 Hk3.out.lt).alloc _, (Hw3.out.keep hb4).alloc _, (Hb3.out.trans (hb4.mono Hb3.out.size)).alloc (Nat.le_trans Hb3.out.size hb4.size) _⟩
  obtain ⟨a0, a1, a2, a3, a4, a5, a6, -⟩ := hh5.both7
  obtain ⟨b0, b1, b2, b3, b4, b5, b6, -⟩ := hu5.both7
  have Hk5 := Lib.hid hk5
  have Hw5 := Lib.hid hw5
  have Hb5 := Lib.hid hb5
  clear hb4 hu5 hh5 hk5 hw5 hb5
  go_wp2_with fail
  with_reducible refine Calls.mono (newer_any _ _ _ _ _ _ _ _ _ _ _ _ _ _ _ Ha.out.1 Ha.out.2 hy1 hy2 Hm.out) ?_
  rintro r w6 ⟨rfl, hb6⟩
  have hk6 := Hk5.out.below hb6 Hk5.out.lt
  have hw6 := Hw5.out.keep hb6
  have Hb6 := Lib.hid (Hb5.out.trans (hb6.mono Hb5.out.size))
  obtain ⟨z0, z1, z2, z3⟩ : _ ∧ _ ∧ _ ∧ _ := ⟨hk6.cell 0, hk6.cell 1, hk6.cell 2, hw6.ptr.cell 0⟩
  simp only [List.getElem?_toArray, List.getElem?_cons_zero, List.getElem?_cons_succ] at z0 z1 z2 z3
  have Hw6 := Lib.hid hw6
  clear hb6 hk6 hw6 a0 a1 a2 a3 a4 a5 a6 b0 b1 b2 b3 b4 b5 b6
  go_wp2_with fail
  refine wp_drew_tail 5 (by kernel_rfl) (by kernel_rfl) ?_
  simp only [List.take_succ_cons, List.take_zero, List.drop_succ_cons, List.drop_zero]
  repeat (go_big_quiet_step (fail))
  refine wpQuiet_nil ?_
  rintro w7 ⟨dq, rfl⟩
  have HM := Lib.hid (Hw6.out.drewN dq).map
  go_wp2_with (at_delete; (refine wpList_delete_st _ (by rfl) _ _ 97 85 (by rfl) 34 keyK3 Try.underlying97 (by rfl) HM.out ⟨y2, y3, y4⟩ (by rfl) ?_); intro w8 hm8 hg8 hs8; have Hm8 := Lib.hid hm8; have Hg8 := Lib.hid hg8; clear hm8 hg8 hs8)
  go_ret
  have hm8 := Hm8.out
  rw [dropL_wa] at hm8
  exact ⟨rfl, (Hw6.out.drewN dq).turned Hg8.out hm8, below_grown Hb6.out (grown_drewN Hg8.out)⟩

end Go.Proofs.Ytpnbibokddhheaa

/-
  Layer 15: the example that each law asks first.
-/
namespace Go.Proofs.Ytpnbibokddhheaa
open Go.RowKit Go.Sort

def hd0 (i : Int) : Hd := ⟨0, 0, i, 0, 0, 0, 0⟩
def four15 : List Hd := [hd0 4, hd0 3, hd0 2, hd0 1]
theorem rows_of_blk {w : World} {g B : Nat} {t : TypeId} {L : List Hd} (h : Blk w g t (L.flatMap Hd.cells).toArray) (hB : g < B) : RowsAt 7 Hd.cells w B (some ⟨g, 0, none⟩) L := by
  intro _
  refine ⟨g, 0, rfl, hB, fun k hk i u hi hu => ?_⟩
  rw [show 0 + k * 7 + i = k * 7 + i by omega, h.cell, List.getElem?_toArray, flatR Hd.cells 7 (fun _ => rfl) L k i hk hi]
  exact hu
theorem four_cells : (four15.flatMap Hd.cells).toArray = #[.int .i64 0, .int .i64 0, .int .i64 4, .int .i64 0, .int .i64 0, .int .i64 0, .int .i64 0, .int .i64 0, .int .i64 0, .int .i64 3, .int .i64 0, .int .i64 0, .int .i64 0, .int .i64 0, .int .i64 0, .int .i64 0, .int .i64 2, .int .i64 0, .int .i64 0, .int .i64 0, .int .i64 0, .int .i64 0, .int .i64 0, .int .i64 1, .int .i64 0, .int .i64 0, .int .i64 0, .int .i64 0] := rfl
theorem four_eq : WEq (addAllM [] four15) (addAllD [] four15) := addAll_eq WEq.nil _
theorem four_len : (addAllM [] four15).length = 4 := by decide
theorem four_ask : askL (addAllD [] four15) = [⟨0, 1, 0⟩, ⟨0, 2, 0⟩, ⟨0, 3, 0⟩] := by decide
theorem four_age : ∀ x ∈ four15, ageOk x := by
  intro x hx
  simp [four15] at hx
  rcases hx with rfl | rfl | rfl | rfl <;> exact ⟨by decide, by decide⟩

set_option maxHeartbeats 4000000 in
set_option maxRecDepth 100000 in
theorem wakes15 (w : World) : Calls Try.prog 16 #[] w fun r w' => r = .returned (.bool true) ∧ Below w.heap.size w w' := by
  go_enter Try.func16, Try.ntmps16
  go_wp2_with fail
  with_reducible refine Calls.mono (New15 w) ?_
  rintro r w2 ⟨rfl, hw2, hb2⟩
  obtain ⟨p, hp⟩ : ∃ p, w.heap.size + 1 = p := ⟨_, rfl⟩
  obtain ⟨b, hb⟩ : ∃ b, w.heap.size = b := ⟨_, rfl⟩
  rw [hp] at hw2 ⊢
  rw [hb] at hw2
  have HA := (WaAdd_of p b [] (some ⟨w2.heap.size, 0, none⟩) 4 four15 (w2.alloc (.cells (four15.flatMap Hd.cells).toArray 34)) (hw2.alloc _) (w2.heap.size + 1) (fun W hg => rows_of_blk ((Blk.new w2 34 (four15.flatMap Hd.cells).toArray).grown hg (fun e => by injection e with e; have := hw2.map.lt; omega)) (by omega)) (by simp) four_age (by decide) 4 rfl)
  rw [four_len, four_cells] at HA
  have HA := Lib.hid HA
  have Hb2 := Lib.hid hb2
  have hlt := hw2.map.lt
  have hsz := hb2.size
  clear hw2 hb2
  go_wp2_with fail
  with_reducible refine Calls.mono HA.out ?_
  rintro r w3 ⟨rfl, hw3, hg3⟩
  have HK := Lib.hid (WaAsk_of p b _ _ w3 hw3 four_eq (by rw [four_len]; decide))
  rw [four_ask] at HK
  have Hb3 := Lib.hid ((Hb2.out.alloc Hb2.out.size _).grown hg3 (by simp; omega) (fun k hk => by injection hk with hk; omega))
  clear hw3 hg3
  go_wp2_with fail
  with_reducible refine Calls.mono HK.out ?_
  rintro r w4 ⟨v, rfl, hown, hb4⟩
  have Hb4 := Lib.hid (Hb3.out.trans (hb4.mono Hb3.out.size))
  obtain ⟨A, c, rfl⟩ := hown.shape
  obtain ⟨b1, o1, rfl, x0, x1, x2⟩ := row_k3 (OwnR.rows (C := 3) (cells := K3.cells) (fun _ => rfl) hown).2 0 (by decide)
  simp only [List.getElem_cons_zero, Nat.zero_mul, Nat.add_zero] at x0 x1 x2
  clear hown hb4
  go_wp2
  go_ret
  exact ⟨rfl, Hb4.out⟩

end Go.Proofs.Ytpnbibokddhheaa

/-
  Layer 15: keys are answered by the descriptions that a database has of them.
-/
namespace Go.Proofs.Ytpnbibokddhheaa
open Go.RowKit Go.Sort

def foundB (M : List Lsa) (k : K3) : Bool := (getX k M).isSome
def gotV (M : List Lsa) (k : K3) : VX := vX ((getX k M).getD zeroX)
theorem gotV_some {M : List Lsa} {k : K3} {x : Lsa} (h : getX k M = some x) : gotV M k = vX x := by unfold gotV; rw [h]; rfl
def ansL (M : List Lsa) (ks : List K3) (t : Bool) : List VX := if t = true then ks.map (gotV M) else []
def AnsTo (w' : World) (v : Value) (M : List Lsa) (ks : List K3) (t : Bool) : Prop := ∃ O, XsAt w' 0 v O ∧ O.map vX = ansL M ks t
theorem own_zero {W : World} {v : Value} {L : List Lsa} (_h : XsAt W 0 v L) {x : Lsa} (hr : rowsX W x ∧ farX v x ∧ fromX 1 x ∧ (x.links.length ≤ 1000 ∧ x.members.length ≤ 1000)) : rowsX W x ∧ farX v x ∧ fromX 0 x ∧ (x.links.length ≤ 1000 ∧ x.members.length ≤ 1000) :=
  ⟨hr.1, hr.2.1, ⟨fun _ _ _ => Nat.zero_le _, fun _ _ _ => Nat.zero_le _⟩, hr.2.2.2⟩

set_option maxHeartbeats 8000000 in
set_option maxRecDepth 100000 in
theorem Answer_any (p b : Nat) (room : Int) (M : List Lsa) (A : Option Addr) (cap : Nat) (ks : List K3) (w : World) (B : Nat) (h : DbAt w p b room M) (hk : RowsAt 3 K3.cells w B A ks) (hB : B ≤ w.heap.size) (hlen : ks.length ≤ 1000) (n : Nat) (hn : n = ks.length) {t : Bool} (ht : ks.all (foundB M) = t) :
    Calls Try.prog 24 #[.pointer (some ⟨p, 0, none⟩), .slice A n cap] w fun r w' => ∃ v, r = .returned (.tuple #[v, .bool t]) ∧ AnsTo w' v M ks t ∧ Below w.heap.size w w' := by
  subst hn
  have HD := Lib.hid h
  have HK := Lib.hid (hk.more hB)
  have hw0 : 0 < w.heap.size := by have := h.ptr.lt; omega
  have Ht := Lib.hid ht
  clear h hk hB ht
  go_enter Try.func24, Try.ntmps24
  go_wp2
  go_loopw [6, 13] (fun o i wr => ∃ (j : Nat) (O : List Lsa), i = .int .i64 j ∧ j ≤ ks.length ∧ (ks.take j).all (foundB M) = true ∧ O.map vX = (ks.take j).map (gotV M) ∧ XsAt wr 0 o O ∧ (∀ m, o.ownBlock = some m → w.heap.size ≤ m) ∧ Below w.heap.size w wr) (fun _ i _ => ks.length - (intOf i).toNat)
  case atStart => exact ⟨0, [], rfl, Nat.zero_le _, rfl, rfl, XsAt.nil _ _, (by intro m e; cases e), Below.refl _ _⟩
  case round =>
    obtain ⟨j, O, rfl, hj, hall, hO, hxs, hnew, hb⟩ := hrel
    obtain ⟨A6, c6, hv6⟩ := hxs.own.shape
    subst hv6
    have hOl : O.length = j := by have := congrArg List.length hO; rw [List.length_map, List.length_map, List.length_take] at this; omega
    have HO := Lib.hid hO
    have Hall := Lib.hid hall
    have Hxs := Lib.hid hxs
    have Hnew := Lib.hid hnew
    have Hb := Lib.hid hb
    by_cases hlt : j < ks.length
    · obtain ⟨g, o, rfl, -, x0, x1, x2⟩ := row_k3b (HK.out.below hb) j hlt
      have hkl : (j : Int) < (ks.length : Int) := by omega
      have hsn := List.take_succ_eq_append_getElem hlt
      have hmem := List.getElem_mem hlt
      have Hlt := Lib.hid hlt
      have hOl2 : O.length ≤ 1000 := by omega
      generalize ks[j] = k at *
      obtain ⟨k1, k2, k3⟩ := k
      simp only at x0 x1 x2
      obtain ⟨u, hu⟩ : ∃ u, (getX ⟨k1, k2, k3⟩ M).getD zeroX = u := ⟨_, rfl⟩
      obtain ⟨is, his⟩ : ∃ is, (getX ⟨k1, k2, k3⟩ M).isSome = is := ⟨_, rfl⟩
      have hlens : u.links.length ≤ 1000 ∧ u.members.length ≤ 1000 := by
        rw [← hu]
        cases hg : getX ⟨k1, k2, k3⟩ M with
        | none => simp [zeroX]
        | some x => exact HD.out.lens x (getX_mem hg).1
      have hgv : gotV M ⟨k1, k2, k3⟩ = vX u := by unfold gotV; rw [hu]
      obtain ⟨⟨u1, u2, u3, u4, u5, u6, u7⟩, xa, xc, xs, va, vc, vs⟩ := u
      obtain ⟨ul, hul⟩ : ∃ ul, ul = xs.length := ⟨_, rfl⟩
      obtain ⟨um, hum⟩ : ∃ um, um = vs.length := ⟨_, rfl⟩
      obtain ⟨w8, hw8⟩ : ∃ w8, wr.alloc (.cells #[.int .i64 k1, .int .i64 k2, .int .i64 k3] 85) = w8 := ⟨_, rfl⟩
      have hb8 := below_new wr (.cells #[.int .i64 k1, .int .i64 k2, .int .i64 k3] 85)
      have hk8 := Blk.new wr 85 #[.int .i64 k1, .int .i64 k2, .int .i64 k3]
      rw [hw8] at hb8 hk8
      have HG := Lib.hid (DbGet p b room M k1 k2 k3 w8 ((HD.out.keep hb).keep hb8) hu his ul um hul hum)
      have Hb8 := Lib.hid (below_trans hb hb.size hb8)
      have Hx8 := Lib.hid (hxs.keep hb8)
      obtain ⟨q0, q1, q2⟩ : _ ∧ _ ∧ _ := ⟨hk8.cell 0, hk8.cell 1, hk8.cell 2⟩
      simp only [List.getElem?_toArray, List.getElem?_cons_zero, List.getElem?_cons_succ] at q0 q1 q2
      have Hul := Lib.hid (show _ ∧ _ ∧ _ ∧ _ from ⟨hul, hum, hlens⟩)
      have Hgv := Lib.hid hgv
      have Hsn := Lib.hid hsn
      have Hmem := Lib.hid hmem
      have His := Lib.hid his
      clear hO hall hxs hnew hb hOl hu his hul hum hlens hgv hsn hmem hb8 hk8 hlt
      go_wp2_with fail
      with_reducible refine Calls.mono HG.out ?_
      rintro r w9 ⟨Aa, ca, Ab, cb, rfl, oa, ob, hb9⟩
      have HX := Lib.hid (own_zero (Hx8.out.keep hb9) (seal_el (q := 0) Hx8.out.own (by have := Hb8.out.size; omega) Hul.out.1 Hul.out.2.1 Hul.out.2.2.1 Hul.out.2.2.2 oa ob (h := ⟨u1, u2, u3, u4, u5, u6, u7⟩)))
      have Hb9 := Lib.hid (below_trans Hb8.out Hb8.out.size hb9)
      have Hx9 := Lib.hid (Hx8.out.keep hb9)
      clear oa ob hb9 q0 q1 q2
      cases is with
      | false =>
        have hno : ks.all (foundB M) = false := by
          rw [List.all_eq_false]
          exact ⟨⟨k1, k2, k3⟩, Hmem.out, by unfold foundB; rw [His.out]; decide⟩
        obtain rfl : t = false := by rw [← Ht.out]; exact hno
        have Hbz := Lib.hid (fun o => Hb9.out.alloc Hb9.out.size o)
        clear hno
        go_wp2
        go_ret2
        exact ⟨_, rfl, ⟨[], XsAt.nil _ _, rfl⟩, Hbz.out _⟩
      | true =>
        have hall2 : (ks.take (j + 1)).all (foundB M) = true := by
          rw [Hsn.out, List.all_append, Hall.out]
          simp [foundB, His.out]
        have Hall2 := Lib.hid hall2
        have HO2 := Lib.hid (show (O ++ [(⟨⟨u1, u2, u3, u4, u5, u6, u7⟩, Aa, ca, xs, Ab, cb, vs⟩ : Lsa)]).map vX = (ks.take (j + 1)).map (gotV M) by
          rw [Hsn.out, List.map_append, List.map_append, HO.out, List.map_singleton, List.map_singleton, Hgv.out]
          rfl)
        have Hbk := Lib.hid (show ∀ o, Blk ((w9.alloc o).alloc (.cells #[.int .i64 u1, .int .i64 u2, .int .i64 u3, .int .i64 u4, .int .i64 u5, .int .i64 u6, .int .i64 u7, .slice Aa ul ca, .slice Ab um cb] 38)) (w9.heap.size + 1) 38 (Lsa.cells ⟨⟨u1, u2, u3, u4, u5, u6, u7⟩, Aa, ca, xs, Ab, cb, vs⟩).toArray from fun o => by
          unfold Lsa.cells
          simp only
          rw [← Hul.out.1, ← Hul.out.2.1]
          exact Blk.size (w := w9.alloc o) (by simp))
        have Hba := Lib.hid (fun o o' => (below_new w9 o).alloc (by simp) o')
        clear hall2
        go_wp2_with (at_builtin; (refine app_row Lsa.cells (fun _ => rfl) (by decide) (bytes := 104) (by decide) infoX rfl Try.underlying22 onesX (by rfl) _ _ (by rfl) 0 _ O (by rfl) (Hx9.out.own.below (Hba.out _ _)) (w9.heap.size + 1) ⟨⟨u1, u2, u3, u4, u5, u6, u7⟩, Aa, ca, xs, Ab, cb, vs⟩ (by rfl) (Hbk.out _) (by omega) (Nat.zero_le _) ?_); intro v6 w6 hown6 hg6 hor6; have Hx6 := Lib.hid ((Hx9.out.keep (Hba.out _ _)).app hown6 hg6 hor6 (HX.out.1.keep (Hba.out _ _)) HX.out.2.1 HX.out.2.2.1 HX.out.2.2.2); have Hn6 := Lib.hid (own_new Hnew.out hor6 (Nat.le_trans Hb9.out.size (Hba.out _ _).size)); have Hb6 := Lib.hid ((below_trans Hb9.out Hb9.out.size (Hba.out _ _)).grown hg6 (Nat.le_trans Hb9.out.size (Hba.out _ _).size) (fun m hm => Hnew.out m hm)); clear hown6 hg6 hor6)
        go_roundw
        case measure => have := Hlt.out; simp [intOf]; omega
        case rel => exact ⟨j + 1, _, by go_num, Hlt.out, Hall2.out, HO2.out, Hx6.out, Hn6.out, Hb6.out⟩
    · have hjj : j = ks.length := by omega
      rw [hjj, List.take_length] at hall hO
      obtain rfl : t = true := by rw [← Ht.out]; exact hall
      have HO2 := Lib.hid hO
      have hkl : ¬ (j : Int) < (ks.length : Int) := by omega
      clear hall hO hxs hnew hb hOl hjj
      go_wp2
      go_ret2
      exact ⟨.slice A6 O.length c6, rfl, ⟨O, Hxs.out, HO2.out⟩, Hb.out⟩

end Go.Proofs.Ytpnbibokddhheaa

/-
  Layer 15 in plain words: what is lacked is wanted, answered, and put.
-/
namespace Go.Proofs.Ytpnbibokddhheaa
open Go.RowKit Go.Sort

theorem newer_self (u : Hd) : newerI u u = 0 := by
  have h1 : ∀ a : Int, cmpI a a = 0 := fun a => by unfold cmpI; rw [if_neg (by omega), if_neg (by omega)]
  have h2 : youngI u.age u.age = 0 := by unfold youngI; rw [if_neg (by omega)]
  unfold newerI
  rw [h1, h1, h1, h2]
  rfl
theorem bytes_same {h h' : Hd} (ls : List Lnk) (ms : List Int) (e1 : h.age = h'.age) (e2 : h.kind = h'.kind) (e3 : h.id = h'.id) (e4 : h.adv = h'.adv) (e5 : h.seq = h'.seq) : bytesL h ls ms = bytesL h' ls ms := by
  unfold bytesL rawL
  rw [e1, e2, e3, e4, e5]
theorem seal_gen (f : Hd → List Int) (s l : List Int → Int) (h : Hd) (hf : f { h with sum := s (f h), long := l (f h) } = f h) : ({ ({ h with sum := s (f h), long := l (f h) } : Hd) with sum := s (f { h with sum := s (f h), long := l (f h) }), long := l (f { h with sum := s (f h), long := l (f h) }) } : Hd) = { h with sum := s (f h), long := l (f h) } := by
  rw [hf]
theorem seal_again (h : Hd) (ls : List Lnk) (ms : List Int) : sealedH (sealedH h ls ms) ls ms = sealedH h ls ms :=
  seal_gen (fun h => bytesL h ls ms) (fun b => b[16]?.getD 0 * 256 + b[17]?.getD 0) (fun b => b[18]?.getD 0 * 256 + b[19]?.getD 0) h (bytes_same ls ms (h := { h with sum := _, long := _ }) (h' := h) (by simp only) (by simp only) (by simp only) (by simp only) (by simp only))
theorem seal_key (h : Hd) (ls : List Lnk) (ms : List Int) : keyH (sealedH h ls ms) = keyH h := by
  unfold keyH
  simp only [sealedH]
/-- a database as puts make it -/
structure DbOk (M : List Lsa) : Prop where
  right : ∀ x ∈ M, rightB x = true
  sealed : ∀ x ∈ M, sealedH x.head x.links x.members = x.head
  len : M.length ≤ 40
  nodup : (M.map keyX).Nodup
theorem DbOk.nil : DbOk [] := ⟨by simp, by simp, by simp, by simp⟩
theorem DbOk.ages {M : List Lsa} (h : DbOk M) : ages13 M := fun y hy => right_age (h.right y hy)
theorem setX_nodup {M : List Lsa} (h : (M.map keyX).Nodup) (y : Lsa) : ((setX y M).map keyX).Nodup := by
  rw [((setX_perm y h).map keyX).nodup_iff, List.map_cons, List.nodup_cons]
  refine ⟨fun hm => ?_, h.sublist (List.filter_sublist.map keyX)⟩
  obtain ⟨x, hx, e⟩ := List.mem_map.1 hm
  have := (List.mem_filter.1 hx).2
  simp [e] at this
theorem DbOk.set_ {M : List Lsa} (h : DbOk M) {y : Lsa} (hr : rightB y = true) (hs : sealedH y.head y.links y.members = y.head) (hl : (getX (keyX y) M).isSome = true ∨ (M.length : Int) ≠ 40) : DbOk (setX y M) where
  right := fun x hx => by
    rcases setX_mem hx with hx | rfl
    · exact h.right x hx
    · exact hr
  sealed := fun x hx => by
    rcases setX_mem hx with hx | rfl
    · exact h.sealed x hx
    · exact hs
  len := by
    rw [setX_len]
    have := h.len
    rcases hl with c | c
    · rw [if_pos c]; exact this
    · split <;> omega
  nodup := setX_nodup h.nodup y
theorem DbOk.put {B : Nat} {M M' : List Lsa} {x : Lsa} (h : DbOk M) (hp : PutM B M x M') : DbOk M' := by
  rcases hp with ⟨hok, Aa, ca, Ab, cb, -, -, rfl⟩ | ⟨-, rfl⟩
  · exact h.set_ hok.1 (seal_again _ _ _) hok.2
  · exact h
theorem getX_put {k : K3} {z : Lsa} : ∀ {T : List Lsa}, getX k (setX z T) = if keyX z = k then some z else getX k T
  | [] => by
    unfold setX getX
    by_cases h : keyX z = k
    · have h' : keyH z.head = k := h
      rw [if_pos h, if_pos h']
    · have h' : ¬ keyH z.head = k := h
      rw [if_neg h, if_neg h']
      rfl
  | x :: T => by
    unfold setX
    by_cases hx : keyH x.head = keyH z.head
    · rw [if_pos hx]
      unfold getX
      by_cases h : keyX z = k
      · have h' : keyH z.head = k := h
        rw [if_pos h, if_pos h']
      · have h' : ¬ keyH z.head = k := h
        have h2 : ¬ keyH x.head = k := by rw [hx]; exact h'
        rw [if_neg h, if_neg h', if_neg h2]
    · rw [if_neg hx]
      conv => lhs; unfold getX
      by_cases h2 : keyH x.head = k
      · have h3 : ¬ keyX z = k := fun e => hx (by rw [h2]; exact e.symm)
        rw [if_pos h2, if_neg h3]
        unfold getX
        rw [if_pos h2]
      · rw [if_neg h2, getX_put (T := T)]
        by_cases h3 : keyX z = k
        · rw [if_pos h3, if_pos h3]
        · rw [if_neg h3, if_neg h3]
          conv => rhs; unfold getX
          rw [if_neg h2]
theorem hasIt_self {T : List Lsa} {z : Lsa} {h : Hd} (e : z.head = h) : hasIt (setX z T) h = true := by
  have hk : keyX z = keyH h := by rw [← e]; rfl
  unfold hasIt
  rw [getX_put, if_pos hk]
  simp only [e, newer_self]
  decide
theorem hasIt_other {T : List Lsa} {z : Lsa} {h : Hd} (e : keyX z ≠ keyH h) : hasIt (setX z T) h = hasIt T h := by
  unfold hasIt
  rw [getX_put, if_neg e]
/-- heads of what isn't of the greatest age -/
def toldL (N : List Lsa) : List Hd := (N.filter fun x => decide (x.head.age < 60)).map fun x => x.head
theorem told_more {l : List Lsa} {k : Nat} (hk : k < l.length) : toldL (l.take (k + 1)) = toldL (l.take k) ++ if l[k].head.age < 60 then [l[k].head] else [] := by
  unfold toldL
  rw [List.take_succ_eq_append_getElem hk, List.filter_append, List.map_append]
  congr 1
  by_cases h : l[k].head.age < 60 <;> simp [h]
theorem told_len (l : List Lsa) : (toldL l).length ≤ l.length := by
  unfold toldL
  rw [List.length_map]
  exact List.length_filter_le _ _
theorem told_sorted {N : List Lsa} (h : sortedX N) : sortedH (toldL N) := by
  unfold toldL sortedH
  rw [List.pairwise_map]
  exact h.sublist List.filter_sublist
theorem told_mem {N F : List Lsa} (hp : (N.map vX).Perm (F.map vX)) (hn : (F.map keyX).Nodup) {r : Hd} (hr : r ∈ toldL N) : ∃ x ∈ F, x.head = r ∧ getX (keyH r) F = some x := by
  unfold toldL at hr
  obtain ⟨y, hy, rfl⟩ := List.mem_map.1 hr
  have hy2 : y ∈ N := (List.mem_filter.1 hy).1
  have hm : vX y ∈ F.map vX := hp.subset (List.mem_map_of_mem hy2)
  obtain ⟨x, hx, e⟩ := List.mem_map.1 hm
  have e1 : x.head = y.head := congrArg (fun v : VX => v.1) e
  refine ⟨x, hx, e1, ?_⟩
  rw [← e1]
  exact getX_of hn hx
theorem told_ages {N F : List Lsa} (hp : (N.map vX).Perm (F.map vX)) (h : DbOk F) : ∀ r ∈ toldL N, ageOk r := fun r hr => by
  obtain ⟨x, hx, e, -⟩ := told_mem hp h.nodup hr
  have := h.ages x hx
  rw [e] at this
  exact ⟨this.1, this.2⟩
theorem getH_no {k : K3} {L : List Hd} (h : k ∉ L.map keyH) : getH k L = none := by
  rw [getH_none]
  intro x hx e
  exact h (by rw [← e]; exact List.mem_map_of_mem hx)
theorem lack_filter (T : List Lsa) : ∀ (hs out : List Hd), ((out ++ hs).map keyH).Nodup → hs.foldl (lackStep T) out = out ++ hs.filter fun h => !hasIt T h
  | [], out, _ => by simp
  | h :: hs, out, hn => by
    rw [List.foldl_cons]
    by_cases hh : hasIt T h = true
    · rw [show lackStep T out h = out from if_pos hh, List.filter_cons_of_neg (by simp [hh])]
      exact lack_filter T hs out (hn.sublist (by rw [List.map_append, List.map_append, List.map_cons]; exact (List.sublist_cons_self _ _).append_left _))
    · rw [show lackStep T out h = putIt out h from if_neg hh, List.filter_cons_of_pos (by simp [hh])]
      have hk : keyH h ∉ out.map keyH := by
        rw [List.map_append, List.map_cons, List.nodup_append] at hn
        intro hm
        exact hn.2.2 _ hm _ (by simp) rfl
      have hp : putIt out h = out ++ [h] := by
        unfold putIt
        rw [getH_no hk]
      rw [hp, lack_filter T hs (out ++ [h]) (by simpa using hn)]
      simp
theorem lackAll_filter {T : List Lsa} {hs : List Hd} (h : sortedH hs) : lackAll T hs = hs.filter fun h => !hasIt T h := by
  have := lack_filter T hs [] (by simpa using h.keys)
  simpa [lackAll] using this
theorem insH_last {h : Hd} : ∀ {L : List Hd}, (∀ x ∈ L, lessK (keyH x) (keyH h) = true) → insH h L = L ++ [h]
  | [], _ => rfl
  | x :: L, hl => by
    have h1 := hl x (by simp)
    have h2 : lessK (keyH h) (keyH x) = false := by
      cases e : lessK (keyH h) (keyH x) with
      | false => rfl
      | true => have := lessK_trans h1 e; rw [lessK_irr] at this; cases this
    unfold insH
    rw [if_neg (by rw [h2]; decide), insH_last fun y hy => hl y (List.mem_cons_of_mem _ hy)]
    rfl
theorem add_sorted : ∀ (D L : List Hd), sortedH (L ++ D) → D.foldl (addD newerI) L = L ++ D
  | [], L, _ => by simp
  | h :: D, L, hs => by
    have hk : ((L ++ h :: D).map keyH).Nodup := hs.keys
    rw [List.map_append, List.map_cons, List.nodup_append] at hk
    have hno : getH (keyH h) L = none := getH_no fun hm => hk.2.2 _ hm _ (by simp) rfl
    have hlt : ∀ x ∈ L, lessK (keyH x) (keyH h) = true := fun x hx => (List.pairwise_append.1 hs).2.2 x hx h (by simp)
    rw [List.foldl_cons]
    have : addD newerI L h = L ++ [h] := by
      unfold addD
      rw [hno]
      exact insH_last hlt
    rw [this, add_sorted D (L ++ [h]) (by simpa using hs)]
    simp
theorem addAll_sorted {D : List Hd} (h : sortedH D) : addAllD [] D = D := by
  have := add_sorted D [] (by simpa using h)
  simpa [addAllD] using this
/-- what is still wanted: all others of the heads are there -/
structure LoadAt (T : List Lsa) (Hs R : List Hd) : Prop where
  ok : DbOk T
  sub : ∀ r ∈ R, r ∈ Hs
  had : ∀ h ∈ Hs, h ∉ R → hasIt T h = true
theorem LoadAt.start {T : List Lsa} {Hs : List Hd} (h : DbOk T) (hs : sortedH Hs) : LoadAt T Hs (lackAll T Hs) where
  ok := h
  sub := fun r hr => by rw [lackAll_filter hs] at hr; exact (List.mem_filter.1 hr).1
  had := fun x hx hn => by
    rw [lackAll_filter hs] at hn
    cases e : hasIt T x with
    | true => rfl
    | false => exact absurd (List.mem_filter.2 ⟨hx, by rw [e]; rfl⟩) hn
theorem LoadAt.put {T : List Lsa} {Hs R : List Hd} {r : Hd} {z : Lsa} (h : LoadAt T Hs (r :: R)) (hs : sortedH Hs) (hz : z.head = r) (hok : DbOk (setX z T)) : LoadAt (setX z T) Hs R where
  ok := hok
  sub := fun x hx => h.sub x (List.mem_cons_of_mem _ hx)
  had := fun x hx hn => by
    by_cases e : x = r
    · subst e; exact hasIt_self hz
    · have hk : keyX z ≠ keyH x := by
        intro g
        have g2 : keyH r = keyH x := by rw [← g, ← hz]; rfl
        have hr := h.sub r (by simp)
        have h1 := getH_of hs.keys hr
        have h2 := getH_of hs.keys hx
        rw [g2, h2] at h1
        injection h1 with h1
        exact e h1
      rw [hasIt_other hk]
      exact h.had x hx fun hm => by
        rcases List.mem_cons.1 hm with g | g
        · exact e g
        · exact hn g
theorem LoadAt.done {T : List Lsa} {Hs : List Hd} (h : LoadAt T Hs []) (hs : sortedH Hs) : lackAll T Hs = [] := by
  rw [lackAll_filter hs, List.filter_eq_nil_iff]
  intro x hx
  rw [h.had x hx (by simp)]
  decide
/-- an answer's part -/
structure AnsFor (r : Hd) (y : Lsa) : Prop where
  head : y.head = r
  right : rightB y = true
  sealed : sealedH y.head y.links y.members = y.head
theorem right_v {x y : Lsa} (h : vX x = vX y) : rightB x = rightB y := by
  have h1 : x.head = y.head := congrArg (fun v : VX => v.1) h
  have h2 : x.links = y.links := congrArg (fun v : VX => v.2.1) h
  have h3 : x.members = y.members := congrArg (fun v : VX => v.2.2) h
  unfold rightB
  rw [h1, h2, h3]
theorem ans_found {N F : List Lsa} (hp : (N.map vX).Perm (F.map vX)) (h : DbOk F) {R : List Hd} (hR : ∀ r ∈ R, r ∈ toldL N) : (askL R).all (foundB F) = true := by
  rw [List.all_eq_true]
  intro k hk
  unfold askL at hk
  obtain ⟨r, hr, rfl⟩ := List.mem_map.1 hk
  obtain ⟨x, -, -, e⟩ := told_mem hp h.nodup (hR r (List.mem_of_mem_take hr))
  unfold foundB
  rw [e]
  rfl
theorem ans_len {F O : List Lsa} {R : List Hd} (h : O.map vX = ansL F (askL R) true) : O.length = min 3 R.length := by
  have := congrArg List.length h
  unfold ansL askL at this
  simpa using this
theorem ans_each {N F O : List Lsa} (hp : (N.map vX).Perm (F.map vX)) (hF : DbOk F) {R : List Hd} (hR : ∀ r ∈ R, r ∈ toldL N) (h : O.map vX = ansL F (askL R) true) (j : Nat) (hj : j < O.length) (hj2 : j < R.length) : AnsFor R[j] O[j] := by
  have hl := ans_len h
  have h1 : (O.map vX)[j]? = some (vX O[j]) := by simp [hj]
  have h2 : (ansL F (askL R) true)[j]? = some (gotV F (keyH R[j])) := by
    unfold ansL askL
    rw [if_pos rfl, List.getElem?_map, List.getElem?_map, List.getElem?_take_of_lt (by omega), List.getElem?_eq_getElem hj2]
    rfl
  rw [h, h2] at h1
  injection h1 with h1
  obtain ⟨x, hx, e1, e2⟩ := told_mem hp hF.nodup (hR _ (List.getElem_mem hj2))
  rw [gotV_some e2] at h1
  have g1 : x.head = O[j].head := congrArg (fun v : VX => v.1) h1
  have g2 : x.links = O[j].links := congrArg (fun v : VX => v.2.1) h1
  have g3 : x.members = O[j].members := congrArg (fun v : VX => v.2.2) h1
  refine ⟨by rw [← g1, e1], by rw [← right_v h1]; exact hF.right x hx, ?_⟩
  have := hF.sealed x hx
  rw [g1, g2, g3] at this
  exact this

end Go.Proofs.Ytpnbibokddhheaa

/-
  Layer 15: two databases, and what is wanted, in memory.
-/
namespace Go.Proofs.Ytpnbibokddhheaa
open Go.RowKit Go.Sort

section
variable {κ : Type} {enc : κ → Value} {S : List (κ × Value)} {w W W' : World} {b2 : Nat}
theorem DbAt.other {p b : Nat} {room : Int} {M : List Lsa} (h : DbAt W p b room M) (hm : MapAt enc W b2 S) (hne : b ≠ b2) (hg : W.grownBy W' (some b2)) : DbAt W' p b room M where
  ptr := h.ptr.grown hg (fun e => by injection e with e; exact blk_nemap4 h.ptr hm e)
  map := h.map.grown hg (fun e => by injection e with e; exact hne e)
  rows := fun x hx => ⟨rows_map (fun _ => rfl) (by decide) (h.rows x hx).1 hm hg, rows_map (fun _ => rfl) (by decide) (h.rows x hx).2 hm hg⟩
  lens := h.lens
theorem WaAt.other {p b : Nat} {M : List Hd} (h : WaAt W p b M) (hm : MapAt enc W b2 S) (hne : b ≠ b2) (hg : W.grownBy W' (some b2)) : WaAt W' p b M where
  ptr := h.ptr.grown hg (fun e => by injection e with e; exact blk_nemap4 h.ptr hm e)
  map := h.map.grown hg (fun e => by injection e with e; exact hne e)
theorem OwnR.other {α : Type} {e : TypeId} {C : Nat} {cells : α → List Value} {B : Nat} {v : Value} {L : List α} (h : OwnR e C cells W B v L) (hm : MapAt enc W b2 S) (hg : W.grownBy W' (some b2)) : OwnR e C cells W' B v L :=
  h.kept hg (.inr (own_nemap h hm))
theorem XsAt.other {B : Nat} {v : Value} {L : List Lsa} (h : XsAt W B v L) (hm : MapAt enc W b2 S) (hg : W.grownBy W' (some b2)) : XsAt W' B v L where
  own := h.own.other hm hg
  rows := fun x hx => ⟨rows_map (fun _ => rfl) (by decide) (h.rows x hx).1 hm hg, rows_map (fun _ => rfl) (by decide) (h.rows x hx).2 hm hg⟩
  far := h.far
  from_ := h.from_
  lens := h.lens
end
/-- two databases beside one another -/
structure TwoDb (w W : World) (p1 b1 p2 b2 : Nat) (F T : List Lsa) : Prop where
  bel : Below w.heap.size w W
  fr : DbAt W p1 b1 40 F
  dt : DbAt W p2 b2 40 T
  ne : b1 ≠ b2
  l1 : w.heap.size ≤ b1
  l2 : w.heap.size ≤ b2
  okF : DbOk F
  okT : DbOk T
section
variable {w W W' : World} {p1 b1 p2 b2 : Nat} {F T F' T' : List Lsa} {x : Lsa}
theorem TwoDb.keep (h : TwoDb w W p1 b1 p2 b2 F T) (hb : Below W.heap.size W W') : TwoDb w W' p1 b1 p2 b2 F T :=
  ⟨below_trans h.bel h.bel.size hb, h.fr.keep hb, h.dt.keep hb, h.ne, h.l1, h.l2, h.okF, h.okT⟩
theorem TwoDb.put1 (h : TwoDb w W p1 b1 p2 b2 F T) (hd : DbAt W' p1 b1 40 F') (hok : DbOk F') (hg : W.grownBy W' (some b1)) : TwoDb w W' p1 b1 p2 b2 F' T :=
  ⟨h.bel.grown hg h.bel.size (fun k e => by injection e with e; subst e; exact h.l1), hd, h.dt.other h.fr.map (fun e => h.ne e.symm) hg, h.ne, h.l1, h.l2, hok, h.okT⟩
theorem TwoDb.put2 (h : TwoDb w W p1 b1 p2 b2 F T) (hd : DbAt W' p2 b2 40 T') (hok : DbOk T') (hg : W.grownBy W' (some b2)) : TwoDb w W' p1 b1 p2 b2 F T' :=
  ⟨h.bel.grown hg h.bel.size (fun k e => by injection e with e; subst e; exact h.l2), h.fr.other h.dt.map h.ne hg, hd, h.ne, h.l1, h.l2, h.okF, hok⟩
theorem TwoDb.third {κ : Type} {enc : κ → Value} {S : List (κ × Value)} {b3 : Nat} (h : TwoDb w W p1 b1 p2 b2 F T) (hm : MapAt enc W b3 S) (h1 : b1 ≠ b3) (h2 : b2 ≠ b3) (h3 : w.heap.size ≤ b3) (hg : W.grownBy W' (some b3)) : TwoDb w W' p1 b1 p2 b2 F T :=
  ⟨h.bel.grown hg h.bel.size (fun k e => by injection e with e; subst e; exact h3), h.fr.other hm h1 hg, h.dt.other hm h2 hg, h.ne, h.l1, h.l2, h.okF, h.okT⟩
end
/-- all of it -/
structure LoadM (w W : World) (p1 b1 p2 b2 p3 b3 : Nat) (F T : List Lsa) (M R : List Hd) (vh : Value) (Hs : List Hd) : Prop where
  two : TwoDb w W p1 b1 p2 b2 F T
  wa : WaAt W p3 b3 M
  eq : WEq M R
  hd : OwnR 34 7 Hd.cells W w.heap.size vh Hs
  n1 : b1 ≠ b3
  n2 : b2 ≠ b3
  l3 : w.heap.size ≤ b3
  load : LoadAt T Hs R
section
variable {w W W' : World} {p1 b1 p2 b2 p3 b3 : Nat} {F T T' : List Lsa} {M R M' R' : List Hd} {vh : Value} {Hs : List Hd}
theorem LoadM.keep (h : LoadM w W p1 b1 p2 b2 p3 b3 F T M R vh Hs) (hb : Below W.heap.size W W') : LoadM w W' p1 b1 p2 b2 p3 b3 F T M R vh Hs :=
  ⟨h.two.keep hb, h.wa.keep hb, h.eq, h.hd.below hb, h.n1, h.n2, h.l3, h.load⟩
/-- between the put and the take -/
structure LoadP (w W : World) (p1 b1 p2 b2 p3 b3 : Nat) (F T : List Lsa) (M R : List Hd) (vh : Value) (Hs : List Hd) (r : Hd) : Prop where
  two : TwoDb w W p1 b1 p2 b2 F T
  wa : WaAt W p3 b3 M
  eq : WEq M (r :: R)
  hd : OwnR 34 7 Hd.cells W w.heap.size vh Hs
  n1 : b1 ≠ b3
  n2 : b2 ≠ b3
  l3 : w.heap.size ≤ b3
  load : LoadAt T Hs R
theorem LoadP.keep {r : Hd} (h : LoadP w W p1 b1 p2 b2 p3 b3 F T M R vh Hs r) (hb : Below W.heap.size W W') : LoadP w W' p1 b1 p2 b2 p3 b3 F T M R vh Hs r :=
  ⟨h.two.keep hb, h.wa.keep hb, h.eq, h.hd.below hb, h.n1, h.n2, h.l3, h.load⟩
theorem LoadM.put {r : Hd} (h : LoadM w W p1 b1 p2 b2 p3 b3 F T M (r :: R) vh Hs) (hs : sortedH Hs) {z : Lsa} (hd : DbAt W' p2 b2 40 (setX z T)) (hz : z.head = r) (hok : DbOk (setX z T)) (hg : W.grownBy W' (some b2)) : LoadP w W' p1 b1 p2 b2 p3 b3 F (setX z T) M R vh Hs r :=
  ⟨h.two.put2 hd hok hg, h.wa.other h.two.dt.map (fun e => h.n2 e.symm) hg, h.eq, h.hd.other h.two.dt.map hg, h.n1, h.n2, h.l3, h.load.put hs hz hok⟩
theorem weq_first {r : Hd} (h : WEq M (r :: R)) : getH (keyH r) M = some r ∧ WEq (dropH (keyH r) M) R := by
  have hk := h.sorted.keys
  refine ⟨by rw [h.get]; exact getH_of hk (by simp), ?_⟩
  have := h.drop (keyH r)
  have e : dropH (keyH r) (r :: R) = R := by
    unfold dropH
    rw [List.filter_cons_of_neg (by simp)]
    refine List.filter_eq_self.2 fun x hx => ?_
    rw [List.map_cons, List.nodup_cons] at hk
    simp only [decide_eq_true_eq]
    exact fun e => hk.1 (by rw [← e]; exact List.mem_map_of_mem hx)
  rw [e] at this
  exact this
theorem LoadP.take {r : Hd} (h : LoadP w W p1 b1 p2 b2 p3 b3 F T M R vh Hs r) (hw : WaAt W' p3 b3 (dropH (keyH r) M)) (hg : W.grownBy W' (some b3)) : LoadM w W' p1 b1 p2 b2 p3 b3 F T (dropH (keyH r) M) R vh Hs :=
  ⟨h.two.third h.wa.map h.n1 h.n2 h.l3 hg, hw, (weq_first h.eq).2, h.hd.other h.wa.map hg, h.n1, h.n2, h.l3, h.load⟩
end

end Go.Proofs.Ytpnbibokddhheaa

/-
  The library's slices.SortFunc, laid at this program: written by lay-plain.mjs of the kit.
-/
namespace Go.Proofs
open Go.Shelf
def Try.sortKey_ren : Go.Shelf.Ren := ⟨fun | 6 => 70 | 15 => 85 | 14 => 92 | 28 => 109 | 29 => 110 | 20 => 112 | 21 => 113 | 22 => 114 | 23 => 115 | 24 => 116 | 25 => 117 | 26 => 118 | 27 => 119 | 46 => 136 | 47 => 125 | 48 => 126 | 49 => 137 | 50 => 138 | 57 => 144 | n => n, fun | 22 => 48 | 24 => 85 | 25 => 83 | 3 => 3 | 39 => 136 | 0 => 0 | 53 => 157 | 55 => 159 | 4 => 4 | 46 => 151 | 45 => 150 | 50 => 103 | 5 => 5 | 9 => 9 | 66 => 169 | 70 => 173 | 76 => 182 | 77 => 166 | n => n, fun | n => n⟩
theorem Try.sortKey : Go.Proofs.SlLaysF0.n6 Try.prog Try.sortKey_ren := {
  mixed := by kernel_rfl
  f6 := ⟨Try.f70.name, by decide, Try.func70.trans (congrArg some (by kernel_rfl))⟩
  f14 := ⟨Try.f92.name, by decide, Try.func92.trans (congrArg some (by kernel_rfl))⟩
  f15 := Try.func85.trans (congrArg some (by kernel_rfl))
  f20 := ⟨Try.f112.name, by decide, Try.func112.trans (congrArg some (by kernel_rfl))⟩
  f21 := ⟨Try.f113.name, by decide, Try.func113.trans (congrArg some (by kernel_rfl))⟩
  f22 := ⟨Try.f114.name, by decide, Try.func114.trans (congrArg some (by kernel_rfl))⟩
  f23 := ⟨Try.f115.name, by decide, Try.func115.trans (congrArg some (by kernel_rfl))⟩
  f24 := ⟨Try.f116.name, by decide, Try.func116.trans (congrArg some (by kernel_rfl))⟩
  f25 := ⟨Try.f117.name, by decide, Try.func117.trans (congrArg some (by kernel_rfl))⟩
  f26 := ⟨Try.f118.name, by decide, Try.func118.trans (congrArg some (by kernel_rfl))⟩
  f27 := ⟨Try.f119.name, by decide, Try.func119.trans (congrArg some (by kernel_rfl))⟩
  f28 := Try.func109.trans (congrArg some (by kernel_rfl))
  f29 := Try.func110.trans (congrArg some (by kernel_rfl))
  f46 := ⟨Try.f136.name, by decide, Try.func136.trans (congrArg some (by kernel_rfl))⟩
  f47 := Try.func125.trans (congrArg some (by kernel_rfl))
  f48 := Try.func126.trans (congrArg some (by kernel_rfl))
  f49 := ⟨Try.f137.name, by decide, Try.func137.trans (congrArg some (by kernel_rfl))⟩
  f50 := ⟨Try.f138.name, by decide, Try.func138.trans (congrArg some (by kernel_rfl))⟩
  f57 := ⟨Try.f144.name, by decide, Try.func144.trans (congrArg some (by kernel_rfl))⟩
  t0 := Try.underlying0
  a0 := Try.isAgg0
  z0 := Try.sizeOf0
  v0 := Try.zeroValue0
  t3 := Try.underlying3
  a3 := Try.isAgg3
  z3 := Try.sizeOf3
  v3 := Try.zeroValue3
  t4 := Try.underlying4
  a4 := Try.isAgg4
  z4 := Try.sizeOf4
  v4 := Try.zeroValue4
  t5 := Try.underlying5
  a5 := Try.isAgg5
  z5 := Try.sizeOf5
  v5 := Try.zeroValue5
  t9 := Try.underlying9
  a9 := Try.isAgg9
  z9 := Try.sizeOf9
  v9 := Try.zeroValue9
  t22 := Try.underlying48
  a22 := Try.isAgg48
  z22 := Try.sizeOf48
  v22 := Try.zeroValue48
  t25 := Try.underlying83
  a25 := Try.isAgg83
  z25 := Try.sizeOf83
  v25 := Try.zeroValue83
  t39 := Try.underlying136
  a39 := Try.isAgg136
  z39 := Try.sizeOf136
  v39 := Try.zeroValue136
  t45 := Try.underlying150
  a45 := Try.isAgg150
  z45 := Try.sizeOf150
  v45 := Try.zeroValue150
  t46 := Try.underlying151
  a46 := Try.isAgg151
  z46 := Try.sizeOf151
  v46 := Try.zeroValue151
  t50 := Try.underlying103
  a50 := Try.isAgg103
  z50 := Try.sizeOf103
  v50 := Try.zeroValue103
  t53 := Try.underlying157
  a53 := Try.isAgg157
  z53 := Try.sizeOf157
  v53 := Try.zeroValue157
  t55 := Try.underlying159
  a55 := Try.isAgg159
  z55 := Try.sizeOf159
  v55 := Try.zeroValue159
  t66 := Try.underlying169
  a66 := Try.isAgg169
  z66 := Try.sizeOf169
  v66 := Try.zeroValue169
  t70 := Try.underlying173
  a70 := Try.isAgg173
  z70 := Try.sizeOf173
  v70 := Try.zeroValue173
  t76 := Try.underlying182
  a76 := Try.isAgg182
  z76 := Try.sizeOf182
  v76 := Try.zeroValue182
  t77 := Try.underlying166
  a77 := Try.isAgg166
  z77 := Try.sizeOf166
  v77 := Try.zeroValue166 }
end Go.Proofs

/-
  Layer 13: the sorts of the summary; a stable one of a single head.
-/
namespace Go.Proofs.Ytpnbibokddhheaa
open Go.RowKit Go.Sort Go.Proofs

set_option maxHeartbeats 1000000 in
theorem insert1 (A : Option Addr) (c : Nat) (f : Value) (w : World) : Calls Try.prog 93 #[.slice A 1 c, .int .i64 0, .int .i64 1, f] w fun r w' => r = .returned (.tuple #[]) ∧ w' = w := by
  go_enter Try.func93, Try.ntmps93
  go_wp2
  go_loopw [8] (fun i wr => i = .int .i64 1 ∧ wr = w) (fun _ _ => 0)
  case atStart => exact ⟨rfl, rfl⟩
  case round =>
    obtain ⟨rfl, rfl⟩ := hrel
    go_wp2
    refine bodyPost_end (results_none rfl _ _ _) rfl ?_
    exact ⟨rfl, rfl⟩
set_option maxHeartbeats 1000000 in
theorem stable1 (A : Option Addr) (c : Nat) (f : Value) (w : World) : Calls Try.prog 72 #[.slice A 1 c, .int .i64 1, f] w fun r w' => r = .returned (.tuple #[]) ∧ w' = w := by
  go_enter Try.func72, Try.ntmps72
  go_wp2
  go_loopw [7, 8] (fun a b wr => a = .int .i64 0 ∧ b = .int .i64 20 ∧ wr = w) (fun _ _ _ => 0)
  case atStart => exact ⟨rfl, rfl, rfl⟩
  case round =>
    obtain ⟨rfl, rfl, rfl⟩ := hrel
    go_wp2_with fail
    with_reducible refine Calls.mono (insert1 _ _ _ _) ?_
    rintro r w2 ⟨rfl, rfl⟩
    obtain ⟨wo, hwo⟩ : ∃ wo : World, wo = w2 := ⟨_, rfl⟩
    go_wp2
    go_loopw [6] (fun a wx => a = .int .i64 20 ∧ wx = wo) (fun _ _ => 0)
    case atStart => exact ⟨rfl, hwo.symm⟩
    case round =>
      obtain ⟨rfl, rfl⟩ := hrel
      go_wp2
      refine bodyPost_end (results_none rfl _ _ _) rfl ?_
      exact ⟨rfl, rfl⟩
set_option maxHeartbeats 1000000 in
theorem sortStable1 (A : Option Addr) (c : Nat) (f : Value) (w : World) : Calls Try.prog 44 #[.slice A 1 c, f] w fun r w' => r = .returned (.tuple #[]) ∧ w' = w := by
  go_enter Try.func44, Try.ntmps44
  go_wp2_with fail
  with_reducible refine Calls.mono (stable1 _ _ _ _) ?_
  rintro r w2 ⟨rfl, rfl⟩
  go_wp2
  refine bodyPost_end (results_none rfl _ _ _) rfl ?_
  exact ⟨rfl, rfl⟩
set_option maxHeartbeats 1000000 in
theorem compact1 (A : Option Addr) (c n : Nat) (hn : n < 2) (w : World) : Calls Try.prog 71 #[.slice A n c] w fun r w' => r = .returned (.slice A n c) ∧ w' = w := by
  have hn' : (n : Int) < 2 := by omega
  go_enter Try.func71, Try.ntmps71
  go_wp2
  go_ret
  exact ⟨rfl, rfl⟩
set_option maxHeartbeats 2000000 in
set_option maxRecDepth 100000 in
theorem before_g13 (a1 a2 a3 b1 b2 b3 : Int) (w : World) : Calls Try.prog 46 #[.agg #[.int .i64 a1, .int .i64 a2, .int .i64 a3], .agg #[.int .i64 b1, .int .i64 b2, .int .i64 b3]] w fun r w' => r = .returned (.int .i64 (cmp3 a1 a2 a3 b1 b2 b3)) ∧ ∃ q os', w' = grow (w.drewN q) os' := by
  obtain ⟨w0, hW0⟩ : ∃ w0, (w.alloc (.cells #[.int .i64 a1, .int .i64 a2, .int .i64 a3] 85)).alloc (.cells #[.int .i64 b1, .int .i64 b2, .int .i64 b3] 85) = w0 := ⟨_, rfl⟩
  have hA : Blk w0 w.heap.size 85 #[.int .i64 a1, .int .i64 a2, .int .i64 a3] := by rw [← hW0]; exact (Blk.new w _ _).alloc _
  have hB : Blk w0 (w.heap.size + 1) 85 #[.int .i64 b1, .int .i64 b2, .int .i64 b3] := by
    rw [← hW0]
    have := Blk.new (w.alloc (.cells #[.int .i64 a1, .int .i64 a2, .int .i64 a3] 85)) 85 #[.int .i64 b1, .int .i64 b2, .int .i64 b3]
    simpa using this
  have Hg : Hid (∃ os, w0 = grow w os) := Lib.hid ⟨_, by rw [← hW0, alloc_eq_grow, alloc_eq_grow, grow_grow]⟩
  obtain ⟨a_0, a_1, a_2⟩ : _ ∧ _ ∧ _ := ⟨hA.cell 0, hA.cell 1, hA.cell 2⟩
  obtain ⟨b_0, b_1, b_2⟩ : _ ∧ _ ∧ _ := ⟨hB.cell 0, hB.cell 1, hB.cell 2⟩
  simp only [List.getElem?_toArray, List.getElem?_cons_zero, List.getElem?_cons_succ] at a_0 a_1 a_2 b_0 b_1 b_2
  clear hA hB
  go_enter Try.func46, Try.ntmps46
  go_wp2_with fail
  refine wp_drew_tail 15 (by kernel_rfl) (by kernel_rfl) ?_
  simp only [List.take_succ_cons, List.take_zero, List.drop_succ_cons, List.drop_zero]
  repeat (go_big_quiet_step (exact cmp_q _ _ _ _))
  refine wpQuiet_nil ?_
  rintro w3 ⟨dq, rfl⟩
  go_wp2_with (go_at_call 73; (with_reducible refine Calls.mono (or3_s _ _ _ _) ?_); rintro r w4 ⟨rfl, rfl⟩)
  go_ret
  obtain ⟨os, hos⟩ := Hg.out
  refine ⟨rfl, dq, os.push (.cells #[.int .i64 (cmpI a1 b1), .int .i64 (cmpI a2 b2), .int .i64 (cmpI a3 b3)] 3), ?_⟩
  subst hos
  simp [grow, World.alloc, World.drewN]
instance : Inhabited K3 := ⟨⟨0, 0, 0⟩⟩
theorem onesK13 (x : K3) : ∀ u ∈ K3.cells x, u.oneCell' = true := by
  intro u hu
  simp [K3.cells] at hu
  rcases hu with rfl | rfl | rfl <;> rfl
theorem ltOf_K13 : ltOf cmpK = lessK := by
  funext a b
  exact cmpK_less _ _
theorem swoK13 : SWO (ltOf cmpK) := by
  rw [ltOf_K13]
  exact { irrefl := lessK_irr, trans := fun _ _ _ h1 h2 => lessK_trans h1 h2, ntrans := fun _ _ _ h1 h2 => lessK_ntrans h1 h2 }
theorem call_before13 (xs : Array Value) (w : World) : (callFunc 46 xs).run Try.prog w = .ok (.enter 46 xs) w := callOf Try.func46 rfl (by kernel_rfl) xs w
theorem before13_any (x y : K3) (w : World) : Calls Try.prog 46 #[.agg (K3.cells x).toArray, .agg (K3.cells y).toArray] w fun r w' => r = .returned (.int .i64 (cmpK x y)) ∧ ∃ q os', w' = grow (w.drewN q) os' := by
  obtain ⟨a1, a2, a3⟩ := x
  obtain ⟨b1, b2, b3⟩ := y
  exact before_g13 a1 a2 a3 b1 b2 b3 w
theorem sortKs13 (v : Value) (M : List K3) (B : Nat) (w : World) (hown : OwnR 85 3 K3.cells w B v M) (hlen : M.length ≤ 2 ^ 20) :
    Calls Try.prog 70 #[v, .func (.func 46) #[] #[]] w fun r w' => r = .returned (.tuple #[]) ∧ (∃ N, OwnR 85 3 K3.cells w' B v N ∧ N.Perm M ∧ N.Pairwise fun x y => lessK y x = false) ∧ w.grownBy w' v.ownBlock := by
  have h := sort_row Try.sortKey (C := 3) Try.isAgg85 Try.sizeOf85 K3.cells (fun _ => rfl) onesK13 cmpK swoK13 46 call_before13 (fun x y w => before13_any x y w) v M B w hown hlen
  change Calls Try.prog 70 _ _ _ at h
  refine h.mono ?_
  rintro r w' ⟨rfl, N, hN, hpN, hsN, hg⟩
  rw [ltOf_K13] at hsN
  exact ⟨rfl, ⟨N, hN, hpN, hsN⟩, hg⟩

end Go.Proofs.Ytpnbibokddhheaa
