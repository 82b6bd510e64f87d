/-
  Layer 20: who is on networks: the program's way; is a number in a list.
-/
import Derived.Test.YtpfjgecdlilkcaaGrCost
import Derived.Test.YtpfjgecdlilkcaaXsAt
namespace Go.Proofs.Ytpfjgecdlilkcaa
open Go.RowKit Go.Sort

theorem mem_take_succ {l : List Int} {k : Nat} (hk : k < l.length) (x : Int) : x ∈ l.take (k + 1) ↔ x ∈ l.take k ∨ x = l[k] := by
  rw [List.take_succ_eq_append_getElem hk, List.mem_append, List.mem_singleton]
set_option maxHeartbeats 1000000 in
theorem indexI (A : Option Addr) (c : Nat) (l : List Int) (x : Int) (w : World) (B : Nat) (h : RowsAt 1 icell w B A l) (hB : B ≤ w.heap.size) (hm : l.length ≤ 2 ^ 20) (n : Nat) (hn : n = l.length) :
    Calls Try.prog 62 #[.slice A n c, .int .i64 x] w fun r w' => (∃ i : Int, r = .returned (.int .i64 i) ∧ (0 ≤ i ↔ x ∈ l)) ∧ w' = w := by
  subst hn
  have H := Lib.hid (h.more hB)
  have hm' : (l.length : Int) ≤ 9223372036854775807 := by omega
  clear h hB
  go_enter Try.func62, Try.ntmps62
  go_wp2
  go_loopw [8] (fun i wr => ∃ k : Nat, i = .int .i64 k ∧ k ≤ l.length ∧ x ∉ l.take k ∧ wr = w) (fun i _ => l.length - (intOf i).toNat)
  case atStart => exact ⟨0, rfl, Nat.zero_le _, by simp, rfl⟩
  case round =>
    obtain ⟨k, rfl, hk, hno, rfl⟩ := hrel
    by_cases hlt : k < l.length
    · obtain ⟨g, o, hA, -, x0⟩ := row_int H.out k hlt
      have hkl : (k : Int) < (l.length : Int) := by omega
      have hts := mem_take_succ hlt x
      have hin := List.getElem_mem hlt
      have HA := Lib.hid hA
      rw [hA]
      obtain ⟨y, hy⟩ : ∃ y, l[k] = y := ⟨_, rfl⟩
      rw [hy] at x0 hts hin
      clear hA hy
      by_cases hxy : x = y
      · subst hxy
        have Hin := Lib.hid hin
        clear hts hin hno
        go_wp2
        go_ret
        exact ⟨⟨_, rfl, fun _ => Hin.out, fun _ => by omega⟩, rfl⟩
      · have Hno := Lib.hid (show x ∉ l.take (k + 1) by rw [hts]; exact fun h => h.elim hno hxy)
        clear hts hin hno
        go_wp2
        go_roundw
        case measure => simp [intOf]; omega
        case rel => exact ⟨k + 1, by go_num, hlt, Hno.out, trivial⟩
    · have hke : k = l.length := by omega
      subst hke
      rw [List.take_length] at hno
      have Hno := Lib.hid hno
      clear hno
      have hkl : ¬ (l.length : Int) < (l.length : Int) := by omega
      go_wp2
      go_ret
      exact ⟨⟨_, rfl, fun h => absurd h (by decide), fun h => absurd h Hno.out⟩, rfl⟩
theorem containsI (A : Option Addr) (c : Nat) (l : List Int) (x : Int) (w : World) (B : Nat) (h : RowsAt 1 icell w B A l) (hB : B ≤ w.heap.size) (hm : l.length ≤ 2 ^ 20) (n : Nat) (hn : n = l.length) {t : Bool} (ht : decide (x ∈ l) = t) :
    Calls Try.prog 36 #[.slice A n c, .int .i64 x] w fun r w' => r = .returned (.bool t) ∧ w' = w := by
  have H := Lib.hid (indexI A c l x w B h hB hm n hn)
  have Ht := Lib.hid ht
  clear h hB hm hn ht
  go_enter Try.func36, Try.ntmps36
  go_wp2_with fail
  with_reducible refine Calls.mono H.out ?_
  rintro r w2 ⟨⟨i, rfl, hi⟩, rfl⟩
  have hd : decide (0 ≤ i) = t := by rw [← Ht.out]; exact decide_eq_decide.2 hi
  clear hi
  go_wp2
  go_ret
  exact ⟨rfl, rfl⟩
set_option maxHeartbeats 1000000 in
theorem hasI20 (A : Option Addr) (c : Nat) (l : List Int) (x : Int) (w : World) (B : Nat) (h : RowsAt 1 icell w B A l) (hB : B ≤ w.heap.size) (hm : l.length ≤ 2 ^ 20) (n : Nat) (hn : n = l.length) {t : Bool} (ht : decide (x ∈ l) = t) :
    Calls Try.prog 70 #[.slice A n c, .int .i64 x] w fun r w' => r = .returned (.bool t) ∧ w' = w := by
  subst hn
  have H := Lib.hid (h.more hB)
  have Ht := Lib.hid ht
  have hm' : (l.length : Int) ≤ 9223372036854775807 := by omega
  clear h hB ht
  go_enter Try.func70, Try.ntmps70
  go_wp2
  go_loopw [5] (fun i wr => ∃ k : Nat, i = .int .i64 k ∧ k ≤ l.length ∧ x ∉ l.take k ∧ wr = w) (fun i _ => l.length - (intOf i).toNat)
  case atStart => exact ⟨0, rfl, Nat.zero_le _, by simp, rfl⟩
  case round =>
    obtain ⟨k, rfl, hk, hno, rfl⟩ := hrel
    by_cases hlt : k < l.length
    · obtain ⟨g, o, hA, -, x0⟩ := row_int H.out k hlt
      have hkl : (k : Int) < (l.length : Int) := by omega
      have hts := mem_take_succ hlt x
      have hin := List.getElem_mem hlt
      have HA := Lib.hid hA
      rw [hA]
      obtain ⟨y, hy⟩ : ∃ y, l[k] = y := ⟨_, rfl⟩
      rw [hy] at x0 hts hin
      clear hA hy
      by_cases hxy : y = x
      · subst hxy
        have ht : t = true := by rw [← Ht.out]; exact decide_eq_true hin
        subst ht
        clear hts hin hno
        go_wp2
        go_ret
        exact ⟨rfl, rfl⟩
      · have Hno := Lib.hid (show x ∉ l.take (k + 1) by rw [hts]; exact fun h => h.elim hno (fun e => hxy e.symm))
        clear hts hin hno
        go_wp2
        go_roundw
        case measure => simp [intOf]; omega
        case rel => exact ⟨k + 1, by go_num, hlt, Hno.out, trivial⟩
    · have hke : k = l.length := by omega
      subst hke
      rw [List.take_length] at hno
      have ht : t = false := by rw [← Ht.out]; exact decide_eq_false hno
      subst ht
      clear hno
      have hkl : ¬ (l.length : Int) < (l.length : Int) := by omega
      go_wp2
      go_ret
      exact ⟨rfl, rfl⟩

set_option maxHeartbeats 4000000 in
set_option maxRecDepth 100000 in
theorem on_any (A : Option Addr) (cap : Nat) (O : List Lsa) (w : World) (hO : RowsAt 9 Lsa.cells w w.heap.size A O) (hc : CntOk (O.map vX)) (hm : O.length ≤ 2 ^ 16) (nn : Nat) (hnn : nn = O.length) :
    Calls Try.prog 35 #[.slice A nn cap] w fun r w' => r = .returned (.map (some w.heap.size)) ∧ MapAt encI w' w.heap.size (netL O) ∧ Below w.heap.size w w' := by
  subst hnn
  obtain ⟨b, hb⟩ : ∃ b, w.heap.size = b := ⟨_, rfl⟩
  have HO := Lib.hid hO
  have Hc := Lib.hid hc
  have Hb0 := Lib.hid hb
  have hmm := @run_makeMap Try.prog
  have hm' : (O.length : Int) ≤ 9223372036854775807 := by omega
  have HS0 := Lib.hid (show MapAt encI (w.alloc (.map #[] 0)) b (netL (O.take 0)) ∧ Below w.heap.size w (w.alloc (.map #[] 0)) from ⟨by rw [← hb]; exact MapAt.new w, (Below.refl _ _).alloc (Nat.le_refl _) _⟩)
  clear hO hc
  go_enter Try.func35, Try.ntmps35
  go_wp2
  clear hmm
  go_loopw [9] (fun i wr => ∃ k : Nat, i = .int .i64 k ∧ k ≤ O.length ∧ MapAt encI wr b (netL (O.take k)) ∧ Below w.heap.size w wr) (fun i _ => O.length - (intOf i).toNat)
  case atStart => exact ⟨0, rfl, Nat.zero_le _, HS0.out⟩
  case round =>
    obtain ⟨k, rfl, hk, hmp, hbel⟩ := hrel
    clear HS0
    by_cases hlt : k < O.length
    · obtain ⟨g, o, hA, -, x0, x1, x2, x3, x4, x5, x6, x7, x8⟩ := row_lsa9b (HO.out.below hbel) k hlt
      have hkl : (k : Int) < (O.length : Int) := by omega
      have hmore := net_more hlt
      have hnew := net_new Hc.out hlt
      have HA := Lib.hid hA
      rw [hA]
      have Hlt := Lib.hid hlt
      generalize O[k] = x at *
      obtain ⟨⟨y1, y2, y3, y4, y5, y6, y7⟩, ka, kc, ls, ma, mc, ms⟩ := x
      simp only at x0 x1 x2 x3 x4 x5 x6 x7 x8 hmore hnew
      obtain ⟨nl, hnl⟩ : ∃ nl, ls.length = nl := ⟨_, rfl⟩
      obtain ⟨nm, hnm⟩ : ∃ nm, ms.length = nm := ⟨_, rfl⟩
      rw [hnl] at x7
      rw [hnm] at x8 hmore
      obtain ⟨w8, hw8⟩ : ∃ w8, wr.alloc (.cells #[.int .i64 y1, .int .i64 y2, .int .i64 y3, .int .i64 y4, .int .i64 y5, .int .i64 y6, .int .i64 y7, .slice ka nl kc, .slice ma nm mc] 30) = w8 := ⟨_, rfl⟩
      obtain ⟨g8, hg8⟩ : ∃ g8, wr.heap.size = g8 := ⟨_, rfl⟩
      have hk8 := Blk.new wr 30 #[.int .i64 y1, .int .i64 y2, .int .i64 y3, .int .i64 y4, .int .i64 y5, .int .i64 y6, .int .i64 y7, .slice ka nl kc, .slice ma nm mc]
      have hb8 := below_new wr (.cells #[.int .i64 y1, .int .i64 y2, .int .i64 y3, .int .i64 y4, .int .i64 y5, .int .i64 y6, .int .i64 y7, .slice ka nl kc, .slice ma nm mc] 30)
      rw [hw8, hg8] at hk8
      rw [hw8] at hb8
      have M8 := Lib.hid (hmp.below hb8 hmp.lt)
      have B8 := Lib.hid (below_trans hbel hbel.size hb8)
      obtain ⟨z0, z1, z2, z3, z4, z5, z6, z7, z8, zf⟩ := blk9 hk8
      clear hnl hnm hA hlt hk8 hb8 hk hmp hbel
      by_cases h2 : y2 = 2
      · subst h2
        rw [if_pos rfl] at hmore
        have Hmore := Lib.hid hmore
        have Hnew := Lib.hid (hnew rfl)
        clear hmore hnew
        go_wp2_with (at_mapUpdate; (refine wpList_update_st _ (by rfl) _ _ _ 76 (by rfl) 3 28 keyInt Try.underlying76 (by rfl) M8.out y3 (by rfl) (.slice ma nm mc) (by rfl) ?_); intro w9 hm9 hg9 hs9; rw [Hnew.out] at hm9; have M9 := Lib.hid hm9; have B9 := Lib.hid (show Below w.heap.size w w9 from B8.out.grown hg9 B8.out.size (fun m e => by injection e with e; rw [← e, Hb0.out]; exact Nat.le_refl _)); clear hm9 hg9 hs9)
        go_roundw
        case measure => have := Hlt.out; simp [intOf]; omega
        case rel => exact ⟨k + 1, by go_num, Hlt.out, by rw [Hmore.out]; exact M9.out, B9.out⟩
      · rw [if_neg h2, List.append_nil] at hmore
        have Hmore := Lib.hid hmore
        clear hmore hnew
        go_wp2
        go_roundw
        case measure => have := Hlt.out; simp [intOf]; omega
        case rel => exact ⟨k + 1, by go_num, Hlt.out, by rw [Hmore.out]; exact M8.out, B8.out⟩
    · have hke : k = O.length := by omega
      subst hke
      rw [List.take_length] at hmp
      have hkl : ¬ (O.length : Int) < (O.length : Int) := by omega
      have HM := Lib.hid hmp
      have HB := Lib.hid hbel
      clear hmp hbel
      go_wp2
      go_ret
      exact ⟨rfl, HM.out, by have := HB.out; rw [Hb0.out] at this; exact this⟩

end Go.Proofs.Ytpfjgecdlilkcaa
