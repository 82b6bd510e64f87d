/-
  Layer 15: the document's list: heads are added, asked for, taken; lists of heads that are alike.
-/
import Derived.Test.YtannngcdphafdaaRwAdd
namespace Go.Proofs.Ytannngcdphafdaa
open Go.RowKit Go.Sort

theorem rwAdd1 (q : Nat) (v : Value) (L : List Hd) (y1 y2 y3 y4 y5 y6 y7 : Int) (w : World) (hR : RwAt w q v L) (hlen : L.length ≤ 2 ^ 20) (hy1 : 0 ≤ y1) (hy2 : y1 ≤ 60) (hL : ∀ x ∈ L, ageOk x) :
    Calls Try.prog 81 #[.pointer (some ⟨q, 0, none⟩), .agg #[.int .i64 y1, .int .i64 y2, .int .i64 y3, .int .i64 y4, .int .i64 y5, .int .i64 y6, .int .i64 y7]] w fun r w' => r = .returned (.tuple #[]) ∧ RwPost w w' q v (addD newerI L ⟨y1, y2, y3, y4, y5, y6, y7⟩) := by
  rcases findI_get (k := ⟨y2, y3, y4⟩) (L := L) with ⟨h1, h2⟩ | ⟨j, hj, h1, h2, h3, h4⟩
  · rw [addD_none (h := ⟨y1, y2, y3, y4, y5, y6, y7⟩) h2]
    exact rwAdd_new q v L y1 y2 y3 y4 y5 y6 y7 w hR hlen _ rfl h1
  · rw [addD_found (h := ⟨y1, y2, y3, y4, y5, y6, y7⟩) hj h2 (h4 _ rfl)]
    exact rwAdd_found q v L y1 y2 y3 y4 y5 y6 y7 w hR hlen hy1 hy2 j hj h1 (hL _ (List.getElem_mem hj)) rfl
def addAllD (L K : List Hd) : List Hd := K.foldl (addD newerI) L
theorem addAllD_succ (L K : List Hd) (k : Nat) (hk : k < K.length) : addAllD L (K.take (k + 1)) = addD newerI (addAllD L (K.take k)) K[k] := by
  unfold addAllD
  rw [List.take_succ_eq_append_getElem hk, List.foldl_append]
  rfl
theorem addAll_eq {M L : List Hd} (h : WEq M L) (K : List Hd) : WEq (addAllM M K) (addAllD L K) := by
  induction K generalizing M L with
  | nil => exact h
  | cons x K ih => exact ih (h.add newerI x)
theorem addD_mem {L : List Hd} {h x : Hd} (hx : x ∈ addD newerI L h) : x ∈ L ∨ x = h := by
  have hs : ∀ L : List Hd, ∀ x, x ∈ setH h L → x ∈ L ∨ x = h := by
    intro L
    induction L with
    | nil => intro x hx; simp [setH] at hx; exact .inr hx
    | cons y M ih =>
      intro x hx
      unfold setH at hx
      split at hx
      · rcases List.mem_cons.1 hx with e | hx
        · exact .inr e
        · exact .inl (by simp [hx])
      · rcases List.mem_cons.1 hx with e | hx
        · exact .inl (by simp [e])
        · rcases ih x hx with h1 | h1
          · exact .inl (by simp [h1])
          · exact .inr h1
  unfold addD at hx
  split at hx
  · split at hx
    · exact hs L x hx
    · exact .inl hx
  · rcases List.mem_cons.1 ((insH_perm h L).subset hx) with e | hx
    · exact .inr e
    · exact .inl hx
theorem addD_len (L : List Hd) (h : Hd) : (addD newerI L h).length ≤ L.length + 1 := by
  have hs : ∀ (h : Hd) (M : List Hd), (setH h M).length ≤ M.length + 1 := by
    intro h M
    induction M with
    | nil => simp [setH]
    | cons y M ih =>
      unfold setH
      split <;> simp <;> omega
  unfold addD
  split
  · split
    · exact hs h L
    · omega
  · rw [(insH_perm h L).length_eq]; simp
theorem addAllD_len (L K : List Hd) : (addAllD L K).length ≤ L.length + K.length := by
  induction K generalizing L with
  | nil => exact Nat.le_refl _
  | cons h K ih =>
    have h1 := ih (addD newerI L h)
    have h2 := addD_len L h
    simp only [addAllD, List.foldl_cons, List.length_cons] at *
    omega
theorem addAllD_age {M L : List Hd} (hM : ∀ x ∈ M, ageOk x) (hL : ∀ x ∈ L, ageOk x) : ∀ x ∈ addAllD M L, ageOk x := by
  induction L generalizing M with
  | nil => exact hM
  | cons h L ih =>
    refine ih (M := addD newerI M h) (fun x hx => ?_) (fun x hx => hL x (by simp [hx]))
    rcases addD_mem hx with h1 | h1
    · exact hM x h1
    · exact h1 ▸ hL h (by simp)
theorem Kept2.trans {a b c : World} {q : Nat} {r r' : Option Nat} (h : Kept2 a b q r) (h' : Kept2 b c q r') (hr : ∀ g, r' = some g → r = some g ∨ a.heap.size ≤ g) : Kept2 a c q r :=
  ⟨h'.os.trans h.os, h'.tape.trans h.tape, h'.output.trans h.output, Nat.le_trans h.size h'.size, fun i hi h1 h2 => (h'.block i (Nat.lt_of_lt_of_le hi h.size) h1 (fun e => by
    rcases hr i e.symm with h3 | h3
    · exact h2 h3.symm
    · omega)).trans (h.block i hi h1 h2)⟩
theorem RwPost.refl {w : World} {q : Nat} {v : Value} {L : List Hd} (h : RwAt w q v L) : RwPost w w q v L := ⟨v, h, Kept2.refl _ _ _, fun _ h => .inl h⟩
theorem RwPost.trans {a b c : World} {q : Nat} {v u : Value} {N : List Hd} (hk : Kept2 a b q v.ownBlock) (hu : ∀ g, u.ownBlock = some g → v.ownBlock = some g ∨ a.heap.size ≤ g) (h : RwPost b c q u N) : RwPost a c q v N := by
  obtain ⟨x, h1, h2, h3⟩ := h
  refine ⟨x, h1, hk.trans h2 hu, fun g hg => ?_⟩
  rcases h3 g hg with h4 | h4
  · exact hu g h4
  · exact .inr (Nat.le_trans hk.size h4)

set_option maxHeartbeats 4000000 in
set_option maxRecDepth 100000 in
theorem rwAddL (q : Nat) (v : Value) (L K : List Hd) (A : Option Addr) (cap : Nat) (w : World) (hR : RwAt w q v L) (B : Nat) (hK : ∀ W, Kept2 w W q v.ownBlock → RowsAt 7 Hd.cells W B A K) (hlen : L.length + K.length ≤ 2 ^ 20) (hL : ∀ x ∈ L, ageOk x) (hKa : ∀ x ∈ K, ageOk x) (n : Nat) (hn : n = K.length) :
    Calls Try.prog 44 #[.pointer (some ⟨q, 0, none⟩), .slice A n cap] w fun r w' => r = .returned (.int .i64 (addAllD L K).length) ∧ RwPost w w' q v (addAllD L K) := by
  subst hn
  have HR := Lib.hid hR
  have HK := Lib.hid hK
  have HL := Lib.hid hL
  have HKa := Lib.hid hKa
  clear hR hK hL hKa
  go_enter Try.func44, Try.ntmps44
  go_wp2
  go_loopw [5] (fun i wr => ∃ (k : Nat) (u : Value), i = .int .i64 k ∧ k ≤ K.length ∧ RwAt wr q u (addAllD L (K.take k)) ∧ Kept2 w wr q v.ownBlock ∧ ∀ g, u.ownBlock = some g → v.ownBlock = some g ∨ w.heap.size ≤ g) (fun i _ => K.length - (intOf i).toNat)
  case atStart => exact ⟨0, v, rfl, Nat.zero_le _, HR.out, Kept2.refl _ _ _, fun _ h => .inl h⟩
  case round =>
    obtain ⟨k, u, rfl, hk, hrw, hkp, hu⟩ := hrel
    have hl := addAllD_len L (K.take k)
    rw [List.length_take] at hl
    have hag := addAllD_age HL.out (fun x hx => HKa.out x (List.mem_of_mem_take hx)) (L := K.take k)
    by_cases hlt : k < K.length
    · obtain ⟨b1, o1, rfl, -, x0, x1, x2, x3, x4, x5, x6⟩ := row_hd (HK.out wr hkp) k hlt
      have hz := addAllD_succ L K k hlt
      have hya := HKa.out K[k] (List.getElem_mem hlt)
      have hkl : (k : Int) < (K.length : Int) := by omega
      generalize K[k] = y at *
      generalize addAllD L (K.take k) = N at *
      obtain ⟨y1, y2, y3, y4, y5, y6, y7⟩ := y
      simp only at x0 x1 x2 x3 x4 x5 x6
      have HC := Lib.hid (rwAdd1 q u N y1 y2 y3 y4 y5 y6 y7 wr hrw (by omega) hya.lo hya.hi hag)
      have HZ := Lib.hid hz
      have Hkp := Lib.hid hkp
      have Hu := Lib.hid hu
      clear hz hya hag hrw hkp hu hl
      go_wp2_with fail
      with_reducible refine Calls.mono HC.out ?_
      rintro r w2 ⟨rfl, hp⟩
      rw [← HZ.out] at hp
      have Hp := Lib.hid (RwPost.trans Hkp.out Hu.out hp)
      clear hp
      go_wp2
      go_roundw
      case measure => simp [intOf]; omega
      case rel =>
        obtain ⟨x, h1, h2, h3⟩ := Hp.out
        exact ⟨k + 1, x, by go_num, hlt, h1, h2, h3⟩
    · have hkk : k = K.length := by omega
      subst hkk
      rw [List.take_length] at hrw
      have hc := hrw.cell
      obtain ⟨A9, c9, hv9⟩ := hrw.own.shape
      subst hv9
      have Hrw := Lib.hid hrw
      have Hkp := Lib.hid hkp
      have Hu := Lib.hid hu
      clear hrw hkp hu hag hl
      go_wp2
      go_ret
      exact ⟨rfl, _, Hrw.out, Hkp.out, Hu.out⟩

set_option maxHeartbeats 4000000 in
set_option maxRecDepth 100000 in
theorem rwAsk (q : Nat) (v : Value) (L : List Hd) (w : World) (hR : RwAt w q v L) (_hlen : L.length ≤ 2 ^ 20) :
    Calls Try.prog 47 #[.pointer (some ⟨q, 0, none⟩)] w fun r w' => ∃ u, r = .returned u ∧ OwnKs w' w.heap.size u (askL L) ∧ Below w.heap.size w w' := by
  obtain ⟨A, c, hv⟩ := hR.own.shape
  subst hv
  have HR := Lib.hid hR
  clear hR
  have hask : ∀ k, k ≤ 3 → (k = 3 ∨ k = L.length) → (L.take k).map keyH = askL L := by
    intro k h3 h
    unfold askL
    rcases h with rfl | rfl
    · rfl
    · rw [List.take_length, List.take_of_length_le h3]
  have Hask := Lib.hid hask
  clear hask
  go_enter Try.func47, Try.ntmps47
  go_wp2
  go_loopw [3, 4] (fun o i wr => ∃ k : Nat, i = .int .i64 k ∧ k ≤ L.length ∧ k ≤ 3 ∧ OwnKs wr w.heap.size o ((L.take k).map keyH) ∧ Below w.heap.size w wr) (fun _ i _ => L.length - (intOf i).toNat)
  case atStart => exact ⟨0, rfl, Nat.zero_le _, by omega, OwnR.nil _ _, Below.refl _ _⟩
  case round =>
    obtain ⟨k, rfl, hk, hk3, hown, hb⟩ := hrel
    have hR := HR.out.keep hb
    have hc := hR.cell
    obtain ⟨A7, c7, hv7⟩ := hown.shape
    have hl : ((L.take k).map keyH).length = k := by simp; omega
    rw [hl] at hv7
    subst hv7
    have Hown := Lib.hid hown
    have Hb := Lib.hid hb
    by_cases h2 : k < L.length ∧ k < 3
    · obtain ⟨hlt, h3⟩ := h2
      obtain ⟨g, c', hv, z0, z1, z2, z3, z4, z5, z6⟩ := hR.row k hlt
      injection hv with hA hn hcap
      subst hA hcap
      have hs := List.take_succ_eq_append_getElem hlt
      generalize L[k] = y at *
      obtain ⟨y1, y2, y3, y4, y5, y6, y7⟩ := y
      simp only at z0 z1 z2 z3 z4 z5 z6
      have hnext : (L.take (k + 1)).map keyH = (L.take k).map keyH ++ [⟨y2, y3, y4⟩] := by
        rw [hs, List.map_append]
        rfl
      generalize (L.take k).map keyH = N at *
      subst hl
      have HN := Lib.hid hnext
      have d1 : decide ((N.length : Int) < (L.length : Int)) = true := by simp; omega
      have d2 : decide ((N.length : Int) < 3) = true := by simp; omega
      clear hnext hs hR hown hb hn
      go_wp2_with fail
      with_reducible refine Calls.mono (key_any _ _ _ _ _ _ _ _) ?_
      rintro r w3 ⟨rfl, hb3⟩
      have Hown3 := Lib.hid (Hown.out.below hb3)
      have Hb3 := Lib.hid (Hb.out.trans (hb3.mono Hb.out.size))
      clear hb3
      go_wp2_with (at_builtin; (refine app_row (e := 63) K3.cells (fun _ => rfl) (by decide) (bytes := 24) (by decide) infoK3 rfl Try.underlying69 onesK3 (by rfl) _ _ (by rfl) w.heap.size _ N (by rfl) (Hown3.out.alloc _) w3.heap.size ⟨y2, y3, y4⟩ (by rfl) (Blk.new _ _ _) (by omega) (by have := Hb3.out.size; simp; omega) ?_); intro v5 w5 hown5 hg5 hor5; have Hown5 := Lib.hid hown5; have Hb5 := Lib.hid ((Hb3.out.alloc Hb3.out.size _).grown hg5 (by have := Hb3.out.size; simp; omega) (fun j hj => (Hown3.out.block j hj).1)); clear hown5 hg5 hor5)
      go_roundw
      case measure => simp [intOf]; omega
      case rel => exact ⟨N.length + 1, by go_num, hlt, by omega, by rw [HN.out]; exact Hown5.out, Hb5.out⟩
    · have hN := Hask.out k hk3 (by omega)
      have HN := Lib.hid hN
      have d : (decide ((k : Int) < (L.length : Int)) = false ∧ True) ∨ (decide ((k : Int) < (L.length : Int)) = true ∧ decide ((k : Int) < 3) = false) := by
        by_cases h : k < L.length
        · right; exact ⟨by simp; omega, by simp; omega⟩
        · left; exact ⟨by simp; omega, trivial⟩
      clear hN hR hown hb
      rcases d with ⟨d1, -⟩ | ⟨d1, d2⟩
      all_goals
        go_wp2
        all_goals
          go_ret
          exact ⟨_, rfl, by rw [← HN.out]; exact Hown.out, Hb.out⟩

set_option maxHeartbeats 4000000 in
set_option maxRecDepth 100000 in
theorem rwTake_none (q : Nat) (v : Value) (L : List Hd) (y1 y2 y3 y4 y5 y6 y7 : Int) (w : World) (hR : RwAt w q v L) (hlen : L.length ≤ 2 ^ 20) (z : Int) (hf : findI ⟨y2, y3, y4⟩ L = z) (hz : z < 0) :
    Calls Try.prog 45 #[.pointer (some ⟨q, 0, none⟩), .agg #[.int .i64 y1, .int .i64 y2, .int .i64 y3, .int .i64 y4, .int .i64 y5, .int .i64 y6, .int .i64 y7]] w fun r w' => r = .returned (.int .i64 6) ∧ Below w.heap.size w w' := by
  have HR := Lib.hid hR
  have HF := Lib.hid (fun W (h : RwAt W q v L) => rwFind q _ L y2 y3 y4 W h hlen hf)
  clear hR hf
  go_enter Try.func45, Try.ntmps45
  go_wp2_with fail
  with_reducible refine Calls.mono (key_any _ _ _ _ _ _ _ _) ?_
  rintro r w2 ⟨rfl, hb2⟩
  have Hb2 := Lib.hid (((Below.refl w.heap.size w).alloc (Nat.le_refl _) (.cells #[.int .i64 y1, .int .i64 y2, .int .i64 y3, .int .i64 y4, .int .i64 y5, .int .i64 y6, .int .i64 y7] 58)).trans (hb2.mono (by simp)))
  clear hb2
  go_wp2_with fail
  with_reducible refine Calls.mono (HF.out _ (HR.out.keep Hb2.out)) ?_
  rintro r w3 ⟨rfl, hb3⟩
  have Hb3 := Lib.hid (Hb2.out.trans (hb3.mono Hb2.out.size))
  clear hb3
  go_wp2
  go_ret
  exact ⟨rfl, Hb3.out⟩

theorem drop_at {L : List Hd} {k : K3} {j : Nat} (hn : (L.map keyH).Nodup) (hj : j < L.length) (hk : keyH L[j] = k) : dropH k L = L.eraseIdx j := by
  induction L generalizing j with
  | nil => simp at hj
  | cons x L ih =>
    simp only [List.map_cons, List.nodup_cons] at hn
    cases j with
    | zero =>
      simp only [List.getElem_cons_zero] at hk
      unfold dropH
      rw [List.filter_cons_of_neg (by simp [hk])]
      rw [List.eraseIdx_cons_zero]
      exact List.filter_eq_self.2 fun y hy => by simpa using fun e => hn.1 (by rw [hk, ← e]; exact List.mem_map_of_mem hy)
    | succ j =>
      simp only [List.getElem_cons_succ] at hk
      have hj' : j < L.length := by simpa using hj
      have hx : keyH x ≠ k := fun e => hn.1 (by rw [e, ← hk]; exact List.mem_map_of_mem (List.getElem_mem hj'))
      have := ih hn.2 hj' hk
      unfold dropH at this ⊢
      rw [List.filter_cons_of_pos (by simp [hx]), this, List.eraseIdx_cons_succ]
theorem take_erase {L : List Hd} {j k : Nat} (hk : k < L.length) : (k ≠ j → (L.take (k + 1)).eraseIdx j = (L.take k).eraseIdx j ++ [L[k]]) ∧ (k = j → (L.take (k + 1)).eraseIdx j = (L.take k).eraseIdx j) := by
  have hs := List.take_succ_eq_append_getElem hk
  have hl : (L.take k).length = k := by rw [List.length_take]; omega
  constructor
  · intro h
    rw [hs]
    rcases Nat.lt_or_ge j k with hjk | hjk
    · rw [List.eraseIdx_append_of_lt_length (by omega)]
    · have h1 : (L.take k).eraseIdx j = L.take k := List.eraseIdx_of_length_le (by omega)
      rw [h1, List.eraseIdx_of_length_le (by simp; omega)]
  · rintro rfl
    have h1 : (L.take k).eraseIdx k = L.take k := List.eraseIdx_of_length_le (by omega)
    rw [h1, hs, List.eraseIdx_append_of_length_le (by omega), hl, Nat.sub_self]
    simp

end Go.Proofs.Ytannngcdphafdaa
