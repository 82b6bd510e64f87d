/-
  Layer 27: the program's Parts.
-/
import Derived.Test.YtfhikkmgclkcdaaAuPartQ
namespace Go.Proofs.Ytfhikkmgclkcdaa
open Go.RowKit Go.Sort

def labC (f : Nat → Nat) : Array Value := ((List.range 16).map fun k => Value.int .i64 (natI (f k))).toArray
theorem labC_get (f : Nat → Nat) (k : Nat) (h : k < 16) : (labC f)[k]? = some (.int .i64 (natI (f k))) := by simp [labC, h]
theorem labC_set {f f' : Nat → Nat} {n : Nat} (_hn : n < 16) (h : ∀ k, k < 16 → k ≠ n → f' k = f k) : (labC f).setIfInBounds n (.int .i64 (natI (f' n))) = labC f' := by
  apply Array.ext_getElem?
  intro k
  by_cases hk : k < 16
  · rw [labC_get _ k hk]
    by_cases hb : n = k
    · subst hb
      rw [Array.getElem?_setIfInBounds_self_of_lt (by simp [labC]; omega)]
    · rw [Array.getElem?_setIfInBounds_ne hb, labC_get _ k hk, h k hk (fun e => hb e.symm)]
  · rw [Array.getElem?_eq_none (by simp [labC]; omega), Array.getElem?_eq_none (by simp [labC]; omega)]
theorem labC_congr {f f' : Nat → Nat} (h : ∀ k, k < 16 → f' k = f k) : labC f' = labC f := by
  unfold labC
  congr 1
  exact List.map_congr_left fun k hk => by rw [h k (List.mem_range.1 hk)]
theorem labC_zero : labC (fun _ => 0) = #[.int .i64 0, .int .i64 0, .int .i64 0, .int .i64 0, .int .i64 0, .int .i64 0, .int .i64 0, .int .i64 0, .int .i64 0, .int .i64 0, .int .i64 0, .int .i64 0, .int .i64 0, .int .i64 0, .int .i64 0, .int .i64 0] := rfl
/-- The table of those that count, the labels, the states. -/
structure PaAt (w wr : World) (g gF b o : Nat) (l : List Stt) (f : Nat → Nat) : Prop where
  tbl : Blk wr g 172 (tblC (some ⟨b, o, none⟩) l)
  lab : Blk wr gF 136 (labC f)
  ne : g ≠ gF
  sts : StatesAt wr wr.heap.size (some ⟨b, o, none⟩) l
  low : w.heap.size ≤ gF
  bel : Below w.heap.size w wr
section
variable {w wr w' : World} {g gF b o : Nat} {l : List Stt} {f f' : Nat → Nat}
theorem PaAt.below (h : PaAt w wr g gF b o l f) (hb : Below wr.heap.size wr w') : PaAt w w' g gF b o l f :=
  ⟨h.tbl.below hb h.tbl.lt, h.lab.below hb h.lab.lt, h.ne, (h.sts.below hb).more hb.size, h.low, h.bel.trans (hb.mono h.bel.size)⟩
theorem PaAt.to (h : PaAt w wr g gF b o l f) (e : ∀ k, k < 16 → f' k = f k) : PaAt w wr g gF b o l f' :=
  ⟨h.tbl, by rw [labC_congr e]; exact h.lab, h.ne, h.sts, h.low, h.bel⟩
theorem states_low {B : Nat} (hs : StatesAt w B (some ⟨b, o, none⟩) l) (hB : B ≤ w.heap.size) (hb : Below w.heap.size w wr) : StatesAt wr wr.heap.size (some ⟨b, o, none⟩) l := ((hs.more hB).below hb).more hb.size
theorem PaAt.put (h : PaAt w wr g gF b o l f) (hs : StatesAt w w.heap.size (some ⟨b, o, none⟩) l) {n : Nat} (hn : n < 16) (e : ∀ k, k < 16 → k ≠ n → f' k = f k) : PaAt w (wr.setCell ⟨gF, n, none⟩ (.int .i64 (natI (f' n)))) g gF b o l f' :=
  ⟨h.tbl.far (p := ⟨gF, n, none⟩) h.ne _, by rw [← labC_set hn e]; exact h.lab.set_ n _, h.ne, states_low hs (Nat.le_refl _) (h.bel.setCell h.low _), h.low, h.bel.setCell h.low _⟩
end
theorem PaAt.grown {w wr w' : World} {g gF b o : Nat} {l : List Stt} {f : Nat → Nat} {v : Value} (h : PaAt w wr g gF b o l f) (hs : StatesAt w w.heap.size (some ⟨b, o, none⟩) l) (hg : wr.grownBy w' v.ownBlock) (hv : ∀ j, v.ownBlock = some j → gF + 1 ≤ j) (hgF : g < gF) : PaAt w w' g gF b o l f :=
  have hb : Below w.heap.size w w' := h.bel.grown hg h.bel.size (fun j e => by have := hv j e; have := h.low; omega)
  ⟨h.tbl.grown hg (fun e => by have := hv g e.symm; omega), h.lab.grown hg (fun e => by have := hv gF e.symm; omega), h.ne, states_low hs (Nat.le_refl _) hb, h.low, hb⟩
theorem call_parts1 (xs : Array Value) (w : World) : (callFunc 71 xs).run Try.prog w = .ok (.enter 71 xs) w := call_of Try.func71 rfl (by kernel_rfl) xs w
theorem beq_natI (a b : Nat) : (natI a == natI b) = (a == b) := by
  rw [Bool.eq_iff_iff, beq_iff_eq, beq_iff_eq]
  unfold natI
  omega
set_option maxHeartbeats 1000000 in
set_option maxRecDepth 100000 in
theorem parts1_any (b o i id gF bx v : Nat) (l : List Stt) (f : Nat → Nat) (W : World) (B : Nat) (hl : StatesAt W B (some ⟨b, o, none⟩) l) (hi : tblI l id = some i) (hF : Blk W gF 136 (labC f)) (hx : W.cell? ⟨bx, 0, none⟩ = some (.int .i64 (natI v))) :
    Calls Try.prog 71 #[.pointer (some ⟨b, o + i * 4, none⟩), .pointer (some ⟨gF, 0, none⟩), .pointer (some ⟨bx, 0, none⟩)] W fun e w' => e = .returned (.bool (f id == v)) ∧ Below W.heap.size W w' := by
  obtain ⟨hil, hid, h1, h15⟩ := tblI_id hi
  obtain ⟨b', o', e, -, x0, -, -, -⟩ := States.at_ hl.rows i hil
  injection e with e
  injection e with e1 e2
  subst e1 e2
  rw [hid] at x0
  have y0 : W.cell? ⟨gF, id, none⟩ = some (.int .i64 (natI (f id))) := by rw [hF.cell id, labC_get f id (by omega)]
  have hid1 : (id : Int) < 16 := by omega
  rw [← beq_natI]
  generalize natI (f id) = p at *
  generalize natI v = q at *
  clear hl hi hF hid
  go_enter Try.func71, Try.ntmps71
  go_wp2_with fail
  go_quiet (fail)
  go_wp2
  go_ret
  exact ⟨rfl, below_drewN (Below.refl _ _) _⟩

theorem init_step {x k : Nat} (hx : x ≠ k) : (if x < k + 1 then x else 0) = if x < k then x else 0 := by
  by_cases h : x < k
  · rw [if_pos (by omega), if_pos h]
  · rw [if_neg (by omega), if_neg h]
theorem leads_some_len {l : List Stt} {n : Nat} (h : leadN l n = true) : 0 < (candsOf (countedL l) (n : Int)).length := by
  unfold leadN leadsB at h
  rw [List.any_eq_true] at h
  obtain ⟨x, hx, _⟩ := h
  exact List.length_pos_of_mem hx
theorem own_cap {w : World} {B : Nat} {A : Option Addr} {n cap : Nat} {l : List Int} (h : OwnI w B (.slice A n cap) l) : n ≤ cap := by
  rcases h.2 with ⟨hv, hn⟩ | ⟨g, cap', cur, hv, hb, hg, hnc, hcm, hcs, ht⟩
  · simp only [Value.slice.injEq] at hv
    omega
  · simp only [Value.slice.injEq] at hv
    omega
theorem lanF_succ {on : Nat → List Nat} {lead : Nat → Bool} {f : Nat → Nat} {lan p : Nat} {T : List Nat} {m : Nat} (hl : lead lan = true) (ho : on lan = p :: T) (hm : m < T.length) : lanF on lead f lan (m + 1) = unionF (lanF on lead f lan m) p T[m] := by
  unfold lanF
  rw [if_pos hl, if_pos hl, ho]
  simp only [List.tail_cons, List.headD_cons]
  exact foldl_take_succ (fun f id => unionF f p id) T f m hm
theorem on_low {l : List Stt} {lan n : Nat} (h : n ∈ onN l lan) : n < 16 := (mem_idsL.1 (on_sub h)).1
theorem lab_step {F : Nat → Nat} {p q x k : Nat} (hx : x ≠ k) : (if x < k + 1 then unionF F p q x else F x) = if x < k then unionF F p q x else F x := by
  by_cases h : x < k
  · rw [if_pos (by omega), if_pos h]
  · rw [if_neg (by omega), if_neg h]
theorem max_val (a b : Nat) : (if a < b then (b : Int) else (a : Int)) = ((max a b : Nat) : Int) := by
  by_cases h : a < b
  · rw [if_pos h, Nat.max_eq_right (by omega)]
  · rw [if_neg h, Nat.max_eq_left (by omega)]
theorem min_val (a b : Nat) : (if b < a then (b : Int) else (a : Int)) = ((min a b : Nat) : Int) := by
  by_cases h : b < a
  · rw [if_pos h, Nat.min_eq_right (by omega)]
  · rw [if_neg h, Nat.min_eq_left (by omega)]
theorem union_val {F : Nat → Nat} {p q k : Nat} (h : ((F k : Int) == if F p < F q then (F q : Int) else (F p : Int)) = true) : natI (unionF F p q k) = if F q < F p then (F q : Int) else (F p : Int) := by
  rw [beq_iff_eq, max_val] at h
  unfold unionF natI
  rw [if_pos (by omega), min_val]
theorem lab_skip {F : Nat → Nat} {p q k : Nat} (h : ((F k : Int) == if F p < F q then (F q : Int) else (F p : Int)) = false) (x : Nat) : (if x < k + 1 then unionF F p q x else F x) = if x < k then unionF F p q x else F x := by
  by_cases hx : x = k
  · subst hx
    rw [if_pos (by omega), if_neg (by omega)]
    rw [beq_eq_false_iff_ne, max_val] at h
    unfold unionF
    rw [if_neg (fun e => h (by omega))]
  · exact lab_step hx
theorem rows_set {wr : World} {B b4 o4 g n : Nat} {u : Value} {L : List Int} (h : RowsAt 1 icell wr B (some ⟨b4, o4, none⟩) L) (hne : b4 ≠ g) : RowsAt 1 icell (wr.setCell ⟨g, n, none⟩ u) (wr.setCell ⟨g, n, none⟩ u).heap.size (some ⟨b4, o4, none⟩) L := fun h0 => by
  obtain ⟨b', o', e, hb, hc⟩ := h h0
  refine ⟨b', o', e, ?_, fun k hk i v hi hv => ?_⟩
  · have hc0 := hc 0 h0 0 (.int .i64 L[0]) (by omega) rfl
    have := World.block_lt_of_cell? wr _ hc0
    simpa using this
  · injection e with e
    injection e with e1 e2
    subst e1 e2
    exact (World.cell?_setCell_other (w := wr) (a := ⟨g, n, none⟩) (b := ⟨b4, o4 + k * 1 + i, none⟩) (v := u) (by intro e; injection e with e; exact hne e.symm)).trans (hc k hk i v hi hv)
theorem partsA_succ (l : List Stt) (k : Nat) : partsA l (k + 1) = partsA l k ++ (if 0 < (selV l k).length then [selV l k] else []) := by
  unfold partsA
  rw [List.range_succ, List.map_append, List.filter_append]
  congr 1
  by_cases h : 0 < (selV l k).length <;> simp [h]
theorem partsA_len (l : List Stt) (k : Nat) : (partsA l k).length ≤ k := by
  unfold partsA
  have := List.length_filter_le (fun p : List Int => decide (0 < p.length)) ((List.range k).map (selV l))
  simpa using this
theorem union_max (a b : Nat) : max (natI a) (natI b) = natI (max a b) ∧ min (natI a) (natI b) = natI (min a b) := by
  unfold natI
  constructor <;> omega

set_option maxHeartbeats 8000000 in
set_option maxRecDepth 100000 in
theorem parts_any (A : Option Addr) (cap : Nat) (l : List Stt) (w : World) (B : Nat) (hl : StatesAt w B A l) (hB : B ≤ w.heap.size) (hlen : l.length ≤ maxLen) :
    Calls Try.prog 26 #[.slice A l.length cap] w fun r w' => ∃ v L, r = .returned v ∧ OwnLL w' w.heap.size v L ∧ L.map Prod.snd = partsA l 16 ∧ Below w.heap.size w w' := by
  obtain ⟨b, o, htb, hlb⟩ := tbl_some hl
  have Hcnt := Lib.hid (counted_any A cap l w B hl.rows hB hlen)
  have Hlb := Lib.hid (hlb.more hB)
  have Htb := Lib.hid htb
  clear hl hlb htb hB
  go_enter Try.func26, Try.ntmps26
  go_wp2_with (go_at_call 62; (with_reducible refine Calls.mono Hcnt.out ?_); rintro r w1 ⟨rfl, hT, hb1⟩; rw [Htb.out] at hT; have HT := Lib.hid hT; have Hb1 := Lib.hid hb1; clear hT hb1)
  have hstart : PaAt w (w1.alloc (.cells #[.int .i64 0, .int .i64 0, .int .i64 0, .int .i64 0, .int .i64 0, .int .i64 0, .int .i64 0, .int .i64 0, .int .i64 0, .int .i64 0, .int .i64 0, .int .i64 0, .int .i64 0, .int .i64 0, .int .i64 0, .int .i64 0] 136)) w.heap.size w1.heap.size b o l (fun _ => 0) :=
    ⟨HT.out.alloc _, by rw [labC_zero]; exact Blk.new _ _ _, Nat.ne_of_lt HT.out.lt, states_low Hlb.out (Nat.le_refl _) (Hb1.out.alloc Hb1.out.size _), Hb1.out.size, Hb1.out.alloc Hb1.out.size _⟩
  have Hstart := Lib.hid hstart
  have hggF : w.heap.size < w1.heap.size := HT.out.lt
  clear hstart
  go_loopw [18] (fun i wr => ∃ k : Nat, k ≤ 16 ∧ i = .int .i64 k ∧ PaAt w wr w.heap.size w1.heap.size b o l (fun x => if x < k then x else 0)) (fun i _ => 16 - (intOf i).toNat)
  case atStart => exact ⟨0, Nat.zero_le _, rfl, Hstart.out.to (fun k _ => by simp)⟩
  case round =>
    obtain ⟨k, hk, rfl, hpa⟩ := hrel
    by_cases hkt : k < 16
    · have hkl : (k : Int) < 16 := by omega
      have x0 : wr.cell? ⟨w1.heap.size, k, none⟩ = some (.int .i64 (natI 0)) := by
        rw [hpa.lab.cell k, labC_get _ k hkt]
        show some (Value.int .i64 (natI (if k < k then k else 0))) = _
        rw [if_neg (Nat.lt_irrefl k)]
      have f0 := hpa.lab.frozen k
      unfold natI at x0
      have Hpa := Lib.hid hpa
      clear hpa
      go_wp2
      go_roundw
      case measure => simp [intOf]; omega
      case rel =>
        have h := Hpa.out.put (f' := fun x => if x < k + 1 then x else 0) Hlb.out hkt (fun x _ hx => init_step hx)
        simp only [Nat.lt_succ_self, if_true, natI] at h
        exact ⟨k + 1, hkt, by go_num, h⟩
    · have hk16 : k = 16 := by omega
      subst hk16
      have Hpa := Lib.hid (hpa.to (f' := labF (onN l) (leadN l) 0) (fun k hk => by simp [labF, hk]))
      clear hpa
      go_wp2
      go_loopw [25] (fun i wr => ∃ n : Nat, n ≤ 4 ∧ i = .int .i64 n ∧ PaAt w wr w.heap.size w1.heap.size b o l (labF (onN l) (leadN l) n)) (fun i _ => 4 - (intOf i).toNat)
      case atStart => exact ⟨0, Nat.zero_le _, rfl, Hpa.out⟩
      case round =>
        obtain ⟨n, hn, rfl, hpa⟩ := hrel
        by_cases hnt : n < 4
        · have hnl : (n : Int) < 4 := by omega
          have hlab : labF (onN l) (leadN l) (n + 1) = lanF (onN l) (leadN l) (labF (onN l) (leadN l) n) n (onN l n).tail.length := rfl
          generalize labF (onN l) (leadN l) n = f at *
          have Hpa := Lib.hid hpa
          have Hlab := Lib.hid hlab
          clear hpa hlab
          have hcl := candsOf_len l (n : Int)
          go_wp2_with fail
          with_reducible refine Calls.mono (cands_any w.heap.size b o (n : Int) l _ Hpa.out.tbl Hpa.out.sts) ?_
          rintro r w2 ⟨v2, rfl, hown2, hb2⟩
          obtain ⟨A2, c2, rfl, hca2⟩ := OwnC.shape hown2
          have Hca2 := Lib.hid hca2
          have Hpa := Lib.hid (Hpa.out.below hb2)
          clear hown2 hca2 hb2
          go_wp2_with fail
          cases hlead : leadN l n
          all_goals have hl' : leadsB (candsOf (countedL l) (n : Int)) 0 = _ := hlead
          · with_reducible refine Calls.mono (leads_any _ _ _ (candsOf (countedL l) (n : Int)) 0 _ _ Hca2.out (Nat.le_refl _) (by unfold maxLen; omega) rfl hl') ?_
            rintro r w3 ⟨rfl, hb3⟩
            have Hpa := Lib.hid (Hpa.out.below hb3)
            have Hle := Lib.hid hlead
            clear hb3 hlead hl'
            go_wp2
            go_roundw
            case measure => simp [intOf]; omega
            case rel =>
              have h := Hpa.out.to (f' := labF (onN l) (leadN l) (n + 1)) (fun k _ => by rw [Hlab.out]; unfold lanF; rw [if_neg (by rw [Hle.out]; simp)])
              first
                | exact ⟨n + 1, hnt, by go_num, h⟩
                | (repeat apply Exists.intro
                   exact ⟨⟨n + 1, hnt, by go_num, h⟩, rfl⟩)
          · with_reducible refine Calls.mono (leads_any _ _ _ (candsOf (countedL l) (n : Int)) 0 _ _ Hca2.out (Nat.le_refl _) (by unfold maxLen; omega) rfl hl') ?_
            rintro r w3 ⟨rfl, hb3⟩
            have Hpa := Lib.hid (Hpa.out.below hb3)
            have Hle := Lib.hid hlead
            clear hb3 hlead hl'
            go_wp2_with fail
            have hlt3 := Hpa.out.lab.lt
            with_reducible refine Calls.mono (on_any w.heap.size b o (n : Int) l _ Hpa.out.tbl Hpa.out.sts) ?_
            rintro r w4 ⟨v4, rfl, hown4, hb4⟩
            have Hpa := Lib.hid (Hpa.out.below hb4)
            obtain ⟨A4, c4, rfl⟩ := hown4.shape
            have hon : (onIds l (n : Int)).length ≤ 16 := onIds_len l n
            have hne : 0 < (onIds l (n : Int)).length := by
              have h1 := leads_some_len Hle.out
              have h2 := congrArg List.length (on_ids l (n : Int))
              unfold onOf at h2
              simp only [List.length_map] at h2
              omega
            have Hown := Lib.hid hown4.rows1.2
            have hcap := own_cap hown4
            have hblk : ∀ b' o', A4 = some ⟨b', o', none⟩ → w1.heap.size < b' := fun b' o' e => by
              have h := (hown4.block b' (by rw [e]; rfl)).1
              exact Nat.lt_of_lt_of_le hlt3 h
            clear hown4 hb4
            rcases hO : onIds l (n : Int) with _ | ⟨p, T⟩
            · rw [hO] at hne; simp at hne
            · rw [hO] at Hown hon hcap
              simp only [List.map_cons, List.length_cons, List.length_map] at hcap hon
              have hT15 : T.length ≤ 15 := by omega
              have HO := Lib.hid hO
              obtain ⟨b4, o4, e4, x4⟩ := row_int Hown.out 0 (by simp)
              have hb4g := hblk b4 o4 e4
              clear hblk hlt3
              subst e4
              simp only [List.map_cons, List.getElem_cons_zero, Nat.add_zero] at x4
              have hlabT : labF (onN l) (leadN l) (n + 1) = lanF (onN l) (leadN l) f n T.length := by rw [Hlab.out]; unfold onN; rw [HO.out]; rfl
              have HlabT := Lib.hid hlabT
              clear hlabT
              go_wp2
              all_goals
                go_loopw [39] (fun i wr => ∃ m : Nat, m ≤ T.length ∧ i = .int .i64 m ∧ PaAt w wr w.heap.size w1.heap.size b o l (lanF (onN l) (leadN l) f n m) ∧ RowsAt 1 icell wr wr.heap.size (some ⟨b4, o4, none⟩) ((p :: T).map natI)) (fun i _ => T.length - (intOf i).toNat)
                case atStart => exact ⟨0, Nat.zero_le _, rfl, Hpa.out.to (fun k _ => by unfold lanF; rw [if_pos Hle.out]; rfl), Hown.out⟩
                case round =>
                  obtain ⟨wo, rfl⟩ : ∃ wo : World, wo = wr := ⟨_, rfl⟩
                  obtain ⟨m, hm, rfl, hpm, hrow⟩ := hrel
                  by_cases hmt : m < T.length
                  · try (exfalso; omega)
                    all_goals
                      have hml : (m : Int) < (T.length : Int) := by omega
                      obtain ⟨bx, ox, ex, xm⟩ := row_int hrow (m + 1) (by simp; omega)
                      injection ex with ex
                      injection ex with ex1 ex2
                      subst ex1 ex2
                      obtain ⟨by', oy, ey, xp⟩ := row_int hrow 0 (by simp)
                      injection ey with ey
                      injection ey with ey1 ey2
                      subst ey1 ey2
                      simp only [List.map_cons, List.getElem_cons_succ, List.getElem_map, List.getElem_cons_zero, Nat.add_zero] at xm xp
                      rw [show o4 + (m + 1) = o4 + 1 + m by omega] at xm
                      have hnext := lanF_succ (on := onN l) (lead := leadN l) (f := f) (lan := n) Hle.out (show onN l n = p :: T from HO.out) hmt
                      have hp16 := on_low (show p ∈ onN l n by unfold onN; rw [HO.out]; exact List.mem_cons_self)
                      have hq16 := on_low (show T[m] ∈ onN l n by unfold onN; rw [HO.out]; exact List.mem_cons_of_mem _ (List.getElem_mem hmt))
                      obtain ⟨q, hq⟩ : ∃ q, T[m] = q := ⟨_, rfl⟩
                      rw [hq] at xm hnext hq16
                      generalize lanF (onN l) (leadN l) f n m = F at *
                      have yp : wo.cell? ⟨w1.heap.size, p, none⟩ = some (.int .i64 (natI (F p))) := by rw [hpm.lab.cell p, labC_get _ p hp16]
                      have yq : wo.cell? ⟨w1.heap.size, q, none⟩ = some (.int .i64 (natI (F q))) := by rw [hpm.lab.cell q, labC_get _ q hq16]
                      have hp1 : (p : Int) < 16 := by omega
                      have hq1 : (q : Int) < 16 := by omega
                      unfold natI at xm xp yp yq
                      have Hpm := Lib.hid hpm
                      have Hrow := Lib.hid hrow
                      have Hnext := Lib.hid hnext
                      clear hpm hrow hnext hq
                      go_wp2_with fail
                      go_quiet (fail)
                      go_wp2
                      go_loopw [51] (fun i wr => ∃ k : Nat, k ≤ 16 ∧ i = .int .i64 k ∧ PaAt w wr w.heap.size w1.heap.size b o l (fun x => if x < k then unionF F p q x else F x) ∧ RowsAt 1 icell wr wr.heap.size (some ⟨b4, o4, none⟩) ((p :: T).map natI)) (fun i _ => 16 - (intOf i).toNat)
                      case atStart => exact ⟨0, Nat.zero_le _, rfl, (Hpm.out.below (below_drewN (Below.refl _ _) nq)).to (fun k _ => by simp), (Hrow.out.below (below_drewN (Below.refl _ _) nq))⟩
                      case round =>
                        obtain ⟨k, hk, rfl, hpk, hrk⟩ := hrel
                        by_cases hkt : k < 16
                        · have hkl : (k : Int) < 16 := by omega
                          have yk : wr.cell? ⟨w1.heap.size, k, none⟩ = some (.int .i64 (natI (F k))) := by
                            rw [hpk.lab.cell k, labC_get _ k hkt]
                            show some (Value.int .i64 (natI (if k < k then unionF F p q k else F k))) = _
                            rw [if_neg (Nat.lt_irrefl k)]
                          have fk := hpk.lab.frozen k
                          unfold natI at yk
                          have Hpk := Lib.hid hpk
                          have Hrk := Lib.hid hrk
                          clear hpk hrk
                          go_wp2
                          · have ht : ((F k : Int) == if F p < F q then (F q : Int) else (F p : Int)) = true := by assumption
                            have hput := Hpk.out.put (f' := fun x => if x < k + 1 then unionF F p q x else F x) Hlb.out hkt (fun x _ hx => lab_step hx)
                            have hv := union_val ht
                            simp only [Nat.lt_succ_self, if_true, hv] at hput
                            have Hput := Lib.hid hput
                            have Hrs := Lib.hid (rows_set (g := w1.heap.size) (n := k) (u := .int .i64 (if F q < F p then (F q : Int) else (F p : Int))) Hrk.out (Nat.ne_of_gt hb4g))
                            clear ht hput hv
                            go_roundw
                            case measure => simp [intOf]; omega
                            case rel => exact ⟨k + 1, hkt, by go_num, Hput.out, Hrs.out⟩
                          · have ht : ((F k : Int) == if F p < F q then (F q : Int) else (F p : Int)) = false := by assumption
                            have hto := Hpk.out.to (f' := fun x => if x < k + 1 then unionF F p q x else F x) (fun x _ => lab_skip ht x)
                            have Hto := Lib.hid hto
                            clear ht hto
                            go_roundw
                            case measure => simp [intOf]; omega
                            case rel => exact ⟨k + 1, hkt, by go_num, Hto.out, Hrk.out⟩
                        · have hk16 : k = 16 := by omega
                          subst hk16
                          have hto := hpk.to (f' := lanF (onN l) (leadN l) f n (m + 1)) (fun x hx => by rw [Hnext.out]; show _ = if x < 16 then unionF F p q x else F x; rw [if_pos hx])
                          have Hto := Lib.hid hto
                          have Hrk := Lib.hid hrk
                          clear hpk hrk hto
                          go_wp2
                          go_roundw
                          case measure => simp [intOf]; omega
                          case rel => first
                            | exact ⟨m + 1, hmt, by go_num, Hto.out, Hrk.out⟩
                            | (repeat apply Exists.intro
                               exact ⟨⟨m + 1, hmt, by go_num, Hto.out, Hrk.out⟩, rfl⟩)
                  · have hmm : m = T.length := by omega
                    subst hmm
                    have h := hpm.to (f' := labF (onN l) (leadN l) (n + 1)) (fun k _ => by rw [HlabT.out])
                    have Hh := Lib.hid h
                    clear hpm hrow h
                    go_wp2
                    go_roundw
                    case measure => simp [intOf]; omega
                    case rel => first
                      | exact ⟨n + 1, hnt, by go_num, Hh.out⟩
                      | (repeat apply Exists.intro
                         exact ⟨⟨n + 1, hnt, by go_num, Hh.out⟩, rfl⟩)
        · have hn4 : n = 4 := by omega
          subst hn4
          have Hpa := Lib.hid (show PaAt w wr w.heap.size w1.heap.size b o l (labL l) from hpa)
          clear hpa
          go_wp2
          go_loopw [13, 69] (fun v i wr => ∃ (k : Nat) (L : List VL), k ≤ 16 ∧ i = .int .i64 k ∧ PaAt w wr w.heap.size w1.heap.size b o l (labL l) ∧ OwnLL wr (w1.heap.size + 1) v L ∧ L.map Prod.snd = partsA l k) (fun _ i _ => 16 - (intOf i).toNat)
          case atStart => exact ⟨0, [], Nat.zero_le _, rfl, Hpa.out, OwnLL.nil _ _, rfl⟩
          case round =>
            obtain ⟨k, L, hk, rfl, hpk, hll, hLe⟩ := hrel
            obtain ⟨A3, c3, hv3⟩ := hll.shape
            subst hv3
            by_cases hkt : k < 16
            · have hkl : (k : Int) < 16 := by omega
              have hps := partsA_succ l k
              have hpl := partsA_len l k
              have hL16 : L.length ≤ 16 := by have := congrArg List.length hLe; simp only [List.length_map] at this; omega
              have hnum := numbers_any w.heap.size b o l 71 #[.pointer (some ⟨w1.heap.size, 0, none⟩), .pointer (some ⟨wr.heap.size, 0, none⟩)] call_parts1 (fun x => labL l x == k) (wr.alloc (.cells #[.int .i64 (k : Int)] 3)) (hpk.tbl.alloc _) (fun W hW id i hi => by
                have h1 := hpk.below ((Below.refl _ _).alloc (Nat.le_refl _) (.cells #[.int .i64 (k : Int)] 3))
                have h2 := h1.below hW
                exact parts1_any b o i id w1.heap.size wr.heap.size k l (labL l) W W.heap.size h2.sts hi h2.lab (((Blk.new wr _ _).below hW (by simp)).cell 0))
              have hlo : w1.heap.size + 1 ≤ (wr.alloc (.cells #[.int .i64 (k : Int)] 3)).heap.size := by have := hpk.lab.lt; simp; omega
              have Hnum := Lib.hid hnum
              have Hps := Lib.hid hps
              have Hpk := Lib.hid (hpk.below ((Below.refl _ _).alloc (Nat.le_refl _) (.cells #[.int .i64 (k : Int)] 3)))
              have Hll := Lib.hid (hll.alloc (.cells #[.int .i64 (k : Int)] 3))
              have HLe := Lib.hid hLe
              clear hnum hps hpk hll hLe hpl
              go_wp2_with fail
              with_reducible refine Calls.mono Hnum.out ?_
              rintro r w2 ⟨v2, rfl, hown2, hb2⟩
              obtain ⟨A2, c2, rfl⟩ := hown2.shape
              have Hown2 := Lib.hid (show OwnI w2 (wr.alloc (.cells #[.int .i64 (k : Int)] 3)).heap.size (.slice A2 (selV l k).length c2) (selV l k) from hown2)
              have Hpk := Lib.hid (Hpk.out.below hb2)
              have Hll0 := Hll
              have Hll := Lib.hid (Hll.out.below hb2)
              have Hnew := Lib.hid (show ∀ j, (Value.slice A3 L.length c3).ownBlock = some j → j < (wr.alloc (.cells #[.int .i64 (k : Int)] 3)).heap.size from fun j e => (Hll0.out.block j e).2)
              have Hlo := Lib.hid hlo
              have hlen2 : (w1.heap.size + 1 : Nat) ≤ w2.heap.size := Nat.le_trans hlo hb2.size
              clear hown2 hb2 Hll0 hlo
              by_cases hp : 0 < (selV l k).length
              · have hp' : (0 : Int) < ((selV l k).length : Int) := by omega
                go_wp2_with (at_builtin; go_must ((refine app_ll rfl _ _ rfl (w1.heap.size + 1) (.slice A3 L.length c3) L rfl (Hll.out.alloc _) w2.heap.size (.slice A2 (selV l k).length c2, selV l k) rfl (by exact Blk.new _ _ _) ((Hown2.out.lower Hlo.out).alloc _) (new_apart (fun j e => (Hown2.out.block j e).1) Hnew.out) (by omega) (by simp; omega) ?_; intro v5 w5 hll5 hg5 hv5; have Hll5 := Lib.hid hll5; have Hpk5 := Lib.hid ((Hpk.out.below ((Below.refl _ _).alloc (Nat.le_refl _) (.cells #[.slice A2 (selV l k).length c2] 26))).grown Hlb.out hg5 (fun j e => (Hll.out.block j e).1) hggF); clear hll5 hg5 hv5)))
                go_roundw
                case measure => simp [intOf]; omega
                case rel => first
                  | exact ⟨k + 1, L ++ [(.slice A2 (selV l k).length c2, selV l k)], hkt, by go_num, Hpk5.out, Hll5.out, by rw [Hps.out, if_pos hp]; simp [HLe.out]⟩
                  | (repeat apply Exists.intro
                     exact ⟨⟨k + 1, L ++ [(.slice A2 (selV l k).length c2, selV l k)], hkt, by go_num, Hpk5.out, Hll5.out, by rw [Hps.out, if_pos hp]; simp [HLe.out]⟩, rfl⟩)
              · have hp' : ¬ (0 : Int) < ((selV l k).length : Int) := by omega
                go_wp2
                go_roundw
                case measure => simp [intOf]; omega
                case rel => first
                  | exact ⟨k + 1, L, hkt, by go_num, Hpk.out, Hll.out, by rw [Hps.out, if_neg hp]; simp [HLe.out]⟩
                  | (repeat apply Exists.intro
                     exact ⟨⟨k + 1, L, hkt, by go_num, Hpk.out, Hll.out, by rw [Hps.out, if_neg hp]; simp [HLe.out]⟩, rfl⟩)
            · have hk16 : k = 16 := by omega
              subst hk16
              have Hpk := Lib.hid hpk
              have Hll := Lib.hid hll
              have HLe := Lib.hid hLe
              clear hpk hll hLe
              go_wp2
              go_ret
              first
                | exact ⟨.slice A3 L.length c3, L, rfl, Hll.out.lower (by omega), HLe.out, Hpk.out.bel⟩
                | exact ⟨.slice A3 L.length c3, rfl, L, Hll.out.lower (by omega), HLe.out, Hpk.out.bel⟩

end Go.Proofs.Ytfhikkmgclkcdaa
