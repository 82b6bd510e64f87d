/-
  Layer 27 in plain Lean: the parts by labels are the reference's parts.
-/
import Derived.Test.YtfhikkmgclkcdaaAuRefParts
namespace Go.Proofs.Ytfhikkmgclkcdaa

def idsL (l : List Stt) : List Nat := (List.range 16).filter fun id => (tblI l id).isSome
theorem mem_idsL {l : List Stt} {n : Nat} : n ∈ idsL l ↔ n < 16 ∧ (tblI l n).isSome = true := by
  unfold idsL
  rw [List.mem_filter, List.mem_range]
theorem ids_map (l : List Stt) : (countedL l).map Stt.id = (idsL l).map natI := by
  unfold countedL idsL
  have key : ∀ L : List Nat, (L.filterMap fun id => (tblI l id).map fun i => l.getD i default).map Stt.id = (L.filter fun id => (tblI l id).isSome).map natI := by
    intro L
    induction L with
    | nil => rfl
    | cons x L ih =>
      rcases h : tblI l x with _ | i
      · simp only [List.filterMap_cons, h, Option.map_none, List.filter_cons, Option.isSome_none, Bool.false_eq_true, if_false]
        exact ih
      · obtain ⟨hi, he, _⟩ := tblI_id h
        simp only [List.filterMap_cons, h, Option.map_some, List.filter_cons, Option.isSome_some, if_true, List.map_cons, ih]
        congr 1
        simp [List.getD, hi, he, natI]
  exact key _
def leadN (l : List Stt) (lan : Nat) : Bool := leadsB (candsOf (countedL l) (lan : Int)) 0
def onN (l : List Stt) (lan : Nat) : List Nat := onIds l (lan : Int)
theorem on_sub {l : List Stt} {lan n : Nat} (h : n ∈ onN l lan) : n ∈ idsL l := by
  unfold onN onIds at h
  rw [List.mem_filter, List.mem_range] at h
  rw [mem_idsL]
  refine ⟨h.1, ?_⟩
  have := h.2
  unfold onB at this
  rcases e : tblI l n with _ | i
  · rw [e] at this; cases this
  · rfl
theorem on_contains (l : List Stt) (lan n : Nat) : (onOf (countedL l) (lan : Int)).contains (natI n) = true ↔ n ∈ onN l lan := by
  rw [on_ids, List.contains_iff_mem, List.mem_map]
  constructor
  · rintro ⟨m, hm, e⟩
    have : m = n := by unfold natI at e; omega
    exact this ▸ hm
  · intro h
    exact ⟨n, h, rfl⟩
theorem jC_iff (l : List Stt) (a b : Nat) : jC (countedL l) a b = true ↔ Jn (onN l) (leadN l) 4 a b := by
  unfold jC joinB Jn
  rw [List.any_eq_true]
  constructor
  · rintro ⟨lan, hlan, h⟩
    unfold joinL at h
    simp only [Bool.and_eq_true] at h
    exact ⟨lan, List.mem_range.1 hlan, h.1.1, (on_contains l lan a).1 h.1.2, (on_contains l lan b).1 h.2⟩
  · rintro ⟨lan, hlan, hl, ha, hb⟩
    refine ⟨lan, List.mem_range.2 hlan, ?_⟩
    unfold joinL
    rw [(on_contains l lan a).2 ha, (on_contains l lan b).2 hb, Bool.and_true, Bool.and_true]
    exact hl
def labL (l : List Stt) : Nat → Nat := labF (onN l) (leadN l) 4
theorem lab_le (l : List Stt) (n : Nat) : labL l n ≤ n := (lab_inv 4 (Nat.le_refl _)).le n
theorem lab_idem (l : List Stt) (n : Nat) : labL l (labL l n) = labL l n := (lab_inv 4 (Nat.le_refl _)).idem n
theorem lab_ids {l : List Stt} {a b : Nat} (h : labL l a = labL l b) (ha : a ∈ idsL l) : b ∈ idsL l :=
  (lab_iff a b).1 h (fun n => n ∈ idsL l) (fun _ _ ⟨_, _, _, _, hb⟩ _ => on_sub hb) ha
def partS (l : List Stt) (id : Nat) : Nat → Bool := iterS (jC (countedL l)) (idsL l) (setS (fun _ => false) id) 16
theorem partS_iff {l : List Stt} {id : Nat} (hid : id ∈ idsL l) (n : Nat) : partS l id n = true ↔ labL l n = labL l id := by
  have h16 : id < 16 := (mem_idsL.1 hid).1
  have hs : setS (fun _ => false) id id = true := by simp [setS]
  constructor
  · intro h
    refine iter_sound (T := fun n => labL l n = labL l id) (fun a b hj ha => ?_) (fun k hk => ?_) 16 n h
    · exact (lab_join 4 a b ((jC_iff l a b).1 hj)).symm.trans ha
    · have hk : k = id := by
        unfold setS at hk
        split at hk
        · assumption
        · cases hk
      rw [hk]
  · intro h
    refine (lab_iff id n).1 h.symm (fun k => partS l id k = true) (fun a b hj ha => ?_) (iter_mono hs 16)
    exact iter_closed (fun x hx => (mem_idsL.1 hx).1) (fun a b hab => by
      obtain ⟨_, _, _, h1, h2⟩ := (jC_iff l a b).1 hab
      exact ⟨on_sub h1, on_sub h2⟩) h16 hs a b ((jC_iff l a b).2 hj) ha
def partP (l : List Stt) (id : Nat) : List Int := outS (partS l id) 16
def selV (l : List Stt) (v : Nat) : List Int := selK l (fun x => labL l x == v) 16
theorem part_sel {l : List Stt} {id : Nat} (hid : id ∈ idsL l) : partP l id = selV l (labL l id) := by
  unfold partP selV outS selK
  congr 1
  refine List.filter_congr fun n hn => ?_
  have hn16 : n < 16 := List.mem_range.1 hn
  rw [Bool.eq_iff_iff]
  simp only [Bool.and_eq_true, decide_eq_true_eq, beq_iff_eq]
  constructor
  · rintro ⟨_, hs⟩
    have hl := (partS_iff hid n).1 hs
    exact ⟨(mem_idsL.1 (lab_ids hl.symm hid)).2, hl⟩
  · rintro ⟨hi, hl⟩
    refine ⟨?_, (partS_iff hid n).2 hl⟩
    rcases h : tblI l n with _ | i
    · rw [h] at hi; cases hi
    · exact (tblI_id h).2.2.1
/-- the program's parts: of each label that has some -/
def partsA (l : List Stt) (k : Nat) : List (List Int) := ((List.range k).map (selV l)).filter fun p => decide (0 < p.length)
theorem mem_selV {l : List Stt} {v n : Nat} : natI n ∈ selV l v ↔ n ∈ idsL l ∧ labL l n = v := by
  unfold selV selK
  rw [List.mem_map]
  constructor
  · rintro ⟨m, hm, e⟩
    have : m = n := by unfold natI at e; omega
    subst this
    rw [List.mem_filter, List.mem_range] at hm
    simp only [Bool.and_eq_true, beq_iff_eq] at hm
    exact ⟨mem_idsL.2 ⟨hm.1, hm.2.1⟩, hm.2.2⟩
  · rintro ⟨h, e⟩
    rw [mem_idsL] at h
    exact ⟨n, List.mem_filter.2 ⟨List.mem_range.2 h.1, by simp [h.2, e]⟩, rfl⟩
theorem selV_pos (l : List Stt) (v : Nat) : 0 < (selV l v).length ↔ v ∈ idsL l ∧ labL l v = v := by
  rw [List.length_pos_iff_exists_mem]
  constructor
  · rintro ⟨x, hx⟩
    obtain ⟨n, rfl⟩ : ∃ n, natI n = x := by
      unfold selV selK at hx
      rw [List.mem_map] at hx
      obtain ⟨n, _, e⟩ := hx
      exact ⟨n, e⟩
    obtain ⟨hn, e⟩ := mem_selV.1 hx
    have hv : labL l v = v := by rw [← e]; exact lab_idem l n
    exact ⟨lab_ids (e.trans hv.symm) hn, hv⟩
  · rintro ⟨h, e⟩
    exact ⟨natI v, mem_selV.2 ⟨h, e⟩⟩
theorem parts_eq (l : List Stt) : (partsR (partP l) (idsL l)).1 = partsA l 16 := by
  have hsort : (idsL l).Pairwise (· < ·) := List.Pairwise.sublist List.filter_sublist List.pairwise_lt_range
  have key : ∀ k, k ≤ (idsL l).length → (partsR (partP l) ((idsL l).take k)).1 = (((idsL l).take k).filter fun x => labL l x == x).map (partP l) ∧
      ∀ n, natI n ∈ (partsR (partP l) ((idsL l).take k)).2 ↔ ∃ x ∈ (idsL l).take k, labL l n = labL l x := by
    intro k
    induction k with
    | zero => intro _; simp [partsR]
    | succ k ih =>
      intro hk
      have hk' : k < (idsL l).length := by omega
      obtain ⟨h1, h2⟩ := ih (by omega)
      have hs : partsR (partP l) ((idsL l).take (k + 1)) = stepP (partP l) (partsR (partP l) ((idsL l).take k)) (idsL l)[k] := foldl_take_succ (stepP (partP l)) (idsL l) ([], []) k hk'
      have hid : (idsL l)[k] ∈ idsL l := List.getElem_mem hk'
      have hlow : ∀ x ∈ (idsL l).take k, x < (idsL l)[k] := by
        intro x hx
        obtain ⟨i, hi, rfl⟩ := List.getElem_of_mem hx
        simp only [List.length_take] at hi
        rw [List.getElem_take]
        exact List.pairwise_iff_getElem.1 hsort i k (by omega) hk' (by omega)
      have hall : ∀ x ∈ idsL l, x < (idsL l)[k] → x ∈ (idsL l).take k := by
        intro x hx hlt
        obtain ⟨i, hi, rfl⟩ := List.getElem_of_mem hx
        have hik : i < k := by
          rcases Nat.lt_or_ge i k with h | h
          · exact h
          · rcases Nat.lt_or_eq_of_le h with h | h
            · have := List.pairwise_iff_getElem.1 hsort k i hk' hi h
              omega
            · subst h; omega
        rw [List.mem_iff_getElem]
        exact ⟨i, by simp; omega, by simp⟩
      rw [hs, List.take_succ_eq_append_getElem hk']
      generalize (idsL l)[k] = id at *
      generalize partsR (partP l) ((idsL l).take k) = st at *
      generalize (idsL l).take k = L at *
      have hc : st.2.contains (natI id) = true ↔ ∃ x ∈ L, labL l id = labL l x := by rw [List.contains_iff_mem]; exact h2 id
      by_cases hf : labL l id = id
      · have hno : ¬ st.2.contains (natI id) = true := by
          rw [hc]
          rintro ⟨x, hx, e⟩
          have := lab_le l x
          have := hlow x hx
          omega
        unfold stepP
        rw [if_neg hno]
        refine ⟨?_, fun n => ?_⟩
        · simp only [List.filter_append, List.map_append, h1]
          simp [hf]
        · simp only [List.mem_append, h2, List.mem_singleton]
          rw [part_sel hid, mem_selV]
          constructor
          · rintro (⟨x, hx, e⟩ | ⟨_, e⟩)
            · exact ⟨x, .inl hx, e⟩
            · exact ⟨id, .inr rfl, e⟩
          · rintro ⟨x, hx | rfl, e⟩
            · exact .inl ⟨x, hx, e⟩
            · exact .inr ⟨lab_ids e.symm hid, e⟩
      · have hle := lab_le l id
        have hv : labL l (labL l id) = labL l id := lab_idem l id
        have hvm : labL l id ∈ idsL l := lab_ids hv.symm hid
        have hyes : st.2.contains (natI id) = true := hc.2 ⟨labL l id, hall _ hvm (by omega), hv.symm⟩
        unfold stepP
        rw [if_pos hyes]
        refine ⟨?_, fun n => ?_⟩
        · rw [h1, List.filter_append, List.map_append]
          simp [hf]
        · rw [h2]
          simp only [List.mem_append, List.mem_singleton]
          constructor
          · rintro ⟨x, hx, e⟩
            exact ⟨x, .inl hx, e⟩
          · rintro ⟨x, hx | rfl, e⟩
            · exact ⟨x, hx, e⟩
            · exact ⟨labL l x, hall _ hvm (by omega), e.trans hv.symm⟩
  have h := (key (idsL l).length (Nat.le_refl _)).1
  rw [List.take_length] at h
  rw [h]
  unfold partsA
  rw [List.filter_map]
  have e1 : (List.range 16).filter ((fun p : List Int => decide (0 < p.length)) ∘ selV l) = (idsL l).filter fun x => labL l x == x := by
    unfold idsL
    rw [List.filter_filter]
    refine List.filter_congr fun v hv => ?_
    simp only [Function.comp]
    rw [Bool.eq_iff_iff]
    simp only [decide_eq_true_eq, Bool.and_eq_true, beq_iff_eq]
    rw [selV_pos, mem_idsL]
    constructor
    · rintro ⟨⟨_, h⟩, e⟩; exact ⟨e, h⟩
    · rintro ⟨e, h⟩; exact ⟨⟨List.mem_range.1 hv, h⟩, e⟩
  rw [e1]
  refine List.map_congr_left fun x hx => ?_
  rw [List.mem_filter, beq_iff_eq] at hx
  rw [part_sel hx.1, hx.2]
/-- each that counts is of just one part -/
theorem parts_sum (l : List Stt) : ((partsA l 16).map List.length).sum = (countedL l).length := by
  have hlen : (countedL l).length = (idsL l).length := by simpa using congrArg List.length (ids_map l)
  rw [hlen]
  have hfil : ∀ L : List (List Int), ((L.filter fun p => decide (0 < p.length)).map List.length).sum = (L.map List.length).sum := by
    intro L
    induction L with
    | nil => rfl
    | cons x L ih =>
      by_cases h : 0 < x.length
      · simp [h, ih]
      · have h0 : x.length = 0 := by omega
        simp [ih, h0]
  unfold partsA
  rw [hfil, List.map_map]
  have hsel : ∀ v, (selV l v).length = ((idsL l).filter fun x => labL l x == v).length := by
    intro v
    unfold selV selK idsL
    rw [List.length_map, List.filter_filter]
    congr 1
    refine List.filter_congr fun x _ => ?_
    rw [Bool.and_comm]
  have hmap : (List.range 16).map (List.length ∘ selV l) = (List.range 16).map fun v => ((idsL l).filter fun x => labL l x == v).length := List.map_congr_left fun v _ => hsel v
  rw [hmap]
  have hlab : ∀ x ∈ idsL l, labL l x < 16 := fun x hx => by have := lab_le l x; have := (mem_idsL.1 hx).1; omega
  generalize idsL l = I at *
  clear hmap hsel hfil hlen
  induction I with
  | nil => rfl
  | cons x I ih =>
    have hx := hlab x List.mem_cons_self
    have ih' := ih fun y hy => hlab y (List.mem_cons_of_mem _ hy)
    have e1 : ∀ v, ((x :: I).filter fun y => labL l y == v).length = (I.filter fun y => labL l y == v).length + (if (labL l x == v) = true then 1 else 0) := by
      intro v
      rw [List.filter_cons]
      split <;> simp
    have e : ∀ K : List Nat, (K.map fun v => ((x :: I).filter fun y => labL l y == v).length).sum = (K.map fun v => (I.filter fun y => labL l y == v).length).sum + K.countP (fun v => labL l x == v) := by
      intro K
      induction K with
      | nil => rfl
      | cons v K ihK =>
        rw [List.map_cons, List.sum_cons, List.map_cons, List.sum_cons, ihK, List.countP_cons, e1]
        omega
    rw [e, ih', List.length_cons]
    have hone : (List.range 16).countP (fun v => labL l x == v) = 1 := by
      generalize labL l x = z at hx
      match z, hx with
      | 0, _ => rfl
      | 1, _ => rfl
      | 2, _ => rfl
      | 3, _ => rfl
      | 4, _ => rfl
      | 5, _ => rfl
      | 6, _ => rfl
      | 7, _ => rfl
      | 8, _ => rfl
      | 9, _ => rfl
      | 10, _ => rfl
      | 11, _ => rfl
      | 12, _ => rfl
      | 13, _ => rfl
      | 14, _ => rfl
      | 15, _ => rfl
      | n + 16, h => exact absurd h (by omega)
    rw [hone]

end Go.Proofs.Ytfhikkmgclkcdaa
