/-
  Plain laws of elections: the program's answer is the reference's.
-/
import Derived.Test.YtfhikkmgclkcdaaElectSpec
namespace Go.Proofs.Ytfhikkmgclkcdaa

theorem better_iff (a b : Cand) : betterB a b = true ↔ b.prio < a.prio ∨ (a.prio = b.prio ∧ b.id < a.id) := by
  unfold betterB
  by_cases h : a.prio = b.prio
  · simp [h]
  · simp [h]
theorem better_trans {a b c : Cand} (h : betterB a b = true) (h' : betterB b c = true) : betterB a c = true := by
  rw [better_iff] at *; omega
theorem better_total {a b : Cand} (h : a.id ≠ b.id) (h' : betterB a b = false) : betterB b a = true := by
  have h2 : ¬ betterB a b = true := by simp [h']
  rw [better_iff] at *; omega
theorem better_asymm {a b : Cand} (h : betterB a b = true) (h' : betterB b a = true) : False := by
  rw [better_iff] at *; omega

def insRev (c : Cand) : List Cand → List Cand
  | [] => [c]
  | d :: t => if betterB c d = true then d :: insRev c t else c :: d :: t

theorem length_sink' : ∀ (k : Nat) (l : List Cand), (sink k l).length = l.length
  | 0, l => rfl
  | k + 1, l => by
    rw [sink]
    split
    · split
      · rw [length_sink' k]; simp
      · rfl
    · rfl
theorem sink_append : ∀ (k : Nat) (l r : List Cand), k < l.length → sink k (l ++ r) = sink k l ++ r
  | 0, l, r, _ => rfl
  | k + 1, l, r, h => by
    rw [sink, sink]
    rw [List.getElem?_append_left h, List.getElem?_append_left (by omega), List.getElem?_eq_getElem h, List.getElem?_eq_getElem (show k < l.length by omega)]
    simp only
    split
    · rw [List.set_append_left _ _ h, List.set_append_left _ _ (by simp; omega), sink_append k _ _ (by simp; omega)]
    · rfl
theorem sink_ins (n : Nat) : ∀ (s : List Cand) (c : Cand), s.length = n → sink s.length (s ++ [c]) = (insRev c s.reverse).reverse := by
  induction n with
  | zero => intro s c h; have : s = [] := List.eq_nil_of_length_eq_zero h; subst this; rfl
  | succ n ih =>
    intro s c h
    obtain ⟨t, d, rfl⟩ : ∃ t d, s = t ++ [d] := by
      rcases List.eq_nil_or_concat s with rfl | ⟨t, d, h'⟩
      · simp at h
      · exact ⟨t, d, by simpa using h'⟩
    have ht : t.length = n := by simpa using h
    have hl : (t ++ [d]).length = t.length + 1 := by simp
    rw [hl, sink]
    have e1 : (t ++ [d] ++ [c])[t.length + 1]? = some c := by
      rw [List.getElem?_append_right (by simp)]; simp
    have e2 : (t ++ [d] ++ [c])[t.length]? = some d := by
      rw [List.getElem?_append_left (by simp), List.getElem?_append_right (by simp)]; simp
    rw [e1, e2]
    simp only [List.reverse_append, List.reverse_cons, List.reverse_nil, List.nil_append, List.cons_append, insRev]
    split
    · have : ((t ++ [d] ++ [c]).set (t.length + 1) d).set t.length c = t ++ [c] ++ [d] := by
        rw [List.append_assoc, List.set_append_right _ _ (by omega), List.set_append_right _ _ (by omega)]
        simp
      rw [this, sink_append _ _ _ (by simp), ih t c ht]
      simp
    · simp

theorem mem_insRev (c x : Cand) : ∀ r, x ∈ insRev c r ↔ x = c ∨ x ∈ r
  | [] => by simp [insRev]
  | d :: t => by
    rw [insRev]
    split
    · rw [List.mem_cons, mem_insRev c x t, List.mem_cons]
      constructor
      · rintro (h | h | h) <;> simp [h]
      · rintro (h | h | h) <;> simp [h]
    · simp
theorem insRev_sorted (c : Cand) : ∀ r, r.Pairwise (fun a b => betterB b a = true) → (∀ x ∈ r, x.id ≠ c.id) → (insRev c r).Pairwise (fun a b => betterB b a = true)
  | [], _, _ => by simp [insRev]
  | d :: t, h, hid => by
    rw [insRev]
    have h1 := List.pairwise_cons.1 h
    split
    · rename_i hb
      refine List.pairwise_cons.2 ⟨fun x hx => ?_, insRev_sorted c t h1.2 fun x hx => hid x (by simp [hx])⟩
      rcases (mem_insRev c x t).1 hx with rfl | hx
      · exact hb
      · exact h1.1 x hx
    · rename_i hb
      have hd : betterB d c = true := better_total (fun e => hid d (by simp) e.symm) (by simpa using hb)
      refine List.pairwise_cons.2 ⟨fun x hx => ?_, h⟩
      rcases List.mem_cons.1 hx with rfl | hx
      · exact hd
      · exact better_trans (h1.1 x hx) hd

/-- sorted: the ones that may be elected, the best first -/
structure Srt (l s : List Cand) : Prop where
  mem : ∀ x, x ∈ s ↔ x ∈ l ∧ 0 < x.prio
  pw : s.Pairwise fun a b => betterB a b = true

def Distinct (l : List Cand) : Prop := l.Pairwise fun a b => a.id ≠ b.id

theorem sorted_srt_aux : ∀ (l pre s : List Cand), Srt pre s → Distinct (pre ++ l) → Srt (pre ++ l) (l.foldl sortStep s)
  | [], pre, s, h, _ => by simpa using h
  | c :: l, pre, s, h, hd => by
    rw [List.foldl_cons]
    have hd' : Distinct ((pre ++ [c]) ++ l) := by simpa using hd
    have := sorted_srt_aux l (pre ++ [c]) (sortStep s c) ?_ hd'
    · simpa using this
    · unfold sortStep
      split
      · rename_i hp
        refine ⟨fun x => ?_, h.pw⟩
        rw [h.mem x]
        constructor
        · rintro ⟨h1, h2⟩; exact ⟨by simp [h1], h2⟩
        · rintro ⟨h1, h2⟩
          rcases List.mem_append.1 h1 with h1 | h1
          · exact ⟨h1, h2⟩
          · simp at h1; subst h1; omega
      · rename_i hp
        rw [sink_ins _ s c rfl]
        have hne : ∀ x ∈ s, x.id ≠ c.id := by
          intro x hx
          have hxp := ((h.mem x).1 hx).1
          have := (List.pairwise_append.1 hd).2.2 x hxp c (by simp)
          exact this
        refine ⟨fun x => ?_, ?_⟩
        · rw [List.mem_reverse, mem_insRev, List.mem_reverse, h.mem x]
          constructor
          · rintro (rfl | ⟨h1, h2⟩)
            · exact ⟨by simp, by omega⟩
            · exact ⟨by simp [h1], h2⟩
          · rintro ⟨h1, h2⟩
            rcases List.mem_append.1 h1 with h1 | h1
            · exact .inr ⟨h1, h2⟩
            · simp at h1; exact .inl h1
        · rw [List.pairwise_reverse]
          exact insRev_sorted c _ (by rw [List.pairwise_reverse]; exact h.pw) (by intro x hx; exact hne x (by simpa using hx))
theorem sorted_srt {l : List Cand} (h : Distinct l) : Srt l (sortedC l) := by
  have := sorted_srt_aux l [] [] ⟨by simp, List.Pairwise.nil⟩ (by simpa using h)
  simpa [sortedC] using this

/-- the best of those that are so, or nobody -/
def IsBest (q : Cand → Bool) (l : List Cand) (b : Cand) : Prop :=
  (b = Cand.zero ∧ ∀ x ∈ l, 0 < x.prio → q x = false) ∨ (b ∈ l ∧ 0 < b.prio ∧ q b = true ∧ ∀ x ∈ l, 0 < x.prio → q x = true → x = b ∨ betterB b x = true)
theorem best_aux (q : Cand → Bool) : ∀ (l pre : List Cand) (b : Cand), IsBest q pre b → Distinct (pre ++ l) → (∀ x ∈ pre ++ l, 1 ≤ x.id) → IsBest q (pre ++ l) (l.foldl (step q) b)
  | [], pre, b, h, _, _ => by simpa using h
  | c :: l, pre, b, h, hd, h1 => by
    rw [List.foldl_cons]
    have := best_aux q l (pre ++ [c]) (step q b c) ?_ (by simpa using hd) (by simpa using h1)
    · simpa using this
    · have hcid : 1 ≤ c.id := h1 c (by simp)
      have hne : ∀ x ∈ pre, x.id ≠ c.id := fun x hx => (List.pairwise_append.1 hd).2.2 x hx c (by simp)
      have hmem : ∀ x, x ∈ pre ++ [c] ↔ x ∈ pre ∨ x = c := by simp
      unfold step
      split
      · rename_i hc
        obtain ⟨hp, hq, ho⟩ := hc
        refine .inr ⟨by simp, hp, hq, fun x hx hxp hxq => ?_⟩
        rcases (hmem x).1 hx with hx | hx
        · right
          rcases h with ⟨_, hno⟩ | ⟨hb, hbp, hbq, hbest⟩
          · rw [hno x hx hxp] at hxq; cases hxq
          · have hbid : 1 ≤ b.id := h1 b (by simp [hb])
            have hcb : betterB c b = true := by rw [better_iff]; omega
            rcases hbest x hx hxp hxq with rfl | hbx
            · exact hcb
            · exact better_trans hcb hbx
        · exact .inl hx
      · rename_i hc
        rcases h with ⟨hz, hno⟩ | ⟨hb, hbp, hbq, hbest⟩
        · refine .inl ⟨hz, fun x hx hxp => ?_⟩
          rcases (hmem x).1 hx with hx | rfl
          · exact hno x hx hxp
          · by_cases hq : q x = true
            · exact absurd ⟨hxp, hq, .inl (by rw [hz]; rfl)⟩ hc
            · simpa using hq
        · refine .inr ⟨by simp [hb], hbp, hbq, fun x hx hxp hxq => ?_⟩
          rcases (hmem x).1 hx with hx | rfl
          · exact hbest x hx hxp hxq
          · right
            rw [better_iff]
            have hbid : 1 ≤ b.id := h1 b (by simp [hb])
            have := hne b hb
            have hn : ¬ (b.id = 0 ∨ b.prio < x.prio ∨ (x.prio = b.prio ∧ b.id < x.id)) := fun ho => hc ⟨hxp, hxq, ho⟩
            omega
theorem bestC_best (q : Cand → Bool) {l : List Cand} (hd : Distinct l) (h1 : ∀ x ∈ l, 1 ≤ x.id) : IsBest q l (bestC q l) := by
  have := best_aux q l [] Cand.zero (.inl ⟨rfl, by simp⟩) (by simpa using hd) (by simpa using h1)
  simpa [bestC] using this
theorem isBest_unique {q : Cand → Bool} {l : List Cand} {a b : Cand} (ha : IsBest q l a) (hb : IsBest q l b) : a = b := by
  rcases ha with ⟨rfl, hno⟩ | ⟨ha, hap, haq, hbest⟩ <;> rcases hb with ⟨rfl, hno'⟩ | ⟨hb, hbp, hbq, hbest'⟩
  · rfl
  · have := hno b hb hbp; rw [this] at hbq; cases hbq
  · have := hno' a ha hap; rw [this] at haq; cases haq
  · rcases hbest b hb hbp hbq with h | h
    · exact h.symm
    · rcases hbest' a ha hap haq with h' | h'
      · exact h'
      · exact (better_asymm h h').elim

def firstC (q : Cand → Bool) (s : List Cand) : Cand := (s.find? q).getD Cand.zero
theorem first_best (q : Cand → Bool) {l s : List Cand} (h : Srt l s) : IsBest q l (firstC q s) := by
  unfold firstC
  rcases hf : s.find? q with _ | x
  · refine .inl ⟨rfl, fun x hx hp => ?_⟩
    have := List.find?_eq_none.1 hf x ((h.mem x).2 ⟨hx, hp⟩)
    simpa using this
  · obtain ⟨hq, as, bs, rfl, hno⟩ := List.find?_eq_some_iff_append.1 hf
    have hm := (h.mem x).1 (by simp)
    refine .inr ⟨hm.1, hm.2, hq, fun y hy hyp hyq => ?_⟩
    have hys := (h.mem y).2 ⟨hy, hyp⟩
    have hpw := (List.pairwise_append.1 h.pw).2.1
    rcases List.mem_append.1 hys with h1 | h1
    · have := hno y h1; rw [hyq] at this; simp at this
    · rcases List.mem_cons.1 h1 with rfl | h1
      · exact .inl rfl
      · exact .inr ((List.pairwise_cons.1 hpw).1 y h1)

theorem apart_iff (l : List Cand) : apartB l = true ↔ Distinct l ∧ ∀ x ∈ l, 1 ≤ x.id := by
  unfold apartB Distinct
  simp only [Bool.and_eq_true, List.all_eq_true, decide_eq_true_eq, List.nodup_iff_pairwise_ne, List.pairwise_map]
  exact ⟨fun ⟨a, b⟩ => ⟨b, a⟩, fun ⟨a, b⟩ => ⟨b, a⟩⟩

theorem ref1_eq : ∀ (s : List Cand) (a b : Int), (∀ x ∈ s, 1 ≤ x.id) →
    s.foldl refStep1 (a, b) = (if (a == 0) = true then (firstC q3 s).id else a, if (b == 0) = true then (firstC q1 s).id else b)
  | [], a, b, _ => by
    simp only [List.foldl_nil, firstC, List.find?_nil, Option.getD_none, Cand.zero]
    by_cases ha : a = 0 <;> by_cases hb : b = 0 <;> simp [ha, hb]
  | c :: s, a, b, h => by
    have hc : 1 ≤ c.id := h c (by simp)
    have hc0 : (c.id == 0) = false := by simp; omega
    rw [List.foldl_cons, refStep1]
    simp only
    rw [ref1_eq s _ _ fun x hx => h x (by simp [hx])]
    simp only [firstC, List.find?_cons, q3, q1]
    rcases Bool.eq_false_or_eq_true (a == 0) with ha | ha <;> rcases Bool.eq_false_or_eq_true (b == 0) with hb | hb <;> rcases Bool.eq_false_or_eq_true (c.dr == c.id) with h1 | h1 <;> rcases Bool.eq_false_or_eq_true (c.bdr == c.id) with h2 | h2 <;> simp [ha, hb, h1, h2, hc0, bne]
theorem ref2_eq : ∀ (s : List Cand) (b : Int), (∀ x ∈ s, 1 ≤ x.id) → refGo2 b s = if (b == 0) = true then (firstC q2 s).id else b
  | [], b, _ => by
    simp only [refGo2, List.foldl_nil, firstC, List.find?_nil, Option.getD_none, Cand.zero]
    by_cases hb : b = 0 <;> simp [hb]
  | c :: s, b, h => by
    have hc : 1 ≤ c.id := h c (by simp)
    have hc0 : (c.id == 0) = false := by simp; omega
    have ih := ref2_eq s (refStep2 b c) fun x hx => h x (by simp [hx])
    have e : refGo2 b (c :: s) = refGo2 (refStep2 b c) s := rfl
    rw [e, ih]
    simp only [refStep2, firstC, List.find?_cons, q2]
    rcases Bool.eq_false_or_eq_true (b == 0) with hb | hb <;> rcases Bool.eq_false_or_eq_true (c.dr == c.id) with h1 | h1 <;> simp [hb, h1, hc0, bne]

theorem go_is {l : List Cand} (h : apartB l = true) : refGo l = (goDr l, goBdr l) := by
  obtain ⟨hd, h1⟩ := (apart_iff l).1 h
  have hs := sorted_srt hd
  have hs1 : ∀ x ∈ sortedC l, 1 ≤ x.id := fun x hx => h1 x ((hs.mem x).1 hx).1
  have e : ∀ q, firstC q (sortedC l) = bestC q l := fun q => isBest_unique (first_best q hs) (bestC_best q hd h1)
  have hr : refGo1 (sortedC l) = ((bestC q3 l).id, (bestC q1 l).id) := by
    unfold refGo1
    rw [ref1_eq _ _ _ hs1, e, e]; simp
  unfold refGo
  simp only [hr, ref2_eq _ _ hs1, e]
  unfold goDr goBdr
  rfl

theorem apart_map {l : List Cand} (f : Cand → Cand) (hf : ∀ c, (f c).id = c.id) (h : apartB l = true) : apartB (l.map f) = true := by
  obtain ⟨hd, h1⟩ := (apart_iff l).1 h
  refine (apart_iff _).2 ⟨?_, ?_⟩
  · unfold Distinct; rw [List.pairwise_map]; simp only [hf]; exact hd
  · intro x hx
    obtain ⟨c, hc, rfl⟩ := List.mem_map.1 hx
    rw [hf]; exact h1 c hc
theorem mark_id (self dr bdr : Int) (c : Cand) : (mark self dr bdr c).id = c.id := rfl
theorem refMark_id (self : Int) (t : Int × Int) (c : Cand) : (refMark self t c).id = c.id := by unfold refMark; split <;> rfl

theorem map_set_one {l : List Cand} {i : Nat} (hi : i < l.length) (f : Cand → Cand) (h : ∀ j, (hj : j < l.length) → j ≠ i → f l[j] = l[j]) : l.map f = l.set i (f l[i]) := by
  apply List.ext_getElem (by simp)
  intro j h1 h2
  simp only [List.length_map] at h1
  rw [List.getElem_map, List.getElem_set]
  split
  · rename_i e; subst e; rfl
  · rename_i e; exact h j h1 (fun he => e he.symm)

theorem elect_is {l : List Cand} (h : apartB l = true) (self : Int) : refElect self l = elect self l := by
  obtain ⟨hd, h1⟩ := (apart_iff l).1 h
  have hg := go_is h
  unfold refElect elect
  simp only [hg]
  rcases hi : idx self l with _ | i
  · have hno : (l.any fun c => c.id == self && !agrees self (goDr l) (goBdr l) c) = false := by
      rw [List.any_eq_false]
      intro c hc
      have := List.findIdx?_eq_none_iff.1 hi c hc
      simp [this]
    simp [hno]
  · obtain ⟨hlt, his, hbef⟩ := List.findIdx?_eq_some_iff_getElem.1 hi
    have hothers : ∀ j, (hj : j < l.length) → j ≠ i → (l[j].id == self) = false := by
      intro j hj hne
      have hp := List.pairwise_iff_getElem.1 hd
      have his' : l[i].id = self := by simpa using his
      rw [beq_eq_false_iff_ne]
      rcases Nat.lt_or_gt_of_ne hne with h' | h'
      · have := hp j i hj hlt h'; omega
      · have := hp i j hlt hj h'; omega
    have e0 : l[i]? = some l[i] := List.getElem?_eq_getElem hlt
    simp only [e0]
    by_cases ha : agrees self (goDr l) (goBdr l) l[i] = true
    · have hno : (l.any fun c => c.id == self && !agrees self (goDr l) (goBdr l) c) = false := by
        rw [List.any_eq_false]
        intro c hc
        obtain ⟨j, hj, rfl⟩ := List.getElem_of_mem hc
        by_cases hji : j = i
        · subst hji; simp [ha]
        · simp [hothers j hj hji]
      simp [hno, ha]
    · have hyes : (l.any fun c => c.id == self && !agrees self (goDr l) (goBdr l) c) = true := by
        rw [List.any_eq_true]
        exact ⟨l[i], List.getElem_mem hlt, by simp only [Bool.not_eq_true] at ha; simp [ha, his]⟩
      simp only [hyes, if_true, ha]
      have hm : l.map (refMark self (goDr l, goBdr l)) = l.set i (mark self (goDr l) (goBdr l) l[i]) := by
        rw [map_set_one hlt]
        · congr 1
          unfold refMark
          simp only [Bool.not_eq_true] at ha
          rw [if_pos (by simp [his, ha])]
        · intro j hj hne
          unfold refMark
          rw [if_neg (by simp [hothers j hj hne])]
      rw [hm, go_is]
      · rfl
      · rw [← hm]; exact apart_map _ (refMark_id self _) h

end Go.Proofs.Ytfhikkmgclkcdaa
