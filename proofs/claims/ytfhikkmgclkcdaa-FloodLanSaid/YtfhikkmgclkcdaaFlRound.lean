/-
  FloodLan in plain Lean: how it goes round.
-/
import Derived.Test.YtfhikkmgclkcdaaFlHall
namespace Go.Proofs.Ytfhikkmgclkcdaa

/-- what is on the frames behind one's sending -/
def sendF (dr bdr : Int) (l : List Int) (came : Bool) (fr me : Int) (F : List Frm) : List Frm := if sentV me dr bdr l came fr = true then F ++ [(me, destI (viewSt me dr bdr))] else F
def skipB (dr bdr : Int) (f : Frm) (G : List Int) (x : Int) : Bool := x == f.1 || G.contains x || (f.2 == 16 && x != dr && x != bdr)
def stepG (dr bdr : Int) (l : List Int) (f : Frm) (s : List Frm × List Int) (x : Int) : List Frm × List Int := if skipB dr bdr f s.2 x = true then s else (sendF dr bdr l true f.1 x s.1, s.2 ++ [x])
def innerG (dr bdr : Int) (l : List Int) (f : Frm) (s : List Frm × List Int) (j : Nat) : List Frm × List Int := (l.take j).foldl (stepG dr bdr l f) s
def startG (dr bdr : Int) (l : List Int) (first : Int) : List Frm × List Int := (sendF dr bdr l false 0 first [], [first])
def outerG (dr bdr : Int) (l : List Int) (first : Int) : Nat → List Frm × List Int
  | 0 => startG dr bdr l first
  | k + 1 => match (outerG dr bdr l first k).1[k]? with
    | none => outerG dr bdr l first k
    | some f => innerG dr bdr l f (outerG dr bdr l first k) l.length

section
variable {dr bdr : Int} {l : List Int} {f : Frm} {s : List Frm × List Int}
theorem innerG_zero : innerG dr bdr l f s 0 = s := rfl
theorem innerG_succ {j : Nat} (hj : j < l.length) : innerG dr bdr l f s (j + 1) = stepG dr bdr l f (innerG dr bdr l f s j) l[j] := by
  unfold innerG
  rw [List.take_succ_eq_append_getElem hj, List.foldl_append]
  rfl
theorem skip_iff {G : List Int} {x : Int} : skipB dr bdr f G x = true ↔ x = f.1 ∨ x ∈ G ∨ (f.2 = 16 ∧ x ≠ dr ∧ x ≠ bdr) := by
  unfold skipB
  simp only [Bool.or_eq_true, Bool.and_eq_true, beq_iff_eq, bne_iff_ne, List.contains_iff_mem, or_assoc, and_assoc]
/-- who got it behind some of them -/
theorem inner_mem (L : List Int) (s : List Frm × List Int) (x : Int) : x ∈ (L.foldl (stepG dr bdr l f) s).2 ↔ x ∈ s.2 ∨ (x ∈ L ∧ x ≠ f.1 ∧ ¬(f.2 = 16 ∧ x ≠ dr ∧ x ≠ bdr)) := by
  induction L generalizing s with
  | nil => simp
  | cons y L ih =>
    rw [List.foldl_cons, ih]
    unfold stepG
    by_cases h : skipB dr bdr f s.2 y = true
    · rw [if_pos h]
      rw [skip_iff] at h
      constructor
      · rintro (h1 | ⟨h1, h2⟩)
        · exact .inl h1
        · exact .inr ⟨List.mem_cons_of_mem _ h1, h2⟩
      · rintro (h1 | ⟨h1, h2, h3⟩)
        · exact .inl h1
        · rcases List.mem_cons.1 h1 with rfl | h1
          · rcases h with h | h | h
            · exact absurd h h2
            · exact .inl h
            · exact absurd h h3
          · exact .inr ⟨h1, h2, h3⟩
    · rw [if_neg h]
      rw [skip_iff] at h
      simp only [List.mem_append, List.mem_singleton]
      constructor
      · rintro ((h1 | rfl) | ⟨h1, h2⟩)
        · exact .inl h1
        · exact .inr ⟨List.mem_cons_self, fun e => h (.inl e), fun e => h (.inr (.inr e))⟩
        · exact .inr ⟨List.mem_cons_of_mem _ h1, h2⟩
      · rintro (h1 | ⟨h1, h2, h3⟩)
        · exact .inl (.inl h1)
        · rcases List.mem_cons.1 h1 with rfl | h1
          · exact .inl (.inr rfl)
          · exact .inr ⟨h1, h2, h3⟩
theorem inner_nodup (L : List Int) (s : List Frm × List Int) (h : s.2.Nodup) : (L.foldl (stepG dr bdr l f) s).2.Nodup := by
  induction L generalizing s with
  | nil => exact h
  | cons y L ih =>
    rw [List.foldl_cons]
    apply ih
    unfold stepG
    by_cases hs : skipB dr bdr f s.2 y = true
    · rw [if_pos hs]; exact h
    · rw [if_neg hs]
      rw [skip_iff] at hs
      rw [List.nodup_append]
      refine ⟨h, by simp, fun a ha b hb => ?_⟩
      rw [List.mem_singleton] at hb
      subst hb
      rintro rfl
      exact hs (.inr (.inl ha))
/-- a frame of one of the two is told no further -/
theorem inner_told (hf : f.1 = dr ∨ f.1 = bdr) (L : List Int) (s : List Frm × List Int) : (L.foldl (stepG dr bdr l f) s).1 = s.1 := by
  induction L generalizing s with
  | nil => rfl
  | cons y L ih =>
    rw [List.foldl_cons, ih]
    unfold stepG
    by_cases h : skipB dr bdr f s.2 y = true
    · rw [if_pos h]
    · rw [if_neg h]
      simp [sendF, sent_told hf]
/-- a frame of another one to the two: the designated one alone tells it further -/
theorem inner_first (hd : dr ∉ s.2) (hne : bdr ≠ dr) (hf2 : f.2 = 16) (L : List Int) :
    (L.foldl (stepG dr bdr l f) s).1 = s.1 ++ (if dr ∈ (L.foldl (stepG dr bdr l f) s).2 ∧ sentV dr dr bdr l true f.1 = true then [(dr, destI (viewSt dr dr bdr))] else []) := by
  have key : ∀ L : List Int, (L.reverse.foldl (stepG dr bdr l f) s).1 = s.1 ++ (if dr ∈ (L.reverse.foldl (stepG dr bdr l f) s).2 ∧ sentV dr dr bdr l true f.1 = true then [(dr, destI (viewSt dr dr bdr))] else []) := by
    intro L
    induction L with
    | nil => simp [hd]
    | cons y L ih =>
      rw [List.reverse_cons, List.foldl_append, List.foldl_cons, List.foldl_nil]
      generalize L.reverse.foldl (stepG dr bdr l f) s = t at *
      unfold stepG
      by_cases h : skipB dr bdr f t.2 y = true
      · rw [if_pos h]; exact ih
      · rw [if_neg h]
        rw [skip_iff] at h
        have hy : y = dr ∨ y = bdr := by
          by_cases h1 : y = dr
          · exact .inl h1
          · by_cases h2 : y = bdr
            · exact .inr h2
            · exact absurd (.inr (.inr ⟨hf2, h1, h2⟩)) h
        rcases hy with rfl | rfl
        · have hn : y ∉ t.2 := fun e => h (.inr (.inl e))
          have ih' : t.1 = s.1 := by rw [ih]; simp [hn]
          simp only [sendF, ih', List.mem_append, List.mem_singleton, or_true, true_and]
          by_cases hs : sentV y y bdr l true f.1 = true
          · simp [hs]
          · simp [hs]
        · have : dr ∈ t.2 ++ [y] ↔ dr ∈ t.2 := by
            rw [List.mem_append, List.mem_singleton]
            exact ⟨fun h => h.elim id fun e => absurd e.symm hne, .inl⟩
          simp only [this]
          rw [show sendF dr y l true f.1 y t.1 = t.1 by simp [sendF, sent_backup hne]]
          exact ih
  have := key L.reverse
  simpa using this

theorem sent_len {me : Int} {came : Bool} {fr : Int} (h : sentV me dr bdr l came fr = true) : ∃ x, x ∈ listedV me dr bdr l came fr := by
  unfold sentV at h
  simp only [Bool.and_eq_true, decide_eq_true_eq] at h
  rcases hl : listedV me dr bdr l came fr with _ | ⟨x, t⟩
  · rw [hl] at h; simp at h
  · exact ⟨x, List.mem_cons_self⟩
theorem sent_false {me : Int} {came : Bool} {fr : Int} (ht : toldB came fr dr bdr (viewSt me dr bdr) = false) (h : sentV me dr bdr l came fr = false) (x : Int) : x ∉ listedV me dr bdr l came fr := by
  unfold sentV at h
  rw [ht] at h
  have : (listedV me dr bdr l came fr).length = 0 := by simpa using h
  rw [List.eq_nil_of_length_eq_zero this]
  simp
theorem all_len (hl : l.Nodup) {G : List Int} (hG : G.Nodup) (h : ∀ x, x ∈ G ↔ x ∈ l) : G.length = l.length := ((List.perm_ext_iff_of_nodup hG hl).2 h).length_eq

/-- what goes round: at most two frames, and all get it -/
theorem round_good (hn : l.Nodup) (hdr : dr ∈ l) (hne : bdr ≠ dr) {first : Int} (hfi : first ∈ l) (_hb : bdr = 0 ∨ bdr ∈ l) (h1 : ∀ y ∈ l, 1 ≤ y) :
    (startG dr bdr l first).1.length ≤ 2 ∧ (∀ k f, (outerG dr bdr l first k).1[k]? = some f → ∀ j, j ≤ l.length → (innerG dr bdr l f (outerG dr bdr l first k) j).1.length ≤ 2) ∧
      (∀ k, k = (outerG dr bdr l first k).1.length → (outerG dr bdr l first k).2.length = l.length) ∧ (∀ k, ∀ f ∈ (outerG dr bdr l first k).1, 1 ≤ f.1) ∧ (∀ k, (outerG dr bdr l first k).1.length ≤ 2) := by
  have hst : (startG dr bdr l first).1.length ≤ 1 ∧ ∀ f ∈ (startG dr bdr l first).1, f = (first, destI (viewSt first dr bdr)) := by
    unfold startG sendF
    by_cases h : sentV first dr bdr l false 0 = true <;> simp [h]
  have hstay : ∀ k, (outerG dr bdr l first k).1.length ≤ k → ∀ j, outerG dr bdr l first (k + j) = outerG dr bdr l first k := by
    intro k hk j
    induction j with
    | zero => rfl
    | succ j ih =>
      rw [show k + (j + 1) = (k + j) + 1 by omega, outerG, ih]
      rw [List.getElem?_eq_none (by omega)]
  have hmem : ∀ k, ∀ x ∈ (outerG dr bdr l first k).2, x ∈ l := by
    intro k
    induction k with
    | zero => intro x hx; simp [outerG, startG] at hx; rw [hx]; exact hfi
    | succ k ih =>
      intro x hx
      rw [outerG] at hx
      split at hx
      · exact ih x hx
      · unfold innerG at hx
        rw [inner_mem, List.take_length] at hx
        rcases hx with hx | hx
        · exact ih x hx
        · exact hx.1
  have hnd : ∀ k, (outerG dr bdr l first k).2.Nodup := by
    intro k
    induction k with
    | zero => simp [outerG, startG]
    | succ k ih =>
      rw [outerG]
      split
      · exact ih
      · exact inner_nodup _ _ ih
  have hin : ∀ k, first ∈ (outerG dr bdr l first k).2 := by
    intro k
    induction k with
    | zero => simp [outerG, startG]
    | succ k ih =>
      rw [outerG]
      split
      · exact ih
      · unfold innerG; rw [inner_mem]; exact .inl ih
  have hd16 : destI (viewSt dr dr bdr) = 0 := by simp [viewSt, destI]
  by_cases hA : first = dr ∨ first = bdr
  · -- one of the two begins
    have hall : ∀ y ∈ l, y ≠ first → y ∈ listedV first dr bdr l false 0 := by
      intro y hy hne
      rw [mem_listedV]
      refine ⟨hy, hne, ?_, by simp⟩
      unfold fullB
      rcases hA with h | h <;> simp [h]
    have hto : destI (viewSt first dr bdr) = 0 := by
      rcases hA with h | h
      · rw [h]; exact hd16
      · rw [h]; simp [viewSt, destI, hne]
    have h0 : outerG dr bdr l first 0 = startG dr bdr l first := rfl
    have hF : ∀ f ∈ (startG dr bdr l first).1, f.1 = dr ∨ f.1 = bdr := fun f hf => by rw [(hst.2 f hf)]; exact hA
    have hin0 : ∀ f, (outerG dr bdr l first 0).1[0]? = some f → ∀ L : List Int, (L.foldl (stepG dr bdr l f) (outerG dr bdr l first 0)).1 = (startG dr bdr l first).1 := fun f hf L => by
      rw [inner_told (hF f (List.mem_of_getElem? hf))]; rfl
    have hF1 : (outerG dr bdr l first 1).1 = (startG dr bdr l first).1 := by
      rw [outerG]
      split
      · rfl
      · rename_i f hf; exact hin0 f hf _
    have hFk : ∀ k, (outerG dr bdr l first k).1 = (startG dr bdr l first).1 := by
      intro k
      rcases Nat.eq_zero_or_pos k with rfl | hk
      · rfl
      · have := hstay 1 (by rw [hF1]; exact hst.1) (k - 1)
        rw [show 1 + (k - 1) = k by omega] at this
        rw [this, hF1]
    refine ⟨by omega, fun k f hf j _ => ?_, fun k hk => ?_, fun k f hf => ?_, fun k => ?_⟩
    · rcases Nat.eq_zero_or_pos k with rfl | hk
      · unfold innerG
        rw [hin0 f hf]; omega
      · rw [hFk] at hf
        have := (List.getElem?_eq_some_iff.1 hf).1
        omega
    · rw [hFk] at hk
      refine all_len hn (hnd k) fun x => ⟨hmem k x, fun hx => ?_⟩
      by_cases hxf : x = first
      · rw [hxf]; exact hin k
      · have hs : sentV first dr bdr l false 0 = true := by
          cases hs : sentV first dr bdr l false 0
          · exact absurd (hall x hx hxf) (sent_false (by simp [toldB]) hs x)
          · rfl
        have hF1' : (startG dr bdr l first).1 = [(first, 0)] := by simp [startG, sendF, hs, hto]
        rw [hF1'] at hk
        have hk1 : k = 1 := hk
        subst hk1
        rw [outerG, h0, hF1']
        simp only [List.getElem?_cons_zero]
        unfold innerG
        rw [inner_mem, List.take_length]
        exact .inr ⟨hx, hxf, by simp⟩
    · rw [hFk] at hf
      rw [hst.2 f hf]
      exact h1 _ hfi
    · rw [hFk]; omega
  · -- another one begins
    have hfd : first ≠ dr := fun e => hA (.inl e)
    have hfb : first ≠ bdr := fun e => hA (.inr e)
    have hto : destI (viewSt first dr bdr) = 16 := by simp [viewSt, destI, hfd, hfb]
    have hs0 : sentV first dr bdr l false 0 = true := by
      cases hs : sentV first dr bdr l false 0
      · exact absurd (mem_listedV.2 ⟨hdr, fun e => hfd e.symm, by simp [fullB], by simp⟩) (sent_false (by simp [toldB]) hs dr)
      · rfl
    have hS : startG dr bdr l first = ([(first, 16)], [first]) := by simp [startG, sendF, hs0, hto]
    have h0 : outerG dr bdr l first 0 = ([(first, 16)], [first]) := hS
    have hfold : ∀ L : List Int, (L.foldl (stepG dr bdr l (first, 16)) ([(first, 16)], [first])).1 = [(first, 16)] ++ (if dr ∈ (L.foldl (stepG dr bdr l (first, 16)) ([(first, 16)], [first])).2 ∧ sentV dr dr bdr l true first = true then [(dr, 0)] else []) := by
      intro L
      have := inner_first (s := ([(first, 16)], [first])) (l := l) (f := (first, 16)) (by simp; exact fun e => hfd e.symm) hne rfl L
      rw [hd16] at this
      exact this
    have hlen1 : ∀ L : List Int, (L.foldl (stepG dr bdr l (first, 16)) ([(first, 16)], [first])).1.length ≤ 2 := by
      intro L
      rw [hfold]
      split <;> simp
    have ho1 : outerG dr bdr l first 1 = l.foldl (stepG dr bdr l (first, 16)) ([(first, 16)], [first]) := by
      rw [outerG, h0]
      simp [innerG]
    have hd1 : dr ∈ (outerG dr bdr l first 1).2 := by
      rw [ho1, inner_mem]
      exact .inr ⟨hdr, fun e => hfd e.symm, by simp⟩
    have hF1 : (outerG dr bdr l first 1).1 = [(first, 16)] ++ (if sentV dr dr bdr l true first = true then [(dr, 0)] else []) := by
      have := hfold l
      rw [← ho1] at this
      rw [this]
      simp [hd1]
    cases hs : sentV dr dr bdr l true first
    · -- nobody is left
      have hF1' : (outerG dr bdr l first 1).1 = [(first, 16)] := by rw [hF1, hs]; simp
      have hk : ∀ k, 1 ≤ k → outerG dr bdr l first k = outerG dr bdr l first 1 := by
        intro k hk
        have := hstay 1 (by rw [hF1']; simp) (k - 1)
        rwa [show 1 + (k - 1) = k by omega] at this
      have hFk : ∀ k, (outerG dr bdr l first k).1 = [(first, 16)] := by
        intro k
        rcases Nat.eq_zero_or_pos k with rfl | hk'
        · rw [h0]
        · rw [hk k hk', hF1']
      refine ⟨by omega, fun k f hf j _ => ?_, fun k hkk => ?_, fun k f hf => ?_, fun k => ?_⟩
      · rw [hFk] at hf
        obtain ⟨hlt, hf⟩ := List.getElem?_eq_some_iff.1 hf
        have hk0 : k = 0 := by simpa using hlt
        subst hk0
        have hf' : f = (first, 16) := by simpa using hf.symm
        subst hf'
        rw [h0]
        exact hlen1 _
      · rw [hFk] at hkk
        have hk1 : k = 1 := hkk
        subst hk1
        refine all_len hn (hnd 1) fun x => ⟨hmem 1 x, fun hx => ?_⟩
        by_cases hxf : x = first
        · rw [hxf]; exact hin 1
        · by_cases hxd : x = dr
          · rw [hxd]; exact hd1
          · have hno := sent_false (me := dr) (came := true) (fr := first) (by simp [toldB, viewSt, hfd, hfb]) hs x
            exact absurd (mem_listedV.2 ⟨hx, hxd, by simp [fullB], by simp [hxf]⟩) hno
      · rw [hFk] at hf
        rw [List.mem_singleton.1 hf]
        exact h1 _ hfi
      · rw [hFk]; simp
    · have hF1' : (outerG dr bdr l first 1).1 = [(first, 16), (dr, 0)] := by rw [hF1, hs]; simp
      have ho2 : outerG dr bdr l first 2 = l.foldl (stepG dr bdr l (dr, 0)) (outerG dr bdr l first 1) := by
        rw [outerG, hF1']
        simp [innerG]
      have hF2 : (outerG dr bdr l first 2).1 = [(first, 16), (dr, 0)] := by
        rw [ho2, inner_told (f := (dr, 0)) (dr := dr) (bdr := bdr) (l := l) (.inl rfl), hF1']
      have hFk : ∀ k, 1 ≤ k → (outerG dr bdr l first k).1 = [(first, 16), (dr, 0)] := by
        intro k hk
        by_cases h2 : k = 1
        · rw [h2, hF1']
        · have := hstay 2 (by rw [hF2]; simp) (k - 2)
          rw [show 2 + (k - 2) = k by omega] at this
          rw [this, hF2]
      refine ⟨by omega, fun k f hf j _ => ?_, fun k hkk => ?_, fun k f hf => ?_, fun k => ?_⟩
      · rcases Nat.eq_zero_or_pos k with rfl | hk
        · rw [h0] at hf
          have hf' : f = (first, 16) := by simpa using hf.symm
          subst hf'
          rw [h0]
          exact hlen1 _
        · rw [hFk k hk] at hf
          obtain ⟨hlt, hf⟩ := List.getElem?_eq_some_iff.1 hf
          have hk1 : k = 1 := by simp at hlt; omega
          subst hk1
          have hf' : f = (dr, 0) := by simpa using hf.symm
          subst hf'
          unfold innerG
          rw [inner_told (f := (dr, 0)) (dr := dr) (bdr := bdr) (l := l) (.inl rfl), hF1']
          simp
      · have hk0 : 1 ≤ k := by
          rcases Nat.eq_zero_or_pos k with rfl | hk
          · rw [h0] at hkk; simp at hkk
          · exact hk
        rw [hFk k hk0] at hkk
        have hk2 : k = 2 := hkk
        subst hk2
        refine all_len hn (hnd 2) fun x => ⟨hmem 2 x, fun hx => ?_⟩
        rw [ho2, inner_mem]
        by_cases hxd : x = dr
        · rw [hxd]; exact .inl hd1
        · exact .inr ⟨hx, hxd, by simp⟩
      · rcases Nat.eq_zero_or_pos k with rfl | hk
        · rw [h0] at hf
          rw [List.mem_singleton.1 hf]
          exact h1 _ hfi
        · rw [hFk k hk] at hf
          rcases List.mem_cons.1 hf with rfl | hf
          · exact h1 _ hfi
          · rw [List.mem_singleton.1 hf]
            exact h1 _ hdr
      · rcases Nat.eq_zero_or_pos k with rfl | hk
        · rw [h0]; simp
        · rw [hFk k hk]; simp
end

end Go.Proofs.Ytfhikkmgclkcdaa
