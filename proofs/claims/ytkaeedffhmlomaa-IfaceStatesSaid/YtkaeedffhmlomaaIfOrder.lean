/-
  An election doesn't ask for the order; so the reference's step is the program's.
-/
import Derived.Test.YtkaeedffhmlomaaIfSpec
import Derived.Test.YtkaeedffhmlomaaElAgain
namespace Go.Proofs.Ytkaeedffhmlomaa

theorem pick_order (S : Int → Bool) {l m : List Cand} (hl : apartB l = true) (hm : apartB m = true) (h : ∀ x, x ∈ l ↔ x ∈ m) : pick S l = pick S m := by
  obtain ⟨hd, h1⟩ := (apart_iff l).1 hl
  obtain ⟨hd', h1'⟩ := (apart_iff m).1 hm
  have hb := bestC_best (fun c => S c.id) hd h1
  have hb' := bestC_best (fun c => S c.id) hd' h1'
  have hb2 : IsBest (fun c => S c.id) m (bestC (fun c => S c.id) l) := by
    rcases hb with ⟨e, hno⟩ | ⟨hin, hp, hq, hbest⟩
    · exact .inl ⟨e, fun x hx => hno x ((h x).2 hx)⟩
    · exact .inr ⟨(h _).1 hin, hp, hq, fun x hx => hbest x ((h x).2 hx)⟩
  unfold pick
  rw [isBest_unique hb2 hb']
theorem g_order {l m : List Cand} (hl : apartB l = true) (hm : apartB m = true) (h : ∀ x, x ∈ l ↔ x ∈ m) (D B : Int → Bool) : gD l D B = gD m D B ∧ gB l D B = gB m D B := by
  unfold gD gB
  simp only [pick_order _ hl hm h, and_self]
theorem elect_order {l m : List Cand} (hl : apartB l = true) (hm : apartB m = true) (h : ∀ x, x ∈ l ↔ x ∈ m) {c : Cand} (hc : c ∈ l) : elect c.id l = elect c.id m := by
  have hcl := claims_of ((apart_iff l).1 hl).1
  have hcm : Claims m (clD l) (clB l) := fun x hx => hcl x ((h x).2 hx)
  rw [elect_claims hl hcl hc, elect_claims hm hcm ((h c).1 hc)]
  simp only [fun D B => (g_order hl hm h D B).1, fun D B => (g_order hl hm h D B).2]
theorem apart_end {c : Cand} {l : List Cand} (h : apartB (c :: l) = true) : apartB (l ++ [c]) = true := by
  obtain ⟨hd, h1⟩ := (apart_iff _).1 h
  refine (apart_iff _).2 ⟨?_, fun x hx => h1 x (by simpa [or_comm] using hx)⟩
  exact (List.Perm.pairwise_iff (R := fun a b : Cand => a.id ≠ b.id) (fun e => Ne.symm e) (List.perm_append_singleton c l)).2 hd
theorem refVote_eq {i : Ifc} {l : List Cand} (hap : apartI i l = true) : refVoteI i l = voteI i l := by
  have h1 : refElect i.self (l ++ [i.own]) = elect i.self (i.own :: l) := by
    rw [elect_is (apart_end hap)]
    exact (elect_order hap (apart_end hap) (fun x => by simp [or_comm]) (c := i.own) (by simp)).symm
  unfold refVoteI voteI stOf
  simp only [h1]
  have e1 : ∀ x : Int, (x == i.self) = (i.self == x) := fun x => by
    rw [Bool.eq_iff_iff, beq_iff_eq, beq_iff_eq]; exact eq_comm
  rw [e1 (elect i.self (i.own :: l)).1, e1 (elect i.self (i.own :: l)).2]
theorem refStep_eq {i : Ifc} {l : List Cand} (hap : apartI i l = true) (ev : Int) : refStepI i ev l = stepI i ev l := by
  unfold refStepI stepI
  rw [refVote_eq hap]

theorem refStep_cases (a b c d e ev : Int) (l : List Cand) :
    (ev = 1 ∧ refStepI ⟨a, b, c, d, e⟩ ev l = ⟨a, b, 0, 0, 0⟩) ∨
    (c = 0 ∧ ev = 0 ∧ b ≤ 0 ∧ refStepI ⟨a, b, c, d, e⟩ ev l = ⟨a, b, 2, 0, 0⟩) ∨
    (c = 0 ∧ ev = 0 ∧ ¬b ≤ 0 ∧ refStepI ⟨a, b, c, d, e⟩ ev l = ⟨a, b, 1, 0, 0⟩) ∨
    (c = 1 ∧ ev = 2 ∧ refStepI ⟨a, b, c, d, e⟩ ev l = refVoteI ⟨a, b, c, d, e⟩ l) ∨
    (c = 1 ∧ ev = 3 ∧ refStepI ⟨a, b, c, d, e⟩ ev l = refVoteI ⟨a, b, c, d, e⟩ l) ∨
    (c = 2 ∧ ev = 4 ∧ refStepI ⟨a, b, c, d, e⟩ ev l = refVoteI ⟨a, b, c, d, e⟩ l) ∨
    (c = 3 ∧ ev = 4 ∧ refStepI ⟨a, b, c, d, e⟩ ev l = refVoteI ⟨a, b, c, d, e⟩ l) ∨
    (c = 4 ∧ ev = 4 ∧ refStepI ⟨a, b, c, d, e⟩ ev l = refVoteI ⟨a, b, c, d, e⟩ l) ∨
    (c = 0 ∧ (ev == 1) = false ∧ (ev == 0) = false ∧ refStepI ⟨a, b, c, d, e⟩ ev l = ⟨a, b, c, d, e⟩) ∨
    (c = 1 ∧ (ev == 1) = false ∧ (ev == 2) = false ∧ (ev == 3) = false ∧ refStepI ⟨a, b, c, d, e⟩ ev l = ⟨a, b, c, d, e⟩) ∨
    (c = 2 ∧ (ev == 1) = false ∧ (ev == 4) = false ∧ refStepI ⟨a, b, c, d, e⟩ ev l = ⟨a, b, c, d, e⟩) ∨
    (c = 3 ∧ (ev == 1) = false ∧ (ev == 4) = false ∧ refStepI ⟨a, b, c, d, e⟩ ev l = ⟨a, b, c, d, e⟩) ∨
    (c = 4 ∧ (ev == 1) = false ∧ (ev == 4) = false ∧ refStepI ⟨a, b, c, d, e⟩ ev l = ⟨a, b, c, d, e⟩) ∨
    ((ev == 1) = false ∧ (c == 0) = false ∧ (c == 1) = false ∧ ¬2 ≤ c ∧ refStepI ⟨a, b, c, d, e⟩ ev l = ⟨a, b, c, d, e⟩) ∨
    ((ev == 1) = false ∧ (c == 0) = false ∧ (c == 1) = false ∧ 2 ≤ c ∧ ¬c ≤ 4 ∧ refStepI ⟨a, b, c, d, e⟩ ev l = ⟨a, b, c, d, e⟩) := by
  by_cases h1 : ev = 1
  · exact .inl ⟨h1, by simp [refStepI, h1]⟩
  refine .inr ?_
  have e1 : (ev == 1) = false := by simp [h1]
  by_cases c0 : c = 0
  · subst c0
    by_cases h0 : ev = 0
    · subst h0
      by_cases hb : b ≤ 0
      · exact .inl ⟨rfl, rfl, hb, by simp [refStepI, moveI, beginI, hb]⟩
      · exact .inr (.inl ⟨rfl, rfl, hb, by simp [refStepI, moveI, beginI, hb]⟩)
    · iterate 7 refine .inr ?_
      exact .inl ⟨rfl, e1, by simp [h0], by simp [refStepI, moveI, h1, h0]⟩
  by_cases c1 : c = 1
  · subst c1
    iterate 2 refine .inr ?_
    by_cases h2 : ev = 2
    · subst h2; exact .inl ⟨rfl, rfl, by simp [refStepI, moveI]⟩
    by_cases h3 : ev = 3
    · subst h3; exact .inr (.inl ⟨rfl, rfl, by simp [refStepI, moveI]⟩)
    iterate 6 refine .inr ?_
    exact .inl ⟨rfl, e1, by simp [h2], by simp [h3], by simp [refStepI, moveI, h1, h2, h3]⟩
  by_cases c2 : c = 2
  · subst c2
    iterate 4 refine .inr ?_
    by_cases h4 : ev = 4
    · subst h4; exact .inl ⟨rfl, rfl, by simp [refStepI, moveI]⟩
    iterate 5 refine .inr ?_
    exact .inl ⟨rfl, e1, by simp [h4], by simp [refStepI, moveI, h1, h4]⟩
  by_cases c3 : c = 3
  · subst c3
    iterate 5 refine .inr ?_
    by_cases h4 : ev = 4
    · subst h4; exact .inl ⟨rfl, rfl, by simp [refStepI, moveI]⟩
    iterate 5 refine .inr ?_
    exact .inl ⟨rfl, e1, by simp [h4], by simp [refStepI, moveI, h1, h4]⟩
  by_cases c4 : c = 4
  · subst c4
    iterate 6 refine .inr ?_
    by_cases h4 : ev = 4
    · subst h4; exact .inl ⟨rfl, rfl, by simp [refStepI, moveI]⟩
    iterate 5 refine .inr ?_
    exact .inl ⟨rfl, e1, by simp [h4], by simp [refStepI, moveI, h1, h4]⟩
  have hs : refStepI ⟨a, b, c, d, e⟩ ev l = ⟨a, b, c, d, e⟩ := by simp [refStepI, moveI, h1, c0, c1, c2, c3, c4]
  iterate 12 refine .inr ?_
  by_cases g2 : 2 ≤ c
  · exact .inr ⟨e1, by simp [c0], by simp [c1], g2, by omega, hs⟩
  · exact .inl ⟨e1, by simp [c0], by simp [c1], g2, hs⟩

end Go.Proofs.Ytkaeedffhmlomaa
