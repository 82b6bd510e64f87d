/-
  Layer 21 in plain words: the nodes of a tree, and what holds of them.
-/
import Derived.Test.YtpfjgecdlilkcaaSpDij
namespace Go.Proofs.Ytpfjgecdlilkcaa

theorem ltH_irr (a : Hp) : ¬ ltH a a := by unfold ltH; omega
theorem ltH_asy (a b : Hp) : ltH a b → ¬ ltH b a := by unfold ltH; omega
theorem ltH_tri (a b : Hp) : ltH a b ∨ a = b ∨ ltH b a := by
  obtain ⟨a1, a2⟩ := a
  obtain ⟨b1, b2⟩ := b
  unfold ltH
  simp only [Hp.mk.injEq]
  omega
theorem ltH_trans {a b c : Hp} (h : ltH a b) (g : ltH b c) : ltH a c := by unfold ltH at *; omega
theorem JoinH.unique {L M N N' : List Hp} (h : JoinH L M N) (h' : JoinH L M N') : N = N' := sorted_ext ltH_irr ltH_asy h.sorted h'.sorted fun e => by rw [h.mem, h'.mem]
def ltX (a b : Vx) : Prop := a.kind < b.kind ∨ (a.kind = b.kind ∧ a.id < b.id)
theorem ltX_irr (a : Vx) : ¬ ltX a a := by unfold ltX; omega
theorem ltX_asy (a b : Vx) : ltX a b → ¬ ltX b a := by unfold ltX; omega

/-- a node in plain words -/
structure Nk where
  v : Vx
  a : Val2
  next : List Hp
/-- the least values from every vertex -/
def Dists (E : List Ed) (DD : Vx → Vx → Option Val2) : Prop := ∀ r, IsDist E r (DD r)
theorem dists_are (E : List Ed) : ∃ DD, Dists E DD := by
  obtain ⟨f, hf⟩ := Classical.axiomOfChoice (fun r => dist_is E r)
  exact ⟨f, hf⟩
theorem dists_unique {E E' : List Ed} {DD DD' : Vx → Vx → Option Val2} (h : Dists E DD) (h' : Dists E' DD') (hE : ∀ e, cntE e = true → (e ∈ E ↔ e ∈ E')) : DD = DD' := by
  funext r
  exact (h r).unique (h' r) hE
/-- the tree of a root -/
structure TreeIs (E : List Ed) (DD : Vx → Vx → Option Val2) (r : Vx) (L : List Nk) : Prop where
  sorted : L.Pairwise fun x y => ltX x.v y.v
  has : ∀ v a, DD r v = some a → ∃ n ∈ L, n.v = v
  val : ∀ n ∈ L, DD r n.v = some n.a
  next : ∀ n ∈ L, n.next.Pairwise ltH ∧ ∀ h, h ∈ n.next ↔ isHop E DD r n.v h
theorem isHop_congr {E E' : List Ed} (hE : ∀ e, cntE e = true → (e ∈ E ↔ e ∈ E')) (DD : Vx → Vx → Option Val2) (r v : Vx) (h : Hp) : isHop E DD r v h → isHop E' DD r v h := by
  rintro ⟨e, he, hc, hs, a, ha, hh⟩
  refine ⟨e, (hE e hc).1 he, hc, hs, a, ha, ?_⟩
  rcases hh with g | ⟨f, hf, hfc, g⟩
  · exact .inl g
  · exact .inr ⟨f, (hE f hfc).1 hf, hfc, g⟩
theorem pairwise_map_key {L : List Nk} (h : L.Pairwise fun x y => ltX x.v y.v) : (L.map (·.v)).Pairwise ltX := by
  rw [List.pairwise_map]
  exact h
theorem tree_unique {E E' : List Ed} {DD DD' : Vx → Vx → Option Val2} {r : Vx} {L L' : List Nk} (hD : Dists E DD) (hD' : Dists E' DD') (h : TreeIs E DD r L) (h' : TreeIs E' DD' r L') (hE : ∀ e, cntE e = true → (e ∈ E ↔ e ∈ E')) : L = L' := by
  have hDD := dists_unique hD hD' hE
  subst hDD
  have hkeys : L.map (·.v) = L'.map (·.v) := by
    refine sorted_ext ltX_irr ltX_asy (pairwise_map_key h.sorted) (pairwise_map_key h'.sorted) fun v => ?_
    rw [List.mem_map, List.mem_map]
    constructor
    · rintro ⟨n, hn, rfl⟩
      exact h'.has _ _ (h.val n hn)
    · rintro ⟨n, hn, rfl⟩
      exact h.has _ _ (h'.val n hn)
  have hlen : L.length = L'.length := by simpa using congrArg List.length hkeys
  refine List.ext_getElem hlen fun i h1 h2 => ?_
  have hv : L[i].v = L'[i].v := by
    have h3 : (L.map (·.v))[i]'(by rw [List.length_map]; exact h1) = (L'.map (·.v))[i]'(by rw [List.length_map]; exact h2) := by
      congr 1
    simpa using h3
  have m1 := List.getElem_mem h1
  have m2 := List.getElem_mem h2
  have ha : L[i].a = L'[i].a := by
    have g1 := h.val _ m1
    have g2 := h'.val _ m2
    rw [hv, g2] at g1
    exact (Option.some.inj g1).symm
  have hx : L[i].next = L'[i].next := by
    refine sorted_ext ltH_irr ltH_asy (h.next _ m1).1 (h'.next _ m2).1 fun hp => ?_
    rw [(h.next _ m1).2, (h'.next _ m2).2, hv]
    exact ⟨isHop_congr hE _ _ _ _, isHop_congr (fun e hc => (hE e hc).symm) _ _ _ _⟩
  have same : ∀ x y : Nk, x.v = y.v → x.a = y.a → x.next = y.next → x = y := by
    rintro ⟨x1, x2, x3⟩ ⟨y1, y2, y3⟩ h1 h2 h3
    simp only at h1 h2 h3
    rw [h1, h2, h3]
  exact same _ _ hv ha hx
section
variable {E : List Ed} {r : Vx} {DD : Vx → Vx → Option Val2}
/-- a first hop goes on -/
theorem isHop_some (hD : Dists E DD) (hr : r.kind = 1) : ∀ v a, DD r v = some a → v = r ∨ ∃ h, isHop E DD r v h := by
  refine (hD r).induct (P := fun v _ => v = r ∨ ∃ h, isHop E DD r v h) (.inl rfl) ?_
  intro e he hc b hb hd hP
  right
  by_cases hs : e.src = r
  · refine ⟨_, e, he, hc, hs, _, hd, .inl ⟨rfl, ?_, rfl⟩⟩
    rw [hs, (hD r).root] at hb
    cases hb
    simp [stepV]
  · rcases hP with g | ⟨h, e1, he1, hc1, hs1, b', hb', hh⟩
    · exact absurd g hs
    rw [hb] at hb'
    cases hb'
    have hs1k : e1.fk = r.kind := by rw [← hs1]; rfl
    obtain ⟨-, -, hk1⟩ := cntE_iff.1 hc1
    obtain ⟨-, -, hk⟩ := cntE_iff.1 hc
    rcases hh with ⟨h1, h2, h3⟩ | ⟨f, hf, hfc, hfs, c, hcc, h2, h3⟩
    · have hk3 : e1.tk = e.fk := congrArg Vx.kind h1
      refine ⟨_, e1, he1, hc1, hs1, _, hd, .inr ⟨e, he, hc, h1.symm, ⟨0, 0⟩, (hD _).root, ?_, rfl⟩⟩
      unfold stepV
      simp only
      omega
    · obtain ⟨d, hd2, hle⟩ := (hD f.dst).closed e he hc c hcc
      obtain ⟨n1, hn1, hle1⟩ := (hD r).closed e1 he1 hc1 ⟨0, 0⟩ (by rw [hs1]; exact (hD r).root)
      obtain ⟨n2, hn2, hle2⟩ := (hD r).closed f hf hfc n1 (by rw [hfs]; exact hn1)
      obtain ⟨x, hx, hle3⟩ := dist_join hD hn2 hd2
      rw [hd] at hx
      cases hx
      refine ⟨_, e1, he1, hc1, hs1, _, hd, .inr ⟨f, hf, hfc, hfs, d, hd2, ?_, rfl⟩⟩
      obtain ⟨-, -, hfk⟩ := cntE_iff.1 hfc
      have hfsk : f.fk = e1.tk := congrArg Vx.kind hfs
      unfold leV stepV at hle hle1 hle2
      unfold stepV at hle3 ⊢
      simp only at hle hle1 hle2 hle3 h2 ⊢
      omega
/-- what a first hop is -/
theorem isHop_steps (hD : Dists E DD) (hr : r.kind = 1) (hm : mayV r = true) {v : Vx} {a : Val2} {h : Hp} (ha : DD r v = some a) (hh : isHop E DD r v h) :
    (h.id = 0 ∧ v.kind = 2 ∧ v.id / 16 = h.lan ∧ a.h = 1) ∨ (h.id ≠ 0 ∧ h.id ≠ r.id ∧ (1 ≤ h.id ∧ h.id ≤ 15) ∧ ∃ b y, DD ⟨1, h.id⟩ v = some b ∧ DD r ⟨1, h.id⟩ = some y ∧ b.c + y.c = a.c ∧ 1 ≤ y.c) := by
  obtain ⟨e, he, hc, hs, a', ha', hh⟩ := hh
  rw [ha] at ha'
  cases ha'
  have hsk : e.fk = r.kind := by rw [← hs]; rfl
  obtain ⟨-, -, hk⟩ := cntE_iff.1 hc
  obtain ⟨n1, hn1, hle1⟩ := (hD r).closed e he hc ⟨0, 0⟩ (by rw [hs]; exact (hD r).root)
  rcases hh with ⟨h1, h2, h3⟩ | ⟨f, hf, hfc, hfs, b, hb, h2, h3⟩
  · left
    subst h1
    rw [ha] at hn1
    cases hn1
    have hp := (hD r).pos hr _ _ ha
    rw [h3]
    refine ⟨rfl, ?_, rfl, ?_⟩
    · show e.tk = 2
      omega
    · unfold leV stepV hopN at hle1
      have htk : e.tk = 2 := by omega
      rw [if_pos htk] at hle1
      simp only at hle1
      rcases hp with ⟨-, hp⟩ | ⟨-, hp⟩
      · rw [hp] at h2
        simp only at h2
        omega
      · omega
  · right
    obtain ⟨-, hfm, hfk⟩ := cntE_iff.1 hfc
    have hfsk : f.fk = e.tk := congrArg Vx.kind hfs
    have hft : f.tk = 1 := by omega
    have hfd : f.dst = ⟨1, f.ti⟩ := by unfold Ed.dst; rw [hft]
    have hfi : 1 ≤ f.ti ∧ f.ti ≤ 15 := by
      rcases mayV_iff.1 hfm with ⟨-, q1, q2⟩ | ⟨q0, -, -⟩
      · rw [hfd] at q1 q2; exact ⟨q1, q2⟩
      · rw [hfd] at q0; simp only at q0; omega
    obtain ⟨n2, hn2, hle2⟩ := (hD r).closed f hf hfc n1 (by rw [hfs]; exact hn1)
    obtain ⟨x, hx, hle3⟩ := dist_join hD hn2 hb
    rw [ha] at hx
    cases hx
    rw [h3]
    unfold leV stepV at hle1 hle2
    simp only at hle1 hle2 h2 ⊢
    have hne : f.dst ≠ r := by
      intro e'
      rw [e', ha] at hb
      cases hb
      omega
    refine ⟨by omega, fun e' => hne ?_, hfi, b, n2, by rw [← hfd]; exact hb, by rw [← hfd]; exact hn2, by omega, ?_⟩
    · rw [hfd, e']
      cases r
      simp only at hr
      rw [hr]
    · rcases (hD r).pos hr _ _ hn2 with ⟨g, -⟩ | ⟨-, g, -⟩
      · exact absurd g hne
      · exact g
end

end Go.Proofs.Ytpfjgecdlilkcaa
