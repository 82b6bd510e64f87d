/-
  Who has elected elects the same again; who is elected may be; candidates that agree elect those.
-/
import Derived.Test.YtkaeedffhmlomaaElSettle
namespace Go.Proofs.Ytkaeedffhmlomaa

section
variable {l : List Cand} (hap : apartB l = true)
include hap
theorem g_may (D B : Int → Bool) : (gD l D B ≠ 0 → May l (gD l D B)) ∧ (gB l D B ≠ 0 → May l (gB l D B)) ∧ ((∃ x, May l x) → gD l D B ≠ 0) := by
  obtain ⟨hd, h1⟩ := (apart_iff l).1 hap
  have hb : gB l D B ≠ 0 → May l (gB l D B) := by
    intro h
    unfold gB at h ⊢
    split at h
    · rename_i e; rw [if_pos e]; exact (pick_is hd h1 _ h).2
    · rename_i e; rw [if_neg e]; exact (pick_is hd h1 _ h).2
  refine ⟨fun h => ?_, hb, fun ⟨x, hx⟩ => ?_⟩
  · unfold gD at h ⊢
    split at h
    · rename_i e; rw [if_pos e]; exact hb h
    · rename_i e; rw [if_neg e]; exact (pick_is hd h1 _ h).2
  · unfold gD
    split
    · rename_i e
      unfold gB
      split
      · refine pick_ne hd h1 _ hx ?_
        rcases h : D x with _ | _
        · rfl
        · exact absurd e (pick_ne hd h1 _ hx h)
      · assumption
    · assumption
theorem elect_may {c : Cand} (hc : c ∈ l) : ((elect c.id l).1 ≠ 0 → May l (elect c.id l).1) ∧ ((elect c.id l).2 ≠ 0 → May l (elect c.id l).2) ∧ ((∃ x, May l x) → (elect c.id l).1 ≠ 0) := by
  obtain ⟨hd, h1⟩ := (apart_iff l).1 hap
  rw [elect_claims hap (claims_of hd) hc]
  exact g_may hap _ _

theorem again_core (D B : Int → Bool) (_hdis : ∀ x, May l x → B x = true → D x = false) (x : Int) (dr bdr : Int)
    (h1 : dr = gD l (upd D x (gD l D B == x)) (upd B x (gD l D B != x && gB l D B == x))) (h2 : bdr = gB l (upd D x (gD l D B == x)) (upd B x (gD l D B != x && gB l D B == x))) :
    gD l (upd D x (dr == x)) (upd B x (dr != x && bdr == x)) = dr ∧ gB l (upd D x (dr == x)) (upd B x (dr != x && bdr == x)) = bdr ∧ (dr ≠ bdr ∨ dr = 0 ∨ dr ≠ x) := by
  obtain ⟨hd, hid⟩ := (apart_iff l).1 hap
  have gcongr : ∀ D1 D2 B1 B2 : Int → Bool, (∀ y, May l y → D1 y = D2 y) → (∀ y, May l y → B1 y = B2 y) → gD l D1 B1 = gD l D2 B2 ∧ gB l D1 B1 = gB l D2 B2 := by
    intro D1 D2 B1 B2 e1 e2
    have p1 := pick_eq hd hid D1 D2 e1
    have p2 := pick_eq hd hid B1 B2 e2
    have p3 := pick_eq hd hid (fun x => !D1 x) (fun x => !D2 x) fun y hy => by rw [e1 y hy]
    unfold gD gB
    rw [p1, p2, p3]; exact ⟨rfl, rfl⟩
  by_cases hx : May l x
  · have hx0 := may_ne hd hid hx
    have ponly : ∀ S : Int → Bool, S x = true → (∀ y, May l y → S y = true → y = x) → pick S l = x := by
      intro S hs hall
      have h0 := pick_ne hd hid S hx hs
      have := pick_is hd hid S h0
      exact hall _ this.2 this.1
    have pzero : ∀ S : Int → Bool, pick S l = 0 → ∀ y, May l y → S y = false := by
      intro S h y hy
      rcases e : S y with _ | _
      · rfl
      · exact absurd h (pick_ne hd hid S hy e)
    have pz : ∀ S : Int → Bool, (∀ y, May l y → S y = false) → pick S l = 0 := by
      intro S h
      by_cases h0 : pick S l = 0
      · exact h0
      · have := pick_is hd hid S h0
        rw [h _ this.2] at this; cases this.1
    have upd_same : ∀ (S : Int → Bool) (b : Bool), S x = b → upd S x b = S := by
      intro S b h; funext y; unfold upd; split
      · rename_i e; rw [e, h]
      · rfl
    have updx : ∀ (S : Int → Bool) (b : Bool), upd S x b x = b := fun S b => by unfold upd; rw [if_pos rfl]
    have updn : ∀ (S : Int → Bool) (b : Bool) y, y ≠ x → upd S x b y = S y := fun S b y h => by unfold upd; rw [if_neg h]
    have pdrop : ∀ S : Int → Bool, pick S l ≠ 0 → pick S l ≠ x → pick (upd S x false) l = pick S l := by
      intro S h0 hne
      refine pick_sub hd hid _ _ (fun y _ hy => ?_) ?_ h0
      · by_cases e : y = x
        · rw [e, updx] at hy; cases hy
        · rwa [updn _ _ _ e] at hy
      · rw [updn _ _ _ hne]; exact (pick_is hd hid S h0).1
    by_cases hd0 : gD l D B = x
    · -- this one is designated
      have e1 : pick (upd D x true) l = x := by
        by_cases hp : pick D l = 0
        · refine ponly _ (updx _ _) fun y hy hs => Classical.byContradiction fun he => ?_
          rw [updn _ _ _ he, pzero D hp y hy] at hs; cases hs
        · have : pick D l = x := by unfold gD at hd0; rwa [if_neg hp] at hd0
          have hDx := (pick_is hd hid D hp).1
          rw [this] at hDx
          rw [upd_same D true hDx]; exact this
      rw [hd0] at h1 h2
      simp only [beq_self_eq_true, bne_self_eq_false, Bool.false_and] at h1 h2
      have hdr : dr = x := by rw [h1]; unfold gD; rw [e1, if_neg hx0]
      have hb : bdr ≠ x := by
        rw [h2]; unfold gB
        split
        · intro e
          by_cases h0 : pick (fun y => !(upd D x true) y) l = 0
          · rw [h0] at e; exact hx0 e.symm
          · have := (pick_is hd hid _ h0).1
            rw [e] at this; simp [updx] at this
        · rename_i h0
          intro e
          have := (pick_is hd hid _ h0).1
          rw [e, updx] at this; cases this
      rw [hdr]
      simp only [beq_self_eq_true, bne_self_eq_false, Bool.false_and]
      rw [← h1, ← h2]
      exact ⟨hdr, rfl, .inl fun e => hb e.symm⟩
    · have hd0b : (gD l D B == x) = false := by simpa using hd0
      have hd0n : (gD l D B != x) = true := by simpa using hd0
      rw [hd0b, hd0n] at h1 h2
      simp only [Bool.true_and] at h1 h2
      by_cases hb0 : gB l D B = x
      · -- this one is the backup
        have hp : pick D l ≠ 0 := by
          intro h; unfold gD at hd0; rw [if_pos h] at hd0; exact hd0 hb0
        have hpd : pick D l ≠ x := by unfold gD at hd0; rwa [if_neg hp] at hd0
        have e1 := pdrop D hp hpd
        have e2 : pick (upd B x true) l = x := by
          by_cases hq : pick B l = 0
          · refine ponly _ (updx _ _) fun y hy hs => Classical.byContradiction fun he => ?_
            rw [updn _ _ _ he, pzero B hq y hy] at hs; cases hs
          · have : pick B l = x := by unfold gB at hb0; rwa [if_neg hq] at hb0
            have hBx := (pick_is hd hid B hq).1
            rw [this] at hBx
            rw [upd_same B true hBx]; exact this
        rw [hb0] at h1 h2
        simp only [beq_self_eq_true] at h1 h2
        have hdr : dr = pick D l := by rw [h1]; unfold gD; rw [e1, if_neg hp]
        have hbx : bdr = x := by rw [h2]; unfold gB; rw [e2, if_neg hx0]
        have hne : dr ≠ x := by rw [hdr]; exact hpd
        have n1 : (dr == x) = false := by simpa using hne
        have n2 : (dr != x) = true := by simpa using hne
        have n3 : (bdr == x) = true := by simpa using hbx
        rw [n1, n2, n3]
        simp only [Bool.true_and]
        exact ⟨h1.symm, h2.symm, .inr (.inr hne)⟩
      · have hb0b : (gB l D B == x) = false := by simpa using hb0
        rw [hb0b] at h1 h2
        -- neither
        have key : dr ≠ x ∧ (pick (upd D x false) l = 0 → bdr ≠ x) := by
          by_cases hp : pick D l = 0
          · have hDx := pzero D hp x hx
            have eD : upd D x false = D := upd_same D false hDx
            have hgb : gB l D (upd B x false) = gB l D B := by
              by_cases hq : pick B l = 0
              · have : pick (upd B x false) l = 0 := pz _ fun y hy => by
                  by_cases e : y = x
                  · rw [e, updx]
                  · rw [updn _ _ _ e]; exact pzero B hq y hy
                unfold gB; rw [this, hq]
              · have hqx : pick B l ≠ x := by unfold gB at hb0; rwa [if_neg hq] at hb0
                unfold gB; rw [pdrop B hq hqx]
            rw [eD] at h1 h2 ⊢
            rw [hgb] at h2
            have : dr = gB l D B := by rw [h1]; unfold gD; rw [if_pos hp]; exact hgb
            exact ⟨by rw [this]; exact hb0, fun _ => by rw [h2]; exact hb0⟩
          · have hpx : pick D l ≠ x := by unfold gD at hd0; rwa [if_neg hp] at hd0
            have e1 := pdrop D hp hpx
            have hdr : dr = pick D l := by rw [h1]; unfold gD; rw [e1, if_neg hp]
            exact ⟨by rw [hdr]; exact hpx, fun h => absurd (e1 ▸ h) hp⟩
        have n1 : (dr == x) = false := by simpa using key.1
        have n2 : (dr != x) = true := by simpa using key.1
        rw [n1, n2]
        simp only [Bool.true_and]
        by_cases hbx : bdr = x
        · have hp1 : pick (upd D x false) l ≠ 0 := fun h => key.2 h hbx
          have hq : pick (upd B x false) l = 0 := by
            by_cases h0 : pick (upd B x false) l = 0
            · exact h0
            · have : gB l (upd D x false) (upd B x false) = pick (upd B x false) l := by unfold gB; rw [if_neg h0]
              have hi := (pick_is hd hid _ h0).1
              rw [← this, ← h2, hbx, updx] at hi; cases hi
          have e2 : pick (upd B x true) l = x := ponly _ (updx _ _) fun y hy hs => Classical.byContradiction fun he => by
            rw [updn _ _ _ he] at hs
            have := pzero _ hq y hy
            rw [updn _ _ _ he, hs] at this; cases this
          have n3 : (bdr == x) = true := by simpa using hbx
          rw [n3]
          refine ⟨?_, ?_, .inr (.inr key.1)⟩
          · rw [h1]; unfold gD; rw [if_neg hp1, if_neg hp1]
          · rw [hbx]; unfold gB; rw [e2, if_neg hx0]
        · have n3 : (bdr == x) = false := by simpa using hbx
          rw [n3]
          exact ⟨h1.symm, h2.symm, .inr (.inr key.1)⟩
  · have hupd : ∀ (S : Int → Bool) (b b' : Bool) y, May l y → upd S x b y = upd S x b' y := by
      intro S b b' y hy
      unfold upd
      have : y ≠ x := fun e => hx (e ▸ hy)
      rw [if_neg this, if_neg this]
    have e := gcongr (upd D x (dr == x)) (upd D x (gD l D B == x)) (upd B x (dr != x && bdr == x)) (upd B x (gD l D B != x && gB l D B == x)) (hupd _ _ _) (hupd _ _ _)
    refine ⟨e.1.trans h1.symm, e.2.trans h2.symm, ?_⟩
    have hm := (g_may hap (upd D x (gD l D B == x)) (upd B x (gD l D B != x && gB l D B == x))).1
    rw [← h1] at hm
    by_cases h0 : dr = 0
    · exact .inr (.inl h0)
    · exact .inr (.inr fun e => hx (e ▸ hm h0))

/-- who has elected elects the same again -/
theorem elect_again {k : Nat} (hk : k < l.length) {dr bdr : Int} (h : elect l[k].id l = (dr, bdr)) :
    elect l[k].id (l.set k { l[k] with dr := dr, bdr := bdr }) = (dr, bdr) ∧ (dr ≠ bdr ∨ dr = 0 ∨ dr ≠ l[k].id) := by
  obtain ⟨hd, h1⟩ := (apart_iff l).1 hap
  have hcl := claims_of hd
  have hm : l[k] ∈ l := List.getElem_mem hk
  have e := elect_claims hap hcl hm
  rw [h] at e
  have hal : Alike (l.set k { l[k] with dr := dr, bdr := bdr }) l := alike_set l k _ fun _ => ⟨rfl, rfl⟩
  have hap' : apartB (l.set k { l[k] with dr := dr, bdr := bdr }) = true := by
    rw [apart_iff]
    constructor
    · unfold Distinct
      rw [List.pairwise_iff_getElem]
      intro i j hi hj hij
      simp only [List.length_set] at hi hj
      have := List.pairwise_iff_getElem.1 hd i j hi hj hij
      rw [List.getElem_set, List.getElem_set]
      split <;> split <;> simp_all
    · intro x hx
      obtain ⟨j, hj, rfl⟩ := List.getElem_of_mem hx
      simp only [List.length_set] at hj
      rw [List.getElem_set]
      split
      · show 1 ≤ l[k].id
        exact h1 _ hm
      · exact h1 _ (List.getElem_mem hj)
  have hcore := again_core hap (clD l) (clB l) (fun x hx => disj hap hcl hx) l[k].id dr bdr (congrArg Prod.fst e) (congrArg Prod.snd e)
  have hcl' : Claims (l.set k { l[k] with dr := dr, bdr := bdr }) (upd (clD l) l[k].id (dr == l[k].id)) (upd (clB l) l[k].id (dr != l[k].id && bdr == l[k].id)) := by
    intro c hc
    obtain ⟨j, hj, rfl⟩ := List.getElem_of_mem hc
    simp only [List.length_set] at hj
    rw [List.getElem_set]
    by_cases hjk : k = j
    · subst hjk
      rw [if_pos rfl]
      unfold upd
      simp
    · rw [if_neg hjk]
      have hne : l[j].id ≠ l[k].id := by
        rcases Nat.lt_or_gt_of_ne hjk with h' | h'
        · exact fun e => List.pairwise_iff_getElem.1 hd k j hk hj h' e.symm
        · exact List.pairwise_iff_getElem.1 hd j k hj hk h'
      unfold upd
      rw [if_neg hne, if_neg hne]
      exact hcl _ (List.getElem_mem hj)
  have hm' : { l[k] with dr := dr, bdr := bdr } ∈ l.set k { l[k] with dr := dr, bdr := bdr } := by
    exact List.mem_iff_getElem.2 ⟨k, by simpa using hk, by simp⟩
  have e2 := elect_claims hap' hcl' hm'
  simp only at e2
  have hupd2 : ∀ (S : Int → Bool) (b b' : Bool), upd (upd S l[k].id b) l[k].id b' = upd S l[k].id b' := by
    intro S b b'; funext y; unfold upd; split <;> rfl
  rw [(g_alike hal _ _).1, (g_alike hal _ _).2, (g_alike hal _ _).1, (g_alike hal _ _).2] at e2
  rw [hcore.1, hcore.2.1, hupd2, hupd2, hcore.1, hcore.2.1] at e2
  exact ⟨e2, hcore.2.2⟩
end

/-- candidates that take the same two -/
def taking (l : List Cand) (a b : Int) : List Cand := l.map fun c => { c with dr := a, bdr := b }
theorem taking_good {l : List Cand} (hap : apartB l = true) {a b : Int} (ha : May l a) (hb : May l b) (hne : a ≠ b) : apartB (taking l a b) = true ∧ Good (taking l a b) := by
  have hal : Alike (taking l a b) l := alike_map (fun c => { c with dr := a, bdr := b }) (fun _ => ⟨rfl, rfl⟩) l
  refine ⟨apart_map (fun c => { c with dr := a, bdr := b }) (fun _ => rfl) hap, a, b, fun c hc => ?_, .inr (.inr ⟨may_alike hal.symm _ ha, may_alike hal.symm _ hb, hne⟩)⟩
  obtain ⟨d, _, rfl⟩ := List.mem_map.1 hc
  exact ⟨rfl, rfl⟩
theorem taking_elect {l : List Cand} (hap : apartB l = true) {a b : Int} (ha : May l a) (hb : May l b) (hne : a ≠ b) {c : Cand} (hc : c ∈ taking l a b) : elect c.id (taking l a b) = (a, b) := by
  obtain ⟨hap', hg⟩ := taking_good hap ha hb hne
  have hs := (good_stays hap' hg).2
  unfold stable at hs
  rw [List.all_eq_true] at hs
  have h := hs c hc
  obtain ⟨d, _, rfl⟩ := List.mem_map.1 hc
  simp only [Bool.and_eq_true, beq_iff_eq] at h
  exact Prod.ext h.1.2 h.2

end Go.Proofs.Ytkaeedffhmlomaa
