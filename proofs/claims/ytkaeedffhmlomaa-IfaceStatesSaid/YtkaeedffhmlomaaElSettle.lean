/-
  Elections settle: three rounds, and for good.
-/
import Derived.Test.YtkaeedffhmlomaaElPick
namespace Go.Proofs.Ytkaeedffhmlomaa

/-- all elect, with what all took at the round ahead -/
def rnd (l : List Cand) : List Cand := l.map fun c => { c with dr := (elect c.id l).1, bdr := (elect c.id l).2 }
theorem rnd_alike (l : List Cand) : Alike (rnd l) l := alike_map (fun c => { c with dr := (elect c.id l).1, bdr := (elect c.id l).2 }) (fun _ => ⟨rfl, rfl⟩) l
theorem rnd_apart {l : List Cand} (h : apartB l = true) : apartB (rnd l) = true := apart_map (fun c => { c with dr := (elect c.id l).1, bdr := (elect c.id l).2 }) (fun _ => rfl) h
theorem may_alike : ∀ {l m : List Cand}, Alike l m → ∀ x, May l x → May m x
  | [], [], _, _, h => h
  | c :: l, d :: m, ⟨h1, h2, h⟩, x, ⟨e, he, hx, hp⟩ => by
    rcases List.mem_cons.1 he with rfl | he
    · exact ⟨d, by simp, by rw [← h1]; exact hx, by rw [← h2]; exact hp⟩
    · obtain ⟨f, hf, a, b⟩ := may_alike h x ⟨e, he, hx, hp⟩
      exact ⟨f, by simp [hf], a, b⟩

def vDr (l : List Cand) (D B : Int → Bool) (x : Int) : Int := gD l (upd D x (gD l D B == x)) (upd B x (gD l D B != x && gB l D B == x))
def vBdr (l : List Cand) (D B : Int → Bool) (x : Int) : Int := gB l (upd D x (gD l D B == x)) (upd B x (gD l D B != x && gB l D B == x))

theorem rnd_eq {l : List Cand} {D B : Int → Bool} (hap : apartB l = true) (h : Claims l D B) : rnd l = l.map fun c => { c with dr := vDr l D B c.id, bdr := vBdr l D B c.id } := by
  unfold rnd
  apply List.map_congr_left
  intro c hc
  rw [elect_claims hap h hc]; rfl
theorem rnd_claims {l : List Cand} {D B : Int → Bool} (hap : apartB l = true) (h : Claims l D B) : Claims (rnd l) (fun x => vDr l D B x == x) (fun x => vDr l D B x != x && vBdr l D B x == x) := by
  rw [rnd_eq hap h]
  intro c hc
  obtain ⟨d, hd, rfl⟩ := List.mem_map.1 hc
  exact ⟨rfl, rfl⟩

/-- all take the same two, as it should be -/
def Good (l : List Cand) : Prop := ∃ d b, (∀ c ∈ l, c.dr = d ∧ c.bdr = b) ∧
  (((∀ x, ¬ May l x) ∧ d = 0 ∧ b = 0) ∨ (May l d ∧ b = 0 ∧ ∀ x, May l x → x = d) ∨ (May l d ∧ May l b ∧ d ≠ b))

theorem good_of_views {l : List Cand} {D B : Int → Bool} (hap : apartB l = true) (h : Claims l D B) (d b : Int) (hv : ∀ x, vDr l D B x = d ∧ vBdr l D B x = b)
    (hk : ((∀ x, ¬ May l x) ∧ d = 0 ∧ b = 0) ∨ (May l d ∧ b = 0 ∧ ∀ x, May l x → x = d) ∨ (May l d ∧ May l b ∧ d ≠ b)) : Good (rnd l) := by
  refine ⟨d, b, ?_, ?_⟩
  · rw [rnd_eq hap h]
    intro c hc
    obtain ⟨e, _, rfl⟩ := List.mem_map.1 hc
    exact hv e.id
  · have m1 : ∀ x, May l x → May (rnd l) x := may_alike (rnd_alike l).symm
    have m2 : ∀ x, May (rnd l) x → May l x := may_alike (rnd_alike l)
    rcases hk with ⟨a, e1, e2⟩ | ⟨a, e1, e2⟩ | ⟨a, e1, e2⟩
    · exact .inl ⟨fun x hx => a x (m2 x hx), e1, e2⟩
    · exact .inr (.inl ⟨m1 _ a, e1, fun x hx => e2 x (m2 x hx)⟩)
    · exact .inr (.inr ⟨m1 _ a, m1 _ e1, e2⟩)

theorem good_of {l : List Cand} {D B : Int → Bool} (hap : apartB l = true) (h : Claims l D B) (d b : Int) (hv : ∀ c ∈ l, vDr l D B c.id = d ∧ vBdr l D B c.id = b)
    (hk : ((∀ x, ¬ May l x) ∧ d = 0 ∧ b = 0) ∨ (May l d ∧ b = 0 ∧ ∀ x, May l x → x = d) ∨ (May l d ∧ May l b ∧ d ≠ b)) : Good (rnd l) := by
  refine ⟨d, b, ?_, ?_⟩
  · rw [rnd_eq hap h]
    intro c hc
    obtain ⟨e, he, rfl⟩ := List.mem_map.1 hc
    exact hv e he
  · have m1 : ∀ x, May l x → May (rnd l) x := may_alike (rnd_alike l).symm
    have m2 : ∀ x, May (rnd l) x → May l x := may_alike (rnd_alike l)
    rcases hk with ⟨a, e1, e2⟩ | ⟨a, e1, e2⟩ | ⟨a, e1, e2⟩
    · exact .inl ⟨fun x hx => a x (m2 x hx), e1, e2⟩
    · exact .inr (.inl ⟨m1 _ a, e1, fun x hx => e2 x (m2 x hx)⟩)
    · exact .inr (.inr ⟨m1 _ a, m1 _ e1, e2⟩)

theorem disj {l : List Cand} {D B : Int → Bool} (_ : apartB l = true) (hcl : Claims l D B) {x : Int} (hx : May l x) (hb : B x = true) : D x = false := by
  obtain ⟨c, hc, rfl, _⟩ := hx
  have := hcl c hc
  rw [this.2] at hb
  rw [this.1]
  simp only [Bool.and_eq_true, bne] at hb
  simpa using hb.1
theorem pick_zero {l : List Cand} {D B : Int → Bool} (hap : apartB l = true) (_ : Claims l D B) (S : Int → Bool) (h : ∀ x, May l x → S x = false) : pick S l = 0 := by
  obtain ⟨hd, h1⟩ := (apart_iff l).1 hap
  by_cases h0 : pick S l = 0
  · exact h0
  · have := pick_is hd h1 S h0
    rw [h _ this.2] at this; cases this.1
theorem pick_only {l : List Cand} {D B : Int → Bool} (hap : apartB l = true) (_ : Claims l D B) (S : Int → Bool) {z : Int} (hz : May l z) (hs : S z = true) (h : ∀ x, May l x → S x = true → x = z) : pick S l = z := by
  obtain ⟨hd, h1⟩ := (apart_iff l).1 hap
  have h0 := pick_ne hd h1 S hz hs
  have := pick_is hd h1 S h0
  exact h _ this.2 this.1

section
variable {l : List Cand} {D B : Int → Bool} (hap : apartB l = true) (hcl : Claims l D B)
include hap hcl
/-- nobody may be elected -/
theorem settle_none (h : ∀ x, ¬ May l x) : Good (rnd l) := by
  have hz : ∀ S, pick S l = 0 := fun S => pick_zero hap hcl S fun x hx => (h x hx).elim
  refine good_of_views hap hcl 0 0 (fun x => ?_) (.inl ⟨h, rfl, rfl⟩)
  unfold vDr vBdr
  simp [gD, gB, hz]
/-- just one may be, and claims it -/
theorem settle_one {z : Int} (hz : May l z) (hone : ∀ x, May l x → x = z) (hD : D z = true) : Good (rnd l) := by
  obtain ⟨hd, h1⟩ := (apart_iff l).1 hap
  have hz0 := may_ne hd h1 hz
  have hB : B z = false := by
    rcases hb : B z with _ | _
    · rfl
    · have := disj hap hcl hz hb; rw [hD] at this; cases this
  have e1 : pick D l = z := pick_only hap hcl D hz hD fun x hx _ => hone x hx
  have e2 : pick B l = 0 := pick_zero hap hcl B fun x hx => by rw [hone x hx]; exact hB
  have e3 : pick (fun x => !D x) l = 0 := pick_zero hap hcl _ fun x hx => by rw [hone x hx, hD]; rfl
  have gd : gD l D B = z := by unfold gD; rw [e1, if_neg hz0]
  have gb : gB l D B = 0 := by unfold gB; rw [e2, if_pos rfl, e3]
  refine good_of_views hap hcl z 0 (fun x => ?_) (.inr (.inl ⟨hz, rfl, hone⟩))
  unfold vDr vBdr
  rw [gd, gb]
  have d1 : (upd D x (z == x)) z = true := by unfold upd; split <;> simp_all
  have b1 : (upd B x (z != x && (0 : Int) == x)) z = false := by
    unfold upd
    split
    · rename_i e; simp [e]
    · exact hB
  have f1 : pick (upd D x (z == x)) l = z := pick_only hap hcl _ hz d1 fun y hy _ => hone y hy
  have f2 : pick (upd B x (z != x && (0 : Int) == x)) l = 0 := pick_zero hap hcl _ fun y hy => by rw [hone y hy]; exact b1
  have f3 : pick (fun y => !(upd D x (z == x)) y) l = 0 := pick_zero hap hcl _ fun y hy => by rw [hone y hy, d1]; rfl
  constructor
  · unfold gD; rw [f1, if_neg hz0]
  · unfold gB; rw [f2, if_pos rfl, f3]
/-- somebody claims the one, somebody the other -/
theorem settle_both {x y : Int} (hx : May l x) (hDx : D x = true) (hy : May l y) (hBy : B y = true) : Good (rnd l) := by
  obtain ⟨hd, h1⟩ := (apart_iff l).1 hap
  have n1 := pick_ne hd h1 D hx hDx
  have n2 := pick_ne hd h1 B hy hBy
  have i1 := pick_is hd h1 D n1
  have i2 := pick_is hd h1 B n2
  have hne : pick D l ≠ pick B l := by
    intro e
    have := disj hap hcl i2.2 i2.1
    rw [← e, i1.1] at this; cases this
  have gd : gD l D B = pick D l := by unfold gD; rw [if_neg n1]
  have gb : gB l D B = pick B l := by unfold gB; rw [if_neg n2]
  refine good_of_views hap hcl (pick D l) (pick B l) (fun z => ?_) (.inr (.inr ⟨i1.2, i2.2, hne⟩))
  unfold vDr vBdr
  rw [gd, gb]
  have f1 : pick (upd D z (pick D l == z)) l = pick D l := by
    refine pick_sub hd h1 _ _ (fun u _ hu => ?_) ?_ n1
    · unfold upd at hu
      split at hu
      · rename_i e; simp only [beq_iff_eq] at hu; rw [e, ← hu]; exact i1.1
      · exact hu
    · unfold upd; split
      · rename_i e; simp [e]
      · exact i1.1
  have f2 : pick (upd B z (pick D l != z && pick B l == z)) l = pick B l := by
    refine pick_sub hd h1 _ _ (fun u _ hu => ?_) ?_ n2
    · unfold upd at hu
      split at hu
      · rename_i e; simp only [Bool.and_eq_true, beq_iff_eq] at hu; rw [e, ← hu.2]; exact i2.1
      · exact hu
    · unfold upd; split
      · rename_i e; rw [← e]; simpa using hne
      · exact i2.1
  constructor
  · unfold gD; rw [f1, if_neg n1]
  · unfold gB; rw [f2, if_neg n2]
/-- somebody claims the one, nobody the other: then somebody claims the other, too -/
theorem settle_dr {x : Int} (hx : May l x) (hDx : D x = true) (hB : ∀ y, May l y → B y = false) (h2 : ∃ u, May l u ∧ ∃ v, May l v ∧ u ≠ v) :
    ∃ a b, May l a ∧ (vDr l D B a == a) = true ∧ May l b ∧ (vDr l D B b != b && vBdr l D B b == b) = true := by
  obtain ⟨hd, h1⟩ := (apart_iff l).1 hap
  have n1 := pick_ne hd h1 D hx hDx
  have i1 := pick_is hd h1 D n1
  have e2 : pick B l = 0 := pick_zero hap hcl B hB
  have gd : gD l D B = pick D l := by unfold gD; rw [if_neg n1]
  have gb : gB l D B = pick (fun x => !D x) l := by unfold gB; rw [if_pos e2]
  have f1 : ∀ z, pick (upd D z (pick D l == z)) l = pick D l := by
    intro z
    refine pick_sub hd h1 _ _ (fun u _ hu => ?_) ?_ n1
    · unfold upd at hu
      split at hu
      · rename_i e; simp only [beq_iff_eq] at hu; rw [e, ← hu]; exact i1.1
      · exact hu
    · unfold upd; split
      · rename_i e; simp [e]
      · exact i1.1
  have vd : ∀ z, vDr l D B z = pick D l := by
    intro z
    unfold vDr
    rw [gd]
    unfold gD
    rw [f1, if_neg n1]
  refine ⟨pick D l, ?_⟩
  by_cases hb0 : pick (fun x => !D x) l = 0
  · obtain ⟨u, hu, v, hv, huv⟩ := h2
    have hDall : ∀ y, May l y → D y = true := by
      intro y hy
      rcases h : D y with _ | _
      · exact absurd hb0 (pick_ne hd h1 _ hy (by simp [h]))
      · rfl
    obtain ⟨w, hw, hwd⟩ : ∃ w, May l w ∧ w ≠ pick D l := by
      by_cases h : u = pick D l
      · exact ⟨v, hv, fun e => huv (h.trans e.symm)⟩
      · exact ⟨u, hu, h⟩
    refine ⟨w, i1.2, by rw [vd]; simp, hw, ?_⟩
    rw [vd]
    have : vBdr l D B w = w := by
      unfold vBdr
      rw [gd, gb, hb0]
      have e3 : pick (upd B w (pick D l != w && (0 : Int) == w)) l = 0 := by
        refine pick_zero hap hcl _ fun y hy => ?_
        unfold upd
        split
        · have := may_ne hd h1 hw
          simp; intro _ e; exact this e.symm
        · exact hB y hy
      unfold gB
      rw [if_pos e3]
      refine pick_only hap hcl _ hw ?_ fun y hy hy2 => ?_
      · unfold upd; rw [if_pos rfl]; simp; exact fun e => hwd e.symm
      · unfold upd at hy2
        split at hy2
        · assumption
        · rw [hDall y hy] at hy2; cases hy2
    rw [this]
    simp; exact fun e => hwd e.symm
  · have i3 := pick_is hd h1 _ hb0
    have hne : pick D l ≠ pick (fun x => !D x) l := by
      intro e
      have := i3.1
      rw [← e] at this
      simp only [i1.1] at this; cases this
    refine ⟨pick (fun x => !D x) l, i1.2, by rw [vd]; simp, i3.2, ?_⟩
    rw [vd]
    generalize hb : pick (fun x => !D x) l = b at *
    have : vBdr l D B b = b := by
      unfold vBdr
      rw [gd, gb]
      have hbt : (upd B b (pick D l != b && b == b)) b = true := by unfold upd; simp; exact hne
      have e3 : pick (upd B b (pick D l != b && b == b)) l = b := pick_only hap hcl _ i3.2 hbt fun y hy hy2 => by
        unfold upd at hy2
        split at hy2
        · assumption
        · rw [hB y hy] at hy2; cases hy2
      unfold gB
      rw [e3, if_neg (may_ne hd h1 i3.2)]
    rw [this]
    simp; exact hne
/-- nobody claims to be designated: then somebody does -/
theorem settle_no {x : Int} (hx : May l x) (hD : ∀ y, May l y → D y = false) : ∃ a, May l a ∧ (vDr l D B a == a) = true := by
  obtain ⟨hd, h1⟩ := (apart_iff l).1 hap
  have e1 : pick D l = 0 := pick_zero hap hcl D hD
  have hg : gB l D B ≠ 0 ∧ May l (gB l D B) := by
    unfold gB
    split
    · have n := pick_ne hd h1 (fun x => !D x) hx (by simp [hD x hx])
      exact ⟨n, (pick_is hd h1 _ n).2⟩
    · rename_i n
      exact ⟨n, (pick_is hd h1 _ n).2⟩
  have gd : gD l D B = gB l D B := by unfold gD; rw [if_pos e1]
  refine ⟨gB l D B, hg.2, ?_⟩
  unfold vDr
  rw [gd]
  generalize gB l D B = z at *
  have hzt : (upd D z (z == z)) z = true := by unfold upd; simp
  have e3 : pick (upd D z (z == z)) l = z := pick_only hap hcl _ hg.2 hzt fun y hy hy2 => by
    unfold upd at hy2
    split at hy2
    · assumption
    · rw [hD y hy] at hy2; cases hy2
  unfold gD
  rw [e3, if_neg hg.1]
  simp
end

/-- who agree stay -/
theorem good_stays {l : List Cand} (hap : apartB l = true) (h : Good l) : rnd l = l ∧ stable l = true := by
  obtain ⟨hd, h1⟩ := (apart_iff l).1 hap
  obtain ⟨d, b, hall, hk⟩ := h
  have hcl : Claims l (fun x => d == x) (fun x => d != x && b == x) := fun c hc => by
    obtain ⟨e1, e2⟩ := hall c hc
    rw [e1, e2]; exact ⟨rfl, rfl⟩
  have hg : gD l (fun x => d == x) (fun x => d != x && b == x) = d ∧ gB l (fun x => d == x) (fun x => d != x && b == x) = b := by
    rcases hk with ⟨hn, rfl, rfl⟩ | ⟨hm, rfl, hone⟩ | ⟨hm, hm2, hne⟩
    · have hz : ∀ S, pick S l = 0 := fun S => pick_zero hap hcl S fun x hx => (hn x hx).elim
      simp [gD, gB, hz]
    · have hd0 := may_ne hd h1 hm
      have e1 : pick (fun x => d == x) l = d := pick_only hap hcl _ hm (by simp) fun x hx _ => hone x hx
      have e2 : pick (fun x => d != x && (0 : Int) == x) l = 0 := pick_zero hap hcl _ fun x hx => by rw [hone x hx]; simp
      have e3 : pick (fun x => !(d == x)) l = 0 := pick_zero hap hcl _ fun x hx => by rw [hone x hx]; simp
      unfold gD gB
      rw [e1, e2, e3, if_neg hd0]; simp
    · have hd0 := may_ne hd h1 hm
      have hb0 := may_ne hd h1 hm2
      have e1 : pick (fun x => d == x) l = d := pick_only hap hcl _ hm (by simp) fun x hx h => by simpa using (by simpa using h : d = x).symm
      have e2 : pick (fun x => d != x && b == x) l = b := pick_only hap hcl _ hm2 (by simpa using hne) fun x hx h => by
        simp only [Bool.and_eq_true, beq_iff_eq] at h; exact h.2.symm
      unfold gD gB
      rw [e1, e2, if_neg hd0, if_neg hb0]; simp
  have hu1 : ∀ x, upd (fun x => d == x) x (d == x) = fun x => d == x := by
    intro x; funext y; unfold upd; split
    · rename_i e; rw [e]
    · rfl
  have hu2 : ∀ x, upd (fun x => d != x && b == x) x (d != x && b == x) = fun x => d != x && b == x := by
    intro x; funext y; unfold upd; split
    · rename_i e; rw [e]
    · rfl
  have hv : ∀ x, vDr l (fun x => d == x) (fun x => d != x && b == x) x = d ∧ vBdr l (fun x => d == x) (fun x => d != x && b == x) x = b := by
    intro x
    unfold vDr vBdr
    rw [hg.1, hg.2, hu1, hu2]
    exact hg
  constructor
  · rw [rnd_eq hap hcl]
    conv => rhs; rw [← List.map_id l]
    apply List.map_congr_left
    intro c hc
    rw [(hv c.id).1, (hv c.id).2]
    obtain ⟨e1, e2⟩ := hall c hc
    rw [← e1, ← e2]; rfl
  · unfold stable
    rw [List.all_eq_true]
    intro c hc
    rw [elect_claims hap hcl hc]
    have := hv c.id
    unfold vDr vBdr at this
    rw [this.1, this.2]
    obtain ⟨e1, e2⟩ := hall c hc
    have e0 : (l.headD Cand.zero).dr = d ∧ (l.headD Cand.zero).bdr = b := by
      rcases l with _ | ⟨z, l⟩
      · cases hc
      · exact hall z (by simp)
    rw [e1, e2, e0.1, e0.2]; simp

theorem good_rnd {l : List Cand} (hap : apartB l = true) (h : Good l) : Good (rnd l) := by rw [(good_stays hap h).1]; exact h

/-- who has a claim to be designated is agreed in two rounds -/
theorem settle_two {l : List Cand} {D B : Int → Bool} (hap : apartB l = true) (hcl : Claims l D B) {x : Int} (hx : May l x) (hD : D x = true) : Good (rnd (rnd l)) := by
  by_cases hone : ∀ u, May l u → u = x
  · exact good_rnd (rnd_apart hap) (settle_one hap hcl hx hone hD)
  · have h2 : ∃ u, May l u ∧ ∃ v, May l v ∧ u ≠ v := by
      refine Classical.byContradiction fun hn => hone fun u hu => ?_
      exact Classical.byContradiction fun he => hn ⟨u, hu, x, hx, he⟩
    by_cases hB : ∃ y, May l y ∧ B y = true
    · obtain ⟨y, hy, hBy⟩ := hB
      exact good_rnd (rnd_apart hap) (settle_both hap hcl hx hD hy hBy)
    · have hB' : ∀ y, May l y → B y = false := fun y hy => by
        rcases h : B y with _ | _
        · rfl
        · exact (hB ⟨y, hy, h⟩).elim
      obtain ⟨a, b, ha, hav, hb, hbv⟩ := settle_dr hap hcl hx hD hB' h2
      have m1 : ∀ x, May l x → May (rnd l) x := may_alike (rnd_alike l).symm
      exact settle_both (rnd_apart hap) (rnd_claims hap hcl) (m1 a ha) hav (m1 b hb) hbv

theorem settle_three {l : List Cand} (hap : apartB l = true) : Good (rnd (rnd (rnd l))) := by
  obtain ⟨hd, h1⟩ := (apart_iff l).1 hap
  have hcl := claims_of hd
  by_cases hn : ∃ x, May l x
  · obtain ⟨x, hx⟩ := hn
    by_cases hD : ∃ y, May l y ∧ clD l y = true
    · obtain ⟨y, hy, hDy⟩ := hD
      exact good_rnd (rnd_apart (rnd_apart hap)) (settle_two hap hcl hy hDy)
    · have hD' : ∀ y, May l y → clD l y = false := fun y hy => by
        rcases h : clD l y with _ | _
        · rfl
        · exact (hD ⟨y, hy, h⟩).elim
      obtain ⟨a, ha, hav⟩ := settle_no hap hcl hx hD'
      exact settle_two (rnd_apart hap) (rnd_claims hap hcl) (may_alike (rnd_alike l).symm a ha) hav
  · have := settle_none hap hcl fun x hx => hn ⟨x, hx⟩
    exact good_rnd (rnd_apart (rnd_apart hap)) (good_rnd (rnd_apart hap) this)

theorem settles {l : List Cand} (hap : apartB l = true) : stable (rnd (rnd (rnd (rnd (rnd (rnd l)))))) = true := by
  have h3 := settle_three hap
  have a3 := rnd_apart (rnd_apart (rnd_apart hap))
  have e := (good_stays a3 h3)
  rw [e.1, e.1, e.1]
  exact e.2

end Go.Proofs.Ytkaeedffhmlomaa
