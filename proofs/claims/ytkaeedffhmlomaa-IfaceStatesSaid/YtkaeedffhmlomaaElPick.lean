/-
  Elections by claims: an election hangs on who claims to be designated, and who claims to be the backup.
-/
import Derived.Test.YtkaeedffhmlomaaElLaw
namespace Go.Proofs.Ytkaeedffhmlomaa

/-- the number of the best one that is so, by numbers -/
def pick (S : Int → Bool) (l : List Cand) : Int := (bestC (fun c => S c.id) l).id

theorem best_congr {q q' : Cand → Bool} {l : List Cand} (h : ∀ c ∈ l, q c = q' c) : bestC q l = bestC q' l := by
  unfold bestC
  generalize Cand.zero = z
  induction l generalizing z with
  | nil => rfl
  | cons c l ih =>
    rw [List.foldl_cons, List.foldl_cons]
    have : step q z c = step q' z c := by unfold step; rw [h c (by simp)]
    rw [this]
    exact ih (fun d hd => h d (by simp [hd])) _

/-- alike: the same numbers and priorities, in order -/
def Alike : List Cand → List Cand → Prop
  | [], [] => True
  | c :: l, d :: m => c.id = d.id ∧ c.prio = d.prio ∧ Alike l m
  | _, _ => False
theorem Alike.refl : ∀ l, Alike l l
  | [] => trivial
  | _ :: l => ⟨rfl, rfl, Alike.refl l⟩
theorem Alike.symm : ∀ {l m}, Alike l m → Alike m l
  | [], [], _ => trivial
  | _ :: _, _ :: _, ⟨a, b, h⟩ => ⟨a.symm, b.symm, h.symm⟩
theorem Alike.trans : ∀ {l m n}, Alike l m → Alike m n → Alike l n
  | [], [], [], _, _ => trivial
  | _ :: _, _ :: _, _ :: _, ⟨a, b, h⟩, ⟨a', b', h'⟩ => ⟨a.trans a', b.trans b', h.trans h'⟩
theorem Alike.len : ∀ {l m}, Alike l m → l.length = m.length
  | [], [], _ => rfl
  | _ :: _, _ :: _, ⟨_, _, h⟩ => by simp [h.len]
theorem alike_map (f : Cand → Cand) (hf : ∀ c, (f c).id = c.id ∧ (f c).prio = c.prio) : ∀ l, Alike (l.map f) l
  | [] => trivial
  | c :: l => ⟨(hf c).1, (hf c).2, alike_map f hf l⟩
theorem alike_set : ∀ (l : List Cand) (i : Nat) (c : Cand), (∀ hi : i < l.length, c.id = l[i].id ∧ c.prio = l[i].prio) → Alike (l.set i c) l
  | [], _, _, _ => trivial
  | d :: l, 0, c, h => ⟨(h (by simp)).1, (h (by simp)).2, Alike.refl l⟩
  | d :: l, i + 1, c, h => ⟨rfl, rfl, alike_set l i c fun hi => h (by simpa using hi)⟩

theorem pick_alike_aux (S : Int → Bool) : ∀ {l m : List Cand}, Alike l m → ∀ a b : Cand, a.id = b.id → a.prio = b.prio →
    (l.foldl (step fun c => S c.id) a).id = (m.foldl (step fun c => S c.id) b).id
  | [], [], _, a, b, h, _ => h
  | c :: l, d :: m, ⟨h1, h2, h⟩, a, b, ha, hb => by
    rw [List.foldl_cons, List.foldl_cons]
    apply pick_alike_aux S h
    · unfold step; simp only [h1, h2, ha, hb]; split <;> assumption
    · unfold step; simp only [h1, h2, ha, hb]; split <;> assumption
theorem pick_alike (S : Int → Bool) {l m : List Cand} (h : Alike l m) : pick S l = pick S m := pick_alike_aux S h _ _ rfl rfl

/-- may be elected -/
def May (l : List Cand) (x : Int) : Prop := ∃ c ∈ l, c.id = x ∧ 0 < c.prio

section
variable {l : List Cand} (hd : Distinct l) (h1 : ∀ x ∈ l, 1 ≤ x.id)
include hd h1
theorem pick_is (S : Int → Bool) (h : pick S l ≠ 0) : S (pick S l) = true ∧ May l (pick S l) := by
  rcases bestC_best (fun c => S c.id) hd h1 with ⟨hz, _⟩ | ⟨hm, hp, hq, _⟩
  · exact absurd (by unfold pick; rw [hz]; rfl) h
  · exact ⟨hq, _, hm, rfl, hp⟩
theorem pick_ne (S : Int → Bool) {x : Int} (hx : May l x) (hs : S x = true) : pick S l ≠ 0 := by
  obtain ⟨c, hc, rfl, hp⟩ := hx
  rcases bestC_best (fun c => S c.id) hd h1 with ⟨hz, hno⟩ | ⟨hm, _, _, _⟩
  · have := hno c hc hp; simp only at this; rw [hs] at this; cases this
  · have := h1 _ hm; unfold pick; omega
theorem pick_sub (S T : Int → Bool) (hst : ∀ x, May l x → S x = true → T x = true) (hs : S (pick T l) = true) (h0 : pick T l ≠ 0) : pick S l = pick T l := by
  have hT := bestC_best (fun c => T c.id) hd h1
  have hS := bestC_best (fun c => S c.id) hd h1
  rcases hT with ⟨hz, _⟩ | ⟨hm, hp, hq, hbest⟩
  · exact absurd (by unfold pick; rw [hz]; rfl) h0
  · have : IsBest (fun c => S c.id) l (bestC (fun c => T c.id) l) := by
      refine .inr ⟨hm, hp, hs, fun x hx hxp hxs => hbest x hx hxp (hst _ ⟨x, hx, rfl, hxp⟩ hxs)⟩
    unfold pick
    rw [isBest_unique hS this]
theorem pick_eq (S T : Int → Bool) (hst : ∀ x, May l x → S x = T x) : pick S l = pick T l := by
  by_cases h0 : pick T l = 0
  · by_cases h2 : pick S l = 0
    · rw [h0, h2]
    · have := pick_is hd h1 S h2
      exact absurd h0 (pick_ne hd h1 T this.2 (by rw [← hst _ this.2]; exact this.1))
  · have := pick_is hd h1 T h0
    exact pick_sub hd h1 S T (fun x hx h => by rw [← hst x hx]; exact h) (by rw [hst _ this.2]; exact this.1) h0
end
theorem may_ne {l : List Cand} (_ : Distinct l) (h1 : ∀ x ∈ l, 1 ≤ x.id) {x : Int} (h : May l x) : x ≠ 0 := by
  obtain ⟨c, hc, rfl, _⟩ := h
  have := h1 c hc; omega

/-- one go, by the claims -/
def gB (l : List Cand) (D B : Int → Bool) : Int := if pick B l = 0 then pick (fun x => !D x) l else pick B l
def gD (l : List Cand) (D B : Int → Bool) : Int := if pick D l = 0 then gB l D B else pick D l
/-- the claims of candidates -/
def Claims (l : List Cand) (D B : Int → Bool) : Prop := ∀ c ∈ l, D c.id = (c.dr == c.id) ∧ B c.id = (c.dr != c.id && c.bdr == c.id)

theorem go_claims {l : List Cand} {D B : Int → Bool} (h : Claims l D B) : goDr l = gD l D B ∧ goBdr l = gB l D B := by
  have e1 : bestC q1 l = bestC (fun c => B c.id) l := best_congr fun c hc => (h c hc).2.symm
  have e2 : bestC q2 l = bestC (fun c => !D c.id) l := best_congr fun c hc => by rw [(h c hc).1]; rfl
  have e3 : bestC q3 l = bestC (fun c => D c.id) l := best_congr fun c hc => (h c hc).1.symm
  have hb : goBdr l = gB l D B := by
    unfold goBdr gB pick
    rw [e1, e2]
    simp only [beq_iff_eq]
  refine ⟨?_, hb⟩
  unfold goDr gD
  rw [e3, hb]
  unfold pick
  simp only [beq_iff_eq]
theorem g_alike {l m : List Cand} (h : Alike l m) (D B : Int → Bool) : gD l D B = gD m D B ∧ gB l D B = gB m D B := by
  unfold gD gB
  simp only [pick_alike _ h, and_self]

/-- there are claims -/
def clD (l : List Cand) (x : Int) : Bool := l.any fun c => c.id == x && c.dr == x
def clB (l : List Cand) (x : Int) : Bool := l.any fun c => c.id == x && c.dr != x && c.bdr == x
theorem claims_of {l : List Cand} (hd : Distinct l) : Claims l (clD l) (clB l) := by
  intro c hc
  have huniq : ∀ d ∈ l, d.id = c.id → d = c := by
    intro d hdm he
    obtain ⟨i, hi, rfl⟩ := List.getElem_of_mem hc
    obtain ⟨j, hj, rfl⟩ := List.getElem_of_mem hdm
    have hp := List.pairwise_iff_getElem.1 hd
    rcases Nat.lt_trichotomy i j with h | h | h
    · exact absurd he.symm (hp i j hi hj h)
    · subst h; rfl
    · exact absurd he (hp j i hj hi h)
  constructor
  · rw [Bool.eq_iff_iff]
    unfold clD
    rw [List.any_eq_true]
    constructor
    · rintro ⟨d, hdm, h⟩
      simp only [Bool.and_eq_true, beq_iff_eq] at h
      have := huniq d hdm h.1
      subst this; simpa using h.2
    · intro h
      exact ⟨c, hc, by simpa using h⟩
  · rw [Bool.eq_iff_iff]
    unfold clB
    rw [List.any_eq_true]
    constructor
    · rintro ⟨d, hdm, h⟩
      simp only [Bool.and_eq_true, beq_iff_eq] at h
      have := huniq d hdm h.1.1
      subst this; rw [h.1.2]; simp [h.2]
    · intro h
      exact ⟨c, hc, by simpa using h⟩

/-- a claim turned -/
def upd (S : Int → Bool) (x : Int) (b : Bool) : Int → Bool := fun y => if y = x then b else S y

/-- an election, by the claims -/
theorem elect_claims {l : List Cand} {D B : Int → Bool} (hap : apartB l = true) (h : Claims l D B) {c : Cand} (hc : c ∈ l) :
    elect c.id l = (gD l (upd D c.id (gD l D B == c.id)) (upd B c.id (gD l D B != c.id && gB l D B == c.id)), gB l (upd D c.id (gD l D B == c.id)) (upd B c.id (gD l D B != c.id && gB l D B == c.id))) := by
  obtain ⟨hd, h1⟩ := (apart_iff l).1 hap
  obtain ⟨hgd, hgb⟩ := go_claims h
  obtain ⟨k, hk, rfl⟩ := List.getElem_of_mem hc
  have hothers : ∀ j, (hj : j < l.length) → j ≠ k → l[j].id ≠ l[k].id := by
    intro j hj hne
    have hp := List.pairwise_iff_getElem.1 hd
    rcases Nat.lt_or_gt_of_ne hne with h' | h'
    · exact hp j k hj hk h'
    · exact fun e => hp k j hk hj h' e.symm
  have hidx : idx l[k].id l = some k := by
    unfold idx
    rw [List.findIdx?_eq_some_iff_getElem]
    exact ⟨hk, by simp, fun j hj => by simpa using hothers j (by omega) (by omega)⟩
  generalize hdr : goDr l = dr at *
  generalize hbdr : goBdr l = bdr at *
  rw [← hgd, ← hgb]
  by_cases ha : agrees l[k].id dr bdr l[k] = true
  · have hsame : Claims l (upd D l[k].id (dr == l[k].id)) (upd B l[k].id (dr != l[k].id && bdr == l[k].id)) := by
      intro c hc
      obtain ⟨j, hj, rfl⟩ := List.getElem_of_mem hc
      by_cases hjk : j = k
      · subst hjk
        unfold agrees at ha
        simp only [Bool.and_eq_true, beq_iff_eq] at ha
        unfold upd
        rw [if_pos rfl, if_pos rfl, ha.1, ha.2]
        simp only [bne, ha.1, and_self]
      · unfold upd
        rw [if_neg (hothers j hj hjk), if_neg (hothers j hj hjk)]
        exact h _ (List.getElem_mem hj)
    obtain ⟨e1, e2⟩ := go_claims hsame
    have : elect l[k].id l = (goDr l, goBdr l) := by
      unfold elect; rw [hidx]; simp only [List.getElem?_eq_getElem hk, hdr, hbdr, ha, if_true]
    rw [this, e1, e2]
  · have hal : Alike (l.set k (mark l[k].id dr bdr l[k])) l := alike_set l k _ fun _ => ⟨rfl, rfl⟩
    have hturn : Claims (l.set k (mark l[k].id dr bdr l[k])) (upd D l[k].id (dr == l[k].id)) (upd B l[k].id (dr != l[k].id && bdr == l[k].id)) := by
      intro c hc
      obtain ⟨j, hj, rfl⟩ := List.getElem_of_mem hc
      simp only [List.length_set] at hj
      rw [List.getElem_set]
      by_cases hjk : k = j
      · subst hjk
        rw [if_pos rfl]
        have hne : 1 ≤ l[k].id := h1 _ (List.getElem_mem hk)
        unfold upd mark
        simp only [if_true]
        have hne0 : ((0 : Int) == l[k].id) = false := by simp; omega
        rcases Bool.eq_false_or_eq_true (dr == l[k].id) with e1 | e1 <;> rcases Bool.eq_false_or_eq_true (bdr == l[k].id) with e2 | e2 <;> simp [bne, e1, e2, hne0]
      · rw [if_neg hjk]
        unfold upd
        rw [if_neg (hothers j hj fun e => hjk e.symm), if_neg (hothers j hj fun e => hjk e.symm)]
        exact h _ (List.getElem_mem hj)
    obtain ⟨e1, e2⟩ := go_claims hturn
    have : elect l[k].id l = (goDr (l.set k (mark l[k].id dr bdr l[k])), goBdr (l.set k (mark l[k].id dr bdr l[k]))) := by
      unfold elect; rw [hidx]; simp only [List.getElem?_eq_getElem hk, hdr, hbdr, ha, if_false, Bool.false_eq_true]
    rw [this, e1, e2, (g_alike hal _ _).1, (g_alike hal _ _).2]

end Go.Proofs.Ytkaeedffhmlomaa
