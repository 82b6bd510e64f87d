/-
  Layer 22 in plain words: ways back; what is reached together; a router's own networks.
-/
import Derived.Test.YtpfjgecdlilkcaaGreatBau
namespace Go.Proofs.YtpfjgecdlilkcaaGreat

/-- to each edge there is one back -/
def SymE (E : List Ed) : Prop := ∀ e ∈ E, ∃ e' ∈ E, cntE e' = true ∧ e'.src = e.dst ∧ e'.dst = e.src
theorem edges_cnt (l : List VX) : ∀ e ∈ edgesV l, cntE e = true := by
  intro e he
  obtain ⟨r, n, c, hr, hn, hc, h⟩ := mem_edges.1 he
  have hb := (cand_bounds (countsV_ok l) (cost_is (countsV_ok l) hc)).2.2
  rw [cntE_iff]
  rcases h with rfl | rfl
  · exact ⟨mayV_iff.2 (.inl ⟨rfl, hr.1, hr.2⟩), mayV_iff.2 (.inr ⟨rfl, hn.1, hn.2⟩), .inl ⟨rfl, rfl, hb.1, hb.2⟩⟩
  · exact ⟨mayV_iff.2 (.inr ⟨rfl, hn.1, hn.2⟩), mayV_iff.2 (.inl ⟨rfl, hr.1, hr.2⟩), .inr ⟨rfl, rfl, rfl⟩⟩
theorem edges_sym (l : List VX) : SymE (edgesV l) := by
  intro e he
  obtain ⟨r, n, c, hr, hn, hc, h⟩ := mem_edges.1 he
  rcases h with rfl | rfl
  · have hm : (⟨2, n, 1, r, 0⟩ : Ed) ∈ edgesV l := mem_edges.2 ⟨r, n, c, hr, hn, hc, .inr rfl⟩
    exact ⟨_, hm, edges_cnt l _ hm, rfl, rfl⟩
  · have hm : (⟨1, r, 2, n, c⟩ : Ed) ∈ edgesV l := mem_edges.2 ⟨r, n, c, hr, hn, hc, .inl rfl⟩
    exact ⟨_, hm, edges_cnt l _ hm, rfl, rfl⟩
section
variable {E : List Ed} {DD : Vx → Vx → Option Val2} {self : Int} {L L' : List Nk} {F : List Lf} {R R' : List Rt}
theorem dist_back (hD : Dists E DD) (hS : SymE E) {r : Vx} : ∀ v a, DD r v = some a → ∃ b, DD v r = some b := by
  refine (hD r).induct (P := fun v _ => ∃ b, DD v r = some b) ⟨_, (hD r).root⟩ ?_
  rintro e he hc b hb - ⟨b', hb'⟩
  obtain ⟨e', he', hc', hs', hd'⟩ := hS e he
  obtain ⟨x, hx, -⟩ := (hD e.dst).closed e' he' hc' ⟨0, 0⟩ (by rw [hs']; exact (hD e.dst).root)
  rw [hd'] at hx
  obtain ⟨y, hy, -⟩ := dist_join hD hx hb'
  exact ⟨y, hy⟩
theorem tree_node (hT : TreeIs E DD ⟨1, self⟩ L) {v : Vx} : (∃ a, DD ⟨1, self⟩ v = some a) ↔ ∃ n ∈ L, n.v = v := by
  constructor
  · rintro ⟨a, ha⟩
    exact hT.has v a ha
  · rintro ⟨n, hn, rfl⟩
    exact ⟨_, hT.val n hn⟩
/-- whoever is routed to is another one, and routes back -/
theorem back_has (hD : Dists E DD) (hS : SymE E) (hm : mayV ⟨1, self⟩ = true) (hT : TreeIs E DD ⟨1, self⟩ L) (hA : RoutesAre self L F R) {x : Rt} (hx : x ∈ R) (hk : x.kind = 1) (hT' : TreeOf E DD ⟨1, x.id⟩ L') (hA' : RoutesAre x.id L' F R') : x.id ≠ self ∧ ∃ y ∈ R', y.kind = 1 ∧ y.id = self := by
  obtain ⟨n, hn, hv, hne, -, -⟩ := (hA.router hk).1 hx
  have h1 := hT.val n hn
  rw [hv] at h1
  have hmx := (hD _).may hm _ _ h1
  obtain ⟨b, hb⟩ := dist_back hD hS _ _ h1
  obtain ⟨m, hm', hmv⟩ := (hT'.1 hmx).has _ _ hb
  refine ⟨hne, ⟨1, self, m.a.c, m.next⟩, ?_, rfl, rfl⟩
  exact (hA'.router rfl).2 ⟨m, hm', hmv, fun e => hne e.symm, rfl, rfl⟩
theorem net_has (hA : RoutesAre self L F R) {lan : Int} (h0 : 0 ≤ lan) (h3 : lan ≤ 3) {p : EndV} (hp : p ∈ endsV self lan L F) : ∃ y ∈ R, y.kind = 2 ∧ y.id = lan ∧ y.cost ≤ p.1 ∧ EndsAt (endsV self lan L F) y.cost y.next := by
  obtain ⟨o, ho, rfl⟩ := hA
  have h := ho lan h0 h3
  cases hl : o lan with
  | none =>
    rw [hl] at h
    have e : endsV self lan L F = [] := h
    rw [e] at hp
    cases hp
  | some q =>
    rw [hl] at h
    have e : EndsAt (endsV self lan L F) q.1 q.2 := h
    refine ⟨⟨2, lan, q.1, q.2⟩, ?_, rfl, rfl, e.min p hp, e⟩
    rw [List.mem_append]
    exact .inr (mem_nets.2 ⟨lan, by simp; omega, q, hl, rfl⟩)
/-- a network is routed to just if one of its ends is reached -/
def LanR (_E : List Ed) (DD : Vx → Vx → Option Val2) (F : List Lf) (r : Vx) (lan : Int) : Prop := (∃ v a, DD r v = some a ∧ v.kind = 2 ∧ v.id / 16 = lan) ∨ ∃ f ∈ F, f.lan = lan ∧ ∃ a, DD r ⟨1, f.router⟩ = some a
theorem lan_iff (hT : TreeIs E DD ⟨1, self⟩ L) (hA : RoutesAre self L F R) {lan : Int} (h0 : 0 ≤ lan) (h3 : lan ≤ 3) : (∃ y ∈ R, y.kind = 2 ∧ y.id = lan) ↔ LanR E DD F ⟨1, self⟩ lan := by
  constructor
  · rintro ⟨y, hy, hk, hi⟩
    obtain ⟨-, g⟩ := (hA.net hk).1 hy
    obtain ⟨p, hp, -⟩ := g.had
    rw [hi] at hp
    rcases mem_endsV.1 hp with ⟨n, hn, h1, h2, -⟩ | ⟨f, hf, n, hn, h1, h2, -⟩
    · exact .inl ⟨n.v, n.a, hT.val n hn, h1, h2⟩
    · have := hT.val n hn
      rw [h2] at this
      exact .inr ⟨f, hf, h1, n.a, this⟩
  · rintro (⟨v, a, ha, h1, h2⟩ | ⟨f, hf, h1, a, ha⟩)
    · obtain ⟨n, hn, rfl⟩ := hT.has v a ha
      obtain ⟨y, hy, hk, hi, -⟩ := net_has hA h0 h3 (p := (n.a.c, n.next)) (mem_endsV.2 (.inl ⟨n, hn, h1, h2, rfl⟩))
      exact ⟨y, hy, hk, hi⟩
    · obtain ⟨n, hn, hv⟩ := hT.has _ a ha
      obtain ⟨y, hy, hk, hi, -⟩ := net_has hA h0 h3 (p := _) (mem_endsV.2 (.inr ⟨f, hf, n, hn, h1, hv, rfl⟩))
      exact ⟨y, hy, hk, hi⟩
theorem reach_same (hD : Dists E DD) (hS : SymE E) {r s : Vx} {a : Val2} (h : DD r s = some a) (v : Vx) : (∃ b, DD r v = some b) ↔ ∃ b, DD s v = some b := by
  obtain ⟨a', h'⟩ := dist_back hD hS _ _ h
  constructor
  · rintro ⟨b, hb⟩
    obtain ⟨c, hc, -⟩ := dist_join hD h' hb
    exact ⟨c, hc⟩
  · rintro ⟨b, hb⟩
    obtain ⟨c, hc, -⟩ := dist_join hD h hb
    exact ⟨c, hc⟩
theorem lan_same (hD : Dists E DD) (hS : SymE E) {r s : Vx} {a : Val2} (h : DD r s = some a) (lan : Int) : LanR E DD F r lan ↔ LanR E DD F s lan := by
  unfold LanR
  constructor
  · rintro (⟨v, b, hb, h1, h2⟩ | ⟨f, hf, h1, hb⟩)
    · obtain ⟨c, hc⟩ := (reach_same hD hS h v).1 ⟨b, hb⟩
      exact .inl ⟨v, c, hc, h1, h2⟩
    · exact .inr ⟨f, hf, h1, (reach_same hD hS h _).1 hb⟩
  · rintro (⟨v, b, hb, h1, h2⟩ | ⟨f, hf, h1, hb⟩)
    · obtain ⟨c, hc⟩ := (reach_same hD hS h v).2 ⟨b, hb⟩
      exact .inl ⟨v, c, hc, h1, h2⟩
    · exact .inr ⟨f, hf, h1, (reach_same hD hS h _).2 hb⟩
/-- who routes to one another routes to the same networks -/
theorem whole_same (hD : Dists E DD) (hS : SymE E) (hm : mayV ⟨1, self⟩ = true) (hT : TreeIs E DD ⟨1, self⟩ L) (hA : RoutesAre self L F R) {x : Rt} (hx : x ∈ R) (hk : x.kind = 1) (hT' : TreeOf E DD ⟨1, x.id⟩ L') (hA' : RoutesAre x.id L' F R') {lan : Int} (h0 : 0 ≤ lan) (h3 : lan ≤ 3) : (∃ y ∈ R, y.kind = 2 ∧ y.id = lan) ↔ ∃ y ∈ R', y.kind = 2 ∧ y.id = lan := by
  obtain ⟨n, hn, hv, -, -, -⟩ := (hA.router hk).1 hx
  have h1 := hT.val n hn
  rw [hv] at h1
  have hmx := (hD _).may hm _ _ h1
  rw [lan_iff hT hA h0 h3, lan_iff (hT'.1 hmx) hA' h0 h3]
  exact lan_same hD hS h1 lan
end
/-- does a description tell of a router? -/
def toldB (C : List VX) (id : Int) : Bool := C.any fun x => decide (x.1.kind = 1) && decide (x.1.adv = id)
theorem told_not {C : List VX} {id : Int} (h : toldB C id = false) : ∀ x ∈ C, ¬ (x.1.kind = 1 ∧ x.1.adv = id) := by
  intro x hx
  have := List.any_eq_false.1 h x hx
  simpa using this
theorem untold_nil {l : List VX} {DD : Vx → Vx → Option Val2} {self : Int} {L : List Nk} {R : List Rt} (hD : Dists (edgesV l) DD) (hT : TreeOf (edgesV l) DD ⟨1, self⟩ L) (hA : RoutesAre self L (leavesV l) R) (h : toldB (countsV l) self = false) : R = [] := by
  have hno := told_not h
  have hC := countsV_ok l
  have hcnt : ∀ x ∈ countsV l, cntV x = true := fun x hx => hC.each x hx
  have hone : ∀ v a, DD ⟨1, self⟩ v = some a → v = ⟨1, self⟩ := by
    refine (hD _).induct (P := fun v _ => v = ⟨1, self⟩) rfl ?_
    intro e he hc b hb hb2 hs
    exfalso
    obtain ⟨r, n, c, hr, hn, hcst, g⟩ := mem_edges.1 he
    obtain ⟨x, hx, z, hz, y, hy, g1, -, -, -, -, -⟩ := cost_is hC hcst
    have hk := (cnt_links (hcnt x hx) hy).1
    rcases g with rfl | rfl
    · have h1 : r = self := by have := congrArg Vx.id hs; exact this
      exact hno x hx ⟨hk, g1.trans h1⟩
    · have h2 : (2 : Int) = 1 := congrArg Vx.kind hs
      omega
  have hL : ∀ n ∈ L, n.v = ⟨1, self⟩ := fun n hn => hone _ _ ((treeOf_in hT hn).val n hn)
  have hE : ∀ lan : Int, endsV self lan L (leavesV l) = [] := by
    intro lan
    cases he : endsV self lan L (leavesV l) with
    | nil => rfl
    | cons p X =>
      exfalso
      have hp : p ∈ endsV self lan L (leavesV l) := by rw [he]; exact List.mem_cons_self
      rcases mem_endsV.1 hp with ⟨n, hn, h1, -, -⟩ | ⟨f, hf, n, hn, -, h2, -⟩
      · rw [hL n hn] at h1
        have h2 : (1 : Int) = 2 := h1
        omega
      · obtain ⟨r, m, c, hr, hm, hc, rfl⟩ := mem_leaves.1 hf
        obtain ⟨x, hx, y, hy, g1, -, -, -⟩ := leaf_is hc
        have hk := (cnt_links (hcnt x hx) hy).1
        rw [hL n hn] at h2
        have h1 : self = r := by have := congrArg Vx.id h2; exact this
        exact hno x hx ⟨hk, g1.trans h1.symm⟩
  obtain ⟨o, ho, rfl⟩ := hA
  have hn : ∀ lan : Int, 0 ≤ lan → lan ≤ 3 → o lan = none := fun lan h0 h3 => by
    have := ho lan h0 h3
    cases hl : o lan with
    | none => rfl
    | some p =>
      rw [hl] at this
      obtain ⟨x, hx, -⟩ := EndsAt.had this
      rw [hE lan] at hx
      cases hx
  have hr : rtsOf self L = [] := by
    unfold rtsOf
    rw [List.flatMap_eq_nil_iff]
    intro n hn
    unfold rtOf
    rw [if_neg]
    rintro ⟨-, g⟩
    rw [hL n hn] at g
    exact g rfl
  rw [hr]
  simp [netsOf, netOf, hn 0 (by decide) (by decide), hn 1 (by decide) (by decide), hn 2 (by decide) (by decide), hn 3 (by decide) (by decide)]
/-- a router's own leaf is no farther than it says -/
theorem own_leaf {E : List Ed} {DD : Vx → Vx → Option Val2} {self : Int} {L : List Nk} {F : List Lf} {R : List Rt} (hD : Dists E DD) (hT : TreeIs E DD ⟨1, self⟩ L) (hA : RoutesAre self L F R) (hF : LeavesOk F) {f : Lf} (hf : f ∈ F) (hr : f.router = self) : ∃ y ∈ R, y.kind = 2 ∧ y.id = f.lan ∧ (y.cost : Int) ≤ f.cost := by
  obtain ⟨n, hn, hv⟩ := hT.has _ _ (hD ⟨1, self⟩).root
  have hval := hT.val n hn
  rw [hv, (hD ⟨1, self⟩).root] at hval
  injection hval with hval
  obtain ⟨-, ⟨h0, h3⟩, hc, -⟩ := hF f hf
  obtain ⟨y, hy, hk, hi, hle, -⟩ := net_has hA h0 h3 (p := _) (mem_endsV.2 (.inr ⟨f, hf, n, hn, rfl, by rw [hv, hr], rfl⟩))
  refine ⟨y, hy, hk, hi, ?_⟩
  simp only at hle
  rw [← hval] at hle
  simp only at hle
  omega

end Go.Proofs.YtpfjgecdlilkcaaGreat
