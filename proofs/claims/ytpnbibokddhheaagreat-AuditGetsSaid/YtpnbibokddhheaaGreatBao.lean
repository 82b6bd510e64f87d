/-
  Layer 22 in plain words: ways back; what is reached together; a router's own networks.
-/
import Derived.Deep.CutRange
import Derived.Test.YtpnbibokddhheaaGreatBab
import Derived.Test.YtpnbibokddhheaaGreatBad
import Derived.Test.YtpnbibokddhheaaGreatBag
import Derived.Test.YtpnbibokddhheaaGreatBan
namespace Go.Proofs.YtpnbibokddhheaaGreat

/-- to each edge there is one back -/
def SymE (E : List Ed) : Prop := ∀ e ∈ E, ∃ e' ∈ E, cntE e' = true ∧ e'.src = e.dst ∧ e'.dst = e.src
theorem edges_cnt (l : List VX) : ∀ e ∈ edgesV l, cntE e = true := by
  intro e he
  obtain ⟨r, n, c, hr, hn, hc, h⟩ := mem_edges.1 he
  have hb := (cand_bounds (countsV_ok l) (cost_is (countsV_ok l) hc)).2.2
  rw [cntE_iff]
  rcases h with rfl | rfl
  · exact ⟨mayV_iff.2 (.inl ⟨rfl, hr.1, hr.2⟩), mayV_iff.2 (.inr ⟨rfl, hn.1, hn.2⟩), .inl ⟨rfl, rfl, hb.1, hb.2⟩⟩
  · exact ⟨mayV_iff.2 (.inr ⟨rfl, hn.1, hn.2⟩), mayV_iff.2 (.inl ⟨rfl, hr.1, hr.2⟩), .inr ⟨rfl, rfl, rfl⟩⟩
theorem edges_sym (l : List VX) : SymE (edgesV l) := by
  intro e he
  obtain ⟨r, n, c, hr, hn, hc, h⟩ := mem_edges.1 he
  rcases h with rfl | rfl
  · have hm : (⟨2, n, 1, r, 0⟩ : Ed) ∈ edgesV l := mem_edges.2 ⟨r, n, c, hr, hn, hc, .inr rfl⟩
    exact ⟨_, hm, edges_cnt l _ hm, rfl, rfl⟩
  · have hm : (⟨1, r, 2, n, c⟩ : Ed) ∈ edgesV l := mem_edges.2 ⟨r, n, c, hr, hn, hc, .inl rfl⟩
    exact ⟨_, hm, edges_cnt l _ hm, rfl, rfl⟩
section
variable {E : List Ed} {DD : Vx → Vx → Option Val2} {self : Int} {L L' : List Nk} {F : List Lf} {R R' : List Rt}
theorem dist_back (hD : Dists E DD) (hS : SymE E) {r : Vx} : ∀ v a, DD r v = some a → ∃ b, DD v r = some b := by
  refine (hD r).induct (P := fun v _ => ∃ b, DD v r = some b) ⟨_, (hD r).root⟩ ?_
  rintro e he hc b hb - ⟨b', hb'⟩
  obtain ⟨e', he', hc', hs', hd'⟩ := hS e he
  obtain ⟨x, hx, -⟩ := (hD e.dst).closed e' he' hc' ⟨0, 0⟩ (by rw [hs']; exact (hD e.dst).root)
  rw [hd'] at hx
  obtain ⟨y, hy, -⟩ := dist_join hD hx hb'
  exact ⟨y, hy⟩
theorem tree_node (hT : TreeIs E DD ⟨1, self⟩ L) {v : Vx} : (∃ a, DD ⟨1, self⟩ v = some a) ↔ ∃ n ∈ L, n.v = v := by
  constructor
  · rintro ⟨a, ha⟩
    exact hT.has v a ha
  · rintro ⟨n, hn, rfl⟩
    exact ⟨_, hT.val n hn⟩
/-- whoever is routed to is another one, and routes back -/
theorem back_has (hD : Dists E DD) (hS : SymE E) (hm : mayV ⟨1, self⟩ = true) (hT : TreeIs E DD ⟨1, self⟩ L) (hA : RoutesAre self L F R) {x : Rt} (hx : x ∈ R) (hk : x.kind = 1) (hT' : TreeOf E DD ⟨1, x.id⟩ L') (hA' : RoutesAre x.id L' F R') : x.id ≠ self ∧ ∃ y ∈ R', y.kind = 1 ∧ y.id = self := by
  obtain ⟨n, hn, hv, hne, -, -⟩ := (hA.router hk).1 hx
  have h1 := hT.val n hn
  rw [hv] at h1
  have hmx := (hD _).may hm _ _ h1
  obtain ⟨b, hb⟩ := dist_back hD hS _ _ h1
  obtain ⟨m, hm', hmv⟩ := (hT'.1 hmx).has _ _ hb
  refine ⟨hne, ⟨1, self, m.a.c, m.next⟩, ?_, rfl, rfl⟩
  exact (hA'.router rfl).2 ⟨m, hm', hmv, fun e => hne e.symm, rfl, rfl⟩
theorem net_has (hA : RoutesAre self L F R) {lan : Int} (h0 : 0 ≤ lan) (h3 : lan ≤ 3) {p : EndV} (hp : p ∈ endsV self lan L F) : ∃ y ∈ R, y.kind = 2 ∧ y.id = lan ∧ y.cost ≤ p.1 ∧ EndsAt (endsV self lan L F) y.cost y.next := by
  obtain ⟨o, ho, rfl⟩ := hA
  have h := ho lan h0 h3
  cases hl : o lan with
  | none =>
    rw [hl] at h
    have e : endsV self lan L F = [] := h
    rw [e] at hp
    cases hp
  | some q =>
    rw [hl] at h
    have e : EndsAt (endsV self lan L F) q.1 q.2 := h
    refine ⟨⟨2, lan, q.1, q.2⟩, ?_, rfl, rfl, e.min p hp, e⟩
    rw [List.mem_append]
    exact .inr (mem_nets.2 ⟨lan, by simp; omega, q, hl, rfl⟩)
/-- a network is routed to just if one of its ends is reached -/
def LanR (_E : List Ed) (DD : Vx → Vx → Option Val2) (F : List Lf) (r : Vx) (lan : Int) : Prop := (∃ v a, DD r v = some a ∧ v.kind = 2 ∧ v.id / 16 = lan) ∨ ∃ f ∈ F, f.lan = lan ∧ ∃ a, DD r ⟨1, f.router⟩ = some a
theorem lan_iff (hT : TreeIs E DD ⟨1, self⟩ L) (hA : RoutesAre self L F R) {lan : Int} (h0 : 0 ≤ lan) (h3 : lan ≤ 3) : (∃ y ∈ R, y.kind = 2 ∧ y.id = lan) ↔ LanR E DD F ⟨1, self⟩ lan := by
  constructor
  · rintro ⟨y, hy, hk, hi⟩
    obtain ⟨-, g⟩ := (hA.net hk).1 hy
    obtain ⟨p, hp, -⟩ := g.had
    rw [hi] at hp
    rcases mem_endsV.1 hp with ⟨n, hn, h1, h2, -⟩ | ⟨f, hf, n, hn, h1, h2, -⟩
    · exact .inl ⟨n.v, n.a, hT.val n hn, h1, h2⟩
    · have := hT.val n hn
      rw [h2] at this
      exact .inr ⟨f, hf, h1, n.a, this⟩
  · rintro (⟨v, a, ha, h1, h2⟩ | ⟨f, hf, h1, a, ha⟩)
    · obtain ⟨n, hn, rfl⟩ := hT.has v a ha
      obtain ⟨y, hy, hk, hi, -⟩ := net_has hA h0 h3 (p := (n.a.c, n.next)) (mem_endsV.2 (.inl ⟨n, hn, h1, h2, rfl⟩))
      exact ⟨y, hy, hk, hi⟩
    · obtain ⟨n, hn, hv⟩ := hT.has _ a ha
      obtain ⟨y, hy, hk, hi, -⟩ := net_has hA h0 h3 (p := _) (mem_endsV.2 (.inr ⟨f, hf, n, hn, h1, hv, rfl⟩))
      exact ⟨y, hy, hk, hi⟩
theorem reach_same (hD : Dists E DD) (hS : SymE E) {r s : Vx} {a : Val2} (h : DD r s = some a) (v : Vx) : (∃ b, DD r v = some b) ↔ ∃ b, DD s v = some b := by
  obtain ⟨a', h'⟩ := dist_back hD hS _ _ h
  constructor
  · rintro ⟨b, hb⟩
    obtain ⟨c, hc, -⟩ := dist_join hD h' hb
    exact ⟨c, hc⟩
  · rintro ⟨b, hb⟩
    obtain ⟨c, hc, -⟩ := dist_join hD h hb
    exact ⟨c, hc⟩
theorem lan_same (hD : Dists E DD) (hS : SymE E) {r s : Vx} {a : Val2} (h : DD r s = some a) (lan : Int) : LanR E DD F r lan ↔ LanR E DD F s lan := by
  unfold LanR
  constructor
  · rintro (⟨v, b, hb, h1, h2⟩ | ⟨f, hf, h1, hb⟩)
    · obtain ⟨c, hc⟩ := (reach_same hD hS h v).1 ⟨b, hb⟩
      exact .inl ⟨v, c, hc, h1, h2⟩
    · exact .inr ⟨f, hf, h1, (reach_same hD hS h _).1 hb⟩
  · rintro (⟨v, b, hb, h1, h2⟩ | ⟨f, hf, h1, hb⟩)
    · obtain ⟨c, hc⟩ := (reach_same hD hS h v).2 ⟨b, hb⟩
      exact .inl ⟨v, c, hc, h1, h2⟩
    · exact .inr ⟨f, hf, h1, (reach_same hD hS h _).2 hb⟩
/-- who routes to one another routes to the same networks -/
theorem whole_same (hD : Dists E DD) (hS : SymE E) (hm : mayV ⟨1, self⟩ = true) (hT : TreeIs E DD ⟨1, self⟩ L) (hA : RoutesAre self L F R) {x : Rt} (hx : x ∈ R) (hk : x.kind = 1) (hT' : TreeOf E DD ⟨1, x.id⟩ L') (hA' : RoutesAre x.id L' F R') {lan : Int} (h0 : 0 ≤ lan) (h3 : lan ≤ 3) : (∃ y ∈ R, y.kind = 2 ∧ y.id = lan) ↔ ∃ y ∈ R', y.kind = 2 ∧ y.id = lan := by
  obtain ⟨n, hn, hv, -, -, -⟩ := (hA.router hk).1 hx
  have h1 := hT.val n hn
  rw [hv] at h1
  have hmx := (hD _).may hm _ _ h1
  rw [lan_iff hT hA h0 h3, lan_iff (hT'.1 hmx) hA' h0 h3]
  exact lan_same hD hS h1 lan
end
/-- does a description tell of a router? -/
def toldB (C : List VX) (id : Int) : Bool := C.any fun x => decide (x.1.kind = 1) && decide (x.1.adv = id)
theorem told_not {C : List VX} {id : Int} (h : toldB C id = false) : ∀ x ∈ C, ¬ (x.1.kind = 1 ∧ x.1.adv = id) := by
  intro x hx
  have := List.any_eq_false.1 h x hx
  simpa using this
theorem untold_nil {l : List VX} {DD : Vx → Vx → Option Val2} {self : Int} {L : List Nk} {R : List Rt} (hD : Dists (edgesV l) DD) (hT : TreeOf (edgesV l) DD ⟨1, self⟩ L) (hA : RoutesAre self L (leavesV l) R) (h : toldB (countsV l) self = false) : R = [] := by
  have hno := told_not h
  have hC := countsV_ok l
  have hcnt : ∀ x ∈ countsV l, cntV x = true := fun x hx => hC.each x hx
  have hone : ∀ v a, DD ⟨1, self⟩ v = some a → v = ⟨1, self⟩ := by
    refine (hD _).induct (P := fun v _ => v = ⟨1, self⟩) rfl ?_
    intro e he hc b hb hb2 hs
    exfalso
    obtain ⟨r, n, c, hr, hn, hcst, g⟩ := mem_edges.1 he
    obtain ⟨x, hx, z, hz, y, hy, g1, -, -, -, -, -⟩ := cost_is hC hcst
    have hk := (cnt_links (hcnt x hx) hy).1
    rcases g with rfl | rfl
    · have h1 : r = self := by have := congrArg Vx.id hs; exact this
      exact hno x hx ⟨hk, g1.trans h1⟩
    · have h2 : (2 : Int) = 1 := congrArg Vx.kind hs
      omega
  have hL : ∀ n ∈ L, n.v = ⟨1, self⟩ := fun n hn => hone _ _ ((treeOf_in hT hn).val n hn)
  have hE : ∀ lan : Int, endsV self lan L (leavesV l) = [] := by
    intro lan
    cases he : endsV self lan L (leavesV l) with
    | nil => rfl
    | cons p X =>
      exfalso
      have hp : p ∈ endsV self lan L (leavesV l) := by rw [he]; exact List.mem_cons_self
      rcases mem_endsV.1 hp with ⟨n, hn, h1, -, -⟩ | ⟨f, hf, n, hn, -, h2, -⟩
      · rw [hL n hn] at h1
        have h2 : (1 : Int) = 2 := h1
        omega
      · obtain ⟨r, m, c, hr, hm, hc, rfl⟩ := mem_leaves.1 hf
        obtain ⟨x, hx, y, hy, g1, -, -, -⟩ := leaf_is hc
        have hk := (cnt_links (hcnt x hx) hy).1
        rw [hL n hn] at h2
        have h1 : self = r := by have := congrArg Vx.id h2; exact this
        exact hno x hx ⟨hk, g1.trans h1.symm⟩
  obtain ⟨o, ho, rfl⟩ := hA
  have hn : ∀ lan : Int, 0 ≤ lan → lan ≤ 3 → o lan = none := fun lan h0 h3 => by
    have := ho lan h0 h3
    cases hl : o lan with
    | none => rfl
    | some p =>
      rw [hl] at this
      obtain ⟨x, hx, -⟩ := EndsAt.had this
      rw [hE lan] at hx
      cases hx
  have hr : rtsOf self L = [] := by
    unfold rtsOf
    rw [List.flatMap_eq_nil_iff]
    intro n hn
    unfold rtOf
    rw [if_neg]
    rintro ⟨-, g⟩
    rw [hL n hn] at g
    exact g rfl
  rw [hr]
  simp [netsOf, netOf, hn 0 (by decide) (by decide), hn 1 (by decide) (by decide), hn 2 (by decide) (by decide), hn 3 (by decide) (by decide)]
/-- a router's own leaf is no farther than it says -/
theorem own_leaf {E : List Ed} {DD : Vx → Vx → Option Val2} {self : Int} {L : List Nk} {F : List Lf} {R : List Rt} (hD : Dists E DD) (hT : TreeIs E DD ⟨1, self⟩ L) (hA : RoutesAre self L F R) (hF : LeavesOk F) {f : Lf} (hf : f ∈ F) (hr : f.router = self) : ∃ y ∈ R, y.kind = 2 ∧ y.id = f.lan ∧ (y.cost : Int) ≤ f.cost := by
  obtain ⟨n, hn, hv⟩ := hT.has _ _ (hD ⟨1, self⟩).root
  have hval := hT.val n hn
  rw [hv, (hD ⟨1, self⟩).root] at hval
  injection hval with hval
  obtain ⟨-, ⟨h0, h3⟩, hc, -⟩ := hF f hf
  obtain ⟨y, hy, hk, hi, hle, -⟩ := net_has hA h0 h3 (p := _) (mem_endsV.2 (.inr ⟨f, hf, n, hn, rfl, by rw [hv, hr], rfl⟩))
  refine ⟨y, hy, hk, hi, ?_⟩
  simp only at hle
  rw [← hval] at hle
  simp only at hle
  omega

end Go.Proofs.YtpnbibokddhheaaGreat

/-
  Layer 22 in plain words: hop by hop it gets nearer.
-/
namespace Go.Proofs.YtpnbibokddhheaaGreat

def HasRt (E : List Ed) (DD : Vx → Vx → Option Val2) (F : List Lf) (s : Int) (x : Rt) : Prop := ∃ L R, TreeIs E DD ⟨1, s⟩ L ∧ RoutesAre s L F R ∧ x ∈ R
section
variable {E : List Ed} {DD : Vx → Vx → Option Val2} {F : List Lf} {s : Int} {x z : Rt}
theorem rt_unique (hD : Dists E DD) (h : HasRt E DD F s x) (h' : HasRt E DD F s z) (hk : x.kind = z.kind) (hi : x.id = z.id) : x = z := by
  obtain ⟨L, R, hT, hA, hx⟩ := h
  obtain ⟨L', R', hT', hA', hz⟩ := h'
  have hL := tree_unique hD hD hT hT' fun _ _ => Iff.rfl
  subst hL
  have hR := routes_unique hA hA'
  subst hR
  exact route_one (hA.sorted hT.sorted) hx hz hk hi
theorem hop_there {L : List Nk} (hD : Dists E DD) (hT : TreeIs E DD ⟨1, s⟩ L) {n : Nk} (hn : n ∈ L) (hv : n.v ≠ ⟨1, s⟩) : n.next ≠ [] := by
  rcases isHop_some hD rfl _ _ (hT.val n hn) with e | ⟨y, hy⟩
  · exact absurd e hv
  · exact List.ne_nil_of_mem (((hT.next n hn).2 y).2 hy)
theorem loop_next (hD : Dists E DD) (h : HasRt E DD F s x) : x.next ≠ [] := by
  obtain ⟨L, R, hT, hA, hx⟩ := h
  rcases hA.kinds x hx with hk | hk
  · obtain ⟨n, hn, hv, hne, -, e⟩ := (hA.router hk).1 hx
    rw [e]
    exact hop_there hD hT hn (by rw [hv]; intro g; exact hne (congrArg Vx.id g))
  · obtain ⟨-, g⟩ := (hA.net hk).1 hx
    obtain ⟨p, hp, hc⟩ := g.had
    have hne : p.2 ≠ [] := by
      rcases mem_endsV.1 hp with ⟨n, hn, h1, -, rfl⟩ | ⟨f, hf, n, hn, -, h2, rfl⟩
      · refine hop_there hD hT hn ?_
        intro g
        rw [g] at h1
        have h2 : (1 : Int) = 2 := h1
        omega
      · simp only
        split
        · simp
        · rename_i hr
          refine hop_there hD hT hn ?_
          rw [h2]
          intro g
          exact hr (congrArg Vx.id g)
    obtain ⟨y, hy⟩ := List.exists_mem_of_ne_nil _ hne
    exact List.ne_nil_of_mem ((g.mem y).2 ⟨p, hp, hc, hy⟩)
theorem loop_hop (hD : Dists E DD) (_hF : LeavesOk F) (hs : mayV ⟨1, s⟩ = true) (h : HasRt E DD F s x) {y : Hp} (hy : y ∈ x.next) :
    (y.id = 0 → x.kind = 2 ∧ y.lan = x.id) ∧ (y.id ≠ 0 → (1 ≤ y.id ∧ y.id ≤ 15) ∧ (¬ (x.kind = 1 ∧ y.id = x.id) → ∀ L' R', TreeIs E DD ⟨1, y.id⟩ L' → RoutesAre y.id L' F R' → ∃ z ∈ R', z.kind = x.kind ∧ z.id = x.id ∧ z.cost < x.cost)) := by
  obtain ⟨L, R, hT, hA, hx⟩ := h
  rcases hA.kinds x hx with hk | hk
  · obtain ⟨n, hn, hv, hne, hc, e⟩ := (hA.router hk).1 hx
    rw [e] at hy
    have hst := isHop_steps hD rfl hs (hT.val n hn) (((hT.next n hn).2 y).1 hy)
    rcases hst with ⟨h0, h2, -, -⟩ | ⟨h0, -, hrg, b, w, hb, hw, hsum, hpos⟩
    · rw [hv] at h2
      have h3 : (1 : Int) = 2 := h2
      omega
    · refine ⟨fun g => absurd g h0, fun _ => ⟨hrg, fun hnot L' R' hT' hA' => ?_⟩⟩
      obtain ⟨m, hm, hmv⟩ := hT'.has _ _ hb
      have hmb := hT'.val m hm
      rw [hmv, hb] at hmb
      injection hmb with hmb
      refine ⟨⟨1, x.id, m.a.c, m.next⟩, (hA'.router rfl).2 ⟨m, hm, by rw [hmv, hv], fun e2 => hnot ⟨hk, e2.symm⟩, rfl, rfl⟩, hk.symm, rfl, ?_⟩
      rw [hc, ← hmb]
      simp only
      omega
  · obtain ⟨⟨hr0, hr3⟩, g⟩ := (hA.net hk).1 hx
    obtain ⟨p, hp, hc, hyp⟩ := (g.mem y).1 hy
    rcases mem_endsV.1 hp with ⟨n, hn, h1, h2, rfl⟩ | ⟨f, hf, n, hn, h1, h2, rfl⟩
    · simp only at hyp hc
      have hst := isHop_steps hD rfl hs (hT.val n hn) (((hT.next n hn).2 y).1 hyp)
      rcases hst with ⟨h0, -, h3, -⟩ | ⟨h0, -, hrg, b, w, hb, hw, hsum, hpos⟩
      · exact ⟨fun _ => ⟨hk, by rw [← h3, h2]⟩, fun g => absurd h0 g⟩
      · refine ⟨fun g => absurd g h0, fun _ => ⟨hrg, fun _ L' R' hT' hA' => ?_⟩⟩
        obtain ⟨m, hm, hmv⟩ := hT'.has _ _ hb
        have hmb := hT'.val m hm
        rw [hmv, hb] at hmb
        injection hmb with hmb
        obtain ⟨z, hz, hzk, hzi, hzc, -⟩ := net_has hA' hr0 hr3 (p := (m.a.c, m.next)) (mem_endsV.2 (.inl ⟨m, hm, by rw [hmv]; exact h1, by rw [hmv]; exact h2, rfl⟩))
        refine ⟨z, hz, by rw [hzk, hk], hzi, ?_⟩
        rw [← hmb] at hzc
        simp only at hzc
        omega
    · simp only at hyp hc
      split at hyp
      · rw [List.mem_singleton] at hyp
        subst hyp
        exact ⟨fun _ => ⟨hk, rfl⟩, fun g => absurd rfl g⟩
      · have hst := isHop_steps hD rfl hs (hT.val n hn) (((hT.next n hn).2 y).1 hyp)
        rcases hst with ⟨h0, h3, -, -⟩ | ⟨h0, -, hrg, b, w, hb, hw, hsum, hpos⟩
        · rw [h2] at h3
          have h4 : (1 : Int) = 2 := h3
          omega
        · refine ⟨fun g => absurd g h0, fun _ => ⟨hrg, fun _ L' R' hT' hA' => ?_⟩⟩
          obtain ⟨m, hm, hmv⟩ := hT'.has _ _ hb
          have hmb := hT'.val m hm
          rw [hmv, hb] at hmb
          injection hmb with hmb
          obtain ⟨z, hz, hzk, hzi, hzc, -⟩ := net_has hA' hr0 hr3 (p := _) (mem_endsV.2 (.inr ⟨f, hf, m, hm, h1, by rw [hmv, h2], rfl⟩))
          refine ⟨z, hz, by rw [hzk, hk], hzi, ?_⟩
          simp only at hzc
          rw [← hmb] at hzc
          omega
/-- the routers that were passed -/
structure Chain (E : List Ed) (DD : Vx → Vx → Option Val2) (F : List Lf) (kd id : Int) (s : Int) (x : Rt) (S : List Int) : Prop where
  may : mayV ⟨1, s⟩ = true
  has : HasRt E DD F s x
  kind : x.kind = kd
  ide : x.id = id
  nodup : S.Nodup
  all : ∀ t ∈ S, (1 ≤ t ∧ t ≤ 15) ∧ ∃ z, HasRt E DD F t z ∧ z.kind = kd ∧ z.id = id ∧ x.cost ≤ z.cost
theorem Chain.start {kd id : Int} (hm : mayV ⟨1, s⟩ = true) (h : HasRt E DD F s x) (hk : x.kind = kd) (hi : x.id = id) : Chain E DD F kd id s x [s] where
  may := hm
  has := h
  kind := hk
  ide := hi
  nodup := by simp
  all := by
    intro t ht
    rw [List.mem_singleton] at ht
    subst ht
    refine ⟨?_, x, h, hk, hi, Nat.le_refl _⟩
    rcases mayV_iff.1 hm with ⟨-, h1, h2⟩ | ⟨h1, -⟩
    · exact ⟨h1, h2⟩
    · have h2 : (1 : Int) = 2 := h1
      omega
theorem Chain.next {kd id t : Int} {S : List Int} (hD : Dists E DD) (h : Chain E DD F kd id s x S) (ht : 1 ≤ t ∧ t ≤ 15) (hz : HasRt E DD F t z) (hk : z.kind = kd) (hi : z.id = id) (hc : z.cost < x.cost) : Chain E DD F kd id t z (t :: S) where
  may := mayV_iff.2 (.inl ⟨rfl, ht.1, ht.2⟩)
  has := hz
  kind := hk
  ide := hi
  nodup := by
    rw [List.nodup_cons]
    refine ⟨fun hm => ?_, h.nodup⟩
    obtain ⟨-, y, hy, hyk, hyi, hyc⟩ := h.all t hm
    have := rt_unique hD hy hz (hyk.trans hk.symm) (hyi.trans hi.symm)
    rw [this] at hyc
    omega
  all := by
    intro u hu
    rcases List.mem_cons.1 hu with rfl | hu
    · exact ⟨ht, z, hz, hk, hi, Nat.le_refl _⟩
    · obtain ⟨h1, y, hy, hyk, hyi, hyc⟩ := h.all u hu
      exact ⟨h1, y, hy, hyk, hyi, by omega⟩
theorem Chain.len {kd id : Int} {S : List Int} (h : Chain E DD F kd id s x S) : S.length ≤ 15 := by
  have := nodup_len S ((List.range 15).map fun i : Nat => (i : Int) + 1) h.nodup fun t ht => by
    obtain ⟨⟨h1, h2⟩, -⟩ := h.all t ht
    exact List.mem_map.2 ⟨(t - 1).toNat, by rw [List.mem_range]; omega, by omega⟩
  simpa using this
end

end Go.Proofs.YtpnbibokddhheaaGreat

/-
  The law AuditGets in plain words: hop by hop a walk gets there.
-/
namespace Go.Proofs.YtpnbibokddhheaaGreat

def HasTo (E : List Ed) (DD : Vx → Vx → Option Val2) (F : List Lf) (kd id s : Int) : Prop := ∃ x, HasRt E DD F s x ∧ x.kind = kd ∧ x.id = id
section
variable {E : List Ed} {DD : Vx → Vx → Option Val2} {F : List Lf} {kd id from_ s : Int} {k : Nat} {P : List Int} {x : Rt}
theorem rt_not_self (h : HasRt E DD F s x) (hk : x.kind = 1) : x.id ≠ s := by
  obtain ⟨L, R, hT, hA, hx⟩ := h
  obtain ⟨n, hn, hv, hne, -, -⟩ := (hA.router hk).1 hx
  exact hne
/-- a walk on its way: at s, behind P -/
structure Going (E : List Ed) (DD : Vx → Vx → Option Val2) (F : List Lf) (kd id from_ : Int) (k : Nat) (s : Int) (P : List Int) : Prop where
  len : P.length = k
  nodup : (P ++ [s]).Nodup
  rng : ∀ t ∈ P ++ [s], 1 ≤ t ∧ t ≤ 15
  way : (s = from_ ∧ P = []) ∨ (HasTo E DD F kd id from_ ∧ ((kd = 1 ∧ id = s) ∨ ∃ z, Chain E DD F kd id s z (P ++ [s]).reverse))
theorem Going.start (h : 1 ≤ s ∧ s ≤ 15) : Going E DD F kd id s 0 s [] where
  len := rfl
  nodup := by simp
  rng := by
    intro t ht
    rw [List.nil_append, List.mem_singleton] at ht
    rw [ht]
    exact h
  way := .inl ⟨rfl, rfl⟩
theorem Going.at_ (h : Going E DD F kd id from_ k s P) : 1 ≤ s ∧ s ≤ 15 := h.rng s (by simp)
theorem Going.few (h : Going E DD F kd id from_ k s P) : k ≤ 14 := by
  have h1 := nodup_len (P ++ [s]) ((List.range 15).map fun i : Nat => (i : Int) + 1) h.nodup fun t ht => by
    obtain ⟨h1, h2⟩ := h.rng t ht
    exact List.mem_map.2 ⟨(t - 1).toNat, by rw [List.mem_range]; omega, by omega⟩
  have h2 := h.len
  simp at h1
  omega
theorem Going.here (h : Going E DD F kd id from_ k s P) (e : kd = 1 ∧ id = s) : HasTo E DD F kd id from_ ∨ (kd = 1 ∧ id = from_) := by
  rcases h.way with ⟨h1, -⟩ | ⟨h1, -⟩
  · exact .inr ⟨e.1, e.2.trans h1⟩
  · exact .inl h1
theorem Going.none (h : Going E DD F kd id from_ k s P) (hn : ¬ (kd = 1 ∧ id = s)) (hx : ¬ HasTo E DD F kd id s) : ¬ (HasTo E DD F kd id from_ ∨ (kd = 1 ∧ id = from_)) := by
  rcases h.way with ⟨h1, -⟩ | ⟨-, h1 | ⟨z, hz⟩⟩
  · subst h1
    rintro (g | g)
    · exact hx g
    · exact hn g
  · exact absurd h1 hn
  · exact absurd ⟨z, hz.has, hz.kind, hz.ide⟩ hx
theorem Going.chain (hD : Dists E DD) (h : Going E DD F kd id from_ k s P) (hn : ¬ (kd = 1 ∧ id = s)) (hx : HasRt E DD F s x) (hk : x.kind = kd) (hi : x.id = id) : HasTo E DD F kd id from_ ∧ Chain E DD F kd id s x (P ++ [s]).reverse := by
  rcases h.way with ⟨h1, h2⟩ | ⟨h0, h1 | ⟨z, hz⟩⟩
  · subst h1 h2
    exact ⟨⟨x, hx, hk, hi⟩, Chain.start (mayV_iff.2 (.inl ⟨rfl, h.at_.1, h.at_.2⟩)) hx hk hi⟩
  · exact absurd h1 hn
  · have := rt_unique hD hz.has hx (hz.kind.trans hk.symm) (hz.ide.trans hi.symm)
    subst this
    exact ⟨h0, hz⟩
theorem Going.next (hD : Dists E DD) (hF : LeavesOk F) (T : ∀ t : Int, 1 ≤ t → t ≤ 15 → ∃ L R, TreeIs E DD ⟨1, t⟩ L ∧ RoutesAre t L F R) (h : Going E DD F kd id from_ k s P) (h0 : HasTo E DD F kd id from_) (hc : Chain E DD F kd id s x (P ++ [s]).reverse) {y : Hp} (hy : y ∈ x.next) (hy0 : y.id ≠ 0) : Going E DD F kd id from_ (k + 1) y.id (P ++ [s]) := by
  obtain ⟨-, h1⟩ := loop_hop hD hF hc.may hc.has hy
  obtain ⟨hrg, hgo⟩ := h1 hy0
  have hmem : ∀ t, t ∈ (P ++ [s]).reverse ↔ t ∈ P ++ [s] := fun t => List.mem_reverse
  have key : (P ++ [s] ++ [y.id]).Nodup ∧ ((kd = 1 ∧ id = y.id) ∨ ∃ z, Chain E DD F kd id y.id z (P ++ [s] ++ [y.id]).reverse) := by
    by_cases he : kd = 1 ∧ id = y.id
    · refine ⟨?_, .inl he⟩
      rw [List.nodup_append]
      refine ⟨h.nodup, by simp, fun a ha b hb => ?_⟩
      rw [List.mem_singleton] at hb
      subst hb
      rintro rfl
      obtain ⟨-, z, hz, hzk, hzi, -⟩ := hc.all _ ((hmem _).2 ha)
      exact rt_not_self hz (hzk.trans he.1) (hzi.trans he.2)
    · obtain ⟨L', R', hT, hA⟩ := T y.id hrg.1 hrg.2
      have hnot : ¬ (x.kind = 1 ∧ y.id = x.id) := fun g => he ⟨by rw [← hc.kind]; exact g.1, by rw [← hc.ide]; exact g.2.symm⟩
      obtain ⟨z, hz, hzk, hzi, hzc⟩ := hgo hnot L' R' hT hA
      have hn := hc.next hD hrg ⟨L', R', hT, hA, hz⟩ (hzk.trans hc.kind) (hzi.trans hc.ide) hzc
      have he2 : (P ++ [s] ++ [y.id]).reverse = y.id :: (P ++ [s]).reverse := by simp
      refine ⟨?_, .inr ⟨z, by rw [he2]; exact hn⟩⟩
      have := hn.nodup
      rw [← he2] at this
      exact (List.pairwise_reverse.1 this).imp fun h => h.symm
  refine ⟨by rw [List.length_append, h.len]; rfl, key.1, fun t ht => ?_, .inr ⟨h0, key.2⟩⟩
  rcases List.mem_append.1 ht with ht | ht
  · exact h.rng t ht
  · rw [List.mem_singleton] at ht
    rw [ht]
    exact hrg
end

end Go.Proofs.YtpnbibokddhheaaGreat

/-
  The law AuditGets: states in memory, with routes of their own.
-/
namespace Go.Proofs.YtpnbibokddhheaaGreat
open Go.RowKit

/-- a state's routes, by edges and leaves -/
structure RtFor (E : List Ed) (DD : Vx → Vx → Option Val2) (F : List Lf) (s : Stt) (M : List RtM) : Prop where
  len : s.rn = M.length
  ok : RtsOk M
  tree : ∃ L, TreeIs E DD ⟨1, s.id⟩ L ∧ RoutesAre s.id L F (M.map RtM.rt)
def Stt.rv (s : Stt) : Value := .slice s.ra s.rn s.rcap
/-- states that can be read: one for each router -/
structure SttsIn (E : List Ed) (DD : Vx → Vx → Option Val2) (F : List Lf) (w : World) (B : Nat) (A : Option Addr) (l : List Stt) : Prop where
  rows : RowsAt 4 Stt.cells w B A l
  each : ∀ s ∈ l, ∃ M, RtsIn w B s.ra M ∧ RtFor E DD F s M
  ids : ∀ (k : Nat) (h : k < l.length), (l[k]'h).id = (k : Int) + 1
  all : l.length = 15
/-- states of one's own -/
structure SttsAt (E : List Ed) (DD : Vx → Vx → Option Val2) (F : List Lf) (w : World) (B : Nat) (v : Value) (l : List Stt) : Prop where
  row : OwnR 37 4 Stt.cells w B v l
  each : ∀ s ∈ l, ∃ M, RtsAt w B s.rv M ∧ RtFor E DD F s M
  ids : ∀ (k : Nat) (h : k < l.length), (l[k]'h).id = (k : Int) + 1
theorem onesStt (x : Stt) : ∀ u ∈ Stt.cells x, u.oneCell' = true := by
  intro u hu
  simp [Stt.cells] at hu
  rcases hu with rfl | rfl | rfl | rfl <;> rfl
theorem infoStt : (Tryz.prog.info? 37).map (fun i => (i.zero, i.size, i.bytes)) = some (some (.agg #[.int .i64 0, .slice none 0 0, .slice none 0 0, .slice none 0 0]), 4, 80) := by kernel_rfl
section
variable {E : List Ed} {DD : Vx → Vx → Option Val2} {F : List Lf} {w w' : World} {B B' : Nat} {A : Option Addr} {v v' : Value} {l : List Stt} {s : Stt} {M : List RtM}
theorem SttsIn.below (h : SttsIn E DD F w B A l) (hb : Below B w w') : SttsIn E DD F w' B A l := ⟨h.rows.below hb, fun s hs => by obtain ⟨M, h1, h2⟩ := h.each s hs; exact ⟨M, h1.below hb, h2⟩, h.ids, h.all⟩
theorem SttsIn.more (h : SttsIn E DD F w B A l) (hb : B ≤ B') : SttsIn E DD F w B' A l := ⟨h.rows.more hb, fun s hs => by obtain ⟨M, h1, h2⟩ := h.each s hs; exact ⟨M, h1.more hb, h2⟩, h.ids, h.all⟩
theorem RtsAt.kept {M : List RtM} {u : Value} {α : Type} {cells : α → List Value} {C B2 : Nat} {L : List α} {e : TypeId} (h : RtsAt w B u M) (hv : OwnR e C cells w B2 v L) (hr : 44 ≠ e) (hh : 95 ≠ e) (hg : w.grownBy w' v.ownBlock) : RtsAt w' B u M :=
  ⟨h.row.kept hg (own_two h.row hv hr), fun x hx => (h.each x hx).kept hg (own_two (h.each x hx) hv hh)⟩
theorem SttsAt.nil : SttsAt E DD F w B (.slice none 0 0) [] := ⟨OwnR.nil _ _, by simp, fun k h => absurd h (by simp)⟩
theorem SttsAt.below (h : SttsAt E DD F w B v l) (hb : Below w.heap.size w w') : SttsAt E DD F w' B v l := ⟨h.row.below hb, fun s hs => by obtain ⟨M, h1, h2⟩ := h.each s hs; exact ⟨M, h1.below hb, h2⟩, h.ids⟩
theorem SttsAt.app (h : SttsAt E DD F w B v l) (hg : w.grownBy w' v.ownBlock) (hr : OwnR 37 4 Stt.cells w' B v' (l ++ [s])) (hx : RtsAt w B s.rv M) (hf : RtFor E DD F s M) (hid : s.id = (l.length : Int) + 1) : SttsAt E DD F w' B v' (l ++ [s]) where
  row := hr
  each := by
    intro y hy
    rcases List.mem_append.1 hy with hy | hy
    · obtain ⟨M', h1, h2⟩ := h.each y hy
      exact ⟨M', h1.kept h.row (by decide) (by decide) hg, h2⟩
    · rw [List.mem_singleton] at hy
      subst hy
      exact ⟨M, hx.kept h.row (by decide) (by decide) hg, hf⟩
  ids := by
    intro k hk
    rw [List.length_append, List.length_singleton] at hk
    by_cases hlt : k < l.length
    · rw [List.getElem_append_left hlt]
      exact h.ids k hlt
    · have : k = l.length := by omega
      subst this
      rw [List.getElem_append_right (Nat.le_refl _)]
      simpa using hid
theorem SttsAt.reads {n c : Nat} (h : SttsAt E DD F w B (.slice A n c) l) (hb : Below w.heap.size w w') (hl : l.length = 15) : SttsIn E DD F w' w'.heap.size A l :=
  ⟨(OwnR.rows (C := 4) (cells := Stt.cells) (fun _ => rfl) (h.row.below hb)).2, fun s hs => by obtain ⟨M, h1, h2⟩ := h.each s hs; exact ⟨M, h1.reads hb h2.ok.low, h2⟩, h.ids, hl⟩
/-- all have routes -/
theorem SttsIn.trees (h : SttsIn E DD F w B A l) : ∀ t : Int, 1 ≤ t → t ≤ 15 → ∃ L R, TreeIs E DD ⟨1, t⟩ L ∧ RoutesAre t L F R := by
  intro t h1 h2
  have hk : (t - 1).toNat < l.length := by rw [h.all]; omega
  obtain ⟨M, -, hf⟩ := h.each _ (List.getElem_mem hk)
  obtain ⟨L, hL, hR⟩ := hf.tree
  rw [show (l[(t - 1).toNat]'hk).id = t by rw [h.ids]; omega] at hL hR
  exact ⟨L, _, hL, hR⟩
theorem SttsIn.tbl (h : SttsIn E DD F w B A l) {n : Nat} (h1 : 1 ≤ n) (h2 : n ≤ 15) : tblI l n = some (n - 1) := by
  unfold tblI
  rw [if_pos ⟨h1, h2⟩, List.findIdx?_eq_some_iff_getElem]
  have hk : n - 1 < l.length := by rw [h.all]; omega
  refine ⟨hk, ?_, fun j hj => ?_⟩
  · rw [h.ids]
    simp
    omega
  · rw [h.ids]
    simp
    omega
/-- the state of a router, and its routes -/
theorem SttsIn.at_ (h : SttsIn E DD F w B A l) {n : Nat} (h1 : 1 ≤ n) (h2 : n ≤ 15) : ∃ b o M ra rn rcap, A = some ⟨b, o, none⟩ ∧ tblV A l n = .pointer (some ⟨b, o + (n - 1) * 4, none⟩) ∧ (∀ W, Below B w W → W.cell? ⟨b, o + (n - 1) * 4 + 3, none⟩ = some (.slice ra rn rcap)) ∧ RtsIn w B ra M ∧ rn = M.length ∧ RtsOk M ∧ ∃ L, TreeIs E DD ⟨1, (n : Int)⟩ L ∧ RoutesAre (n : Int) L F (M.map RtM.rt) := by
  have hk : n - 1 < l.length := by rw [h.all]; omega
  obtain ⟨b, o, hA, -⟩ := States.at_ h.rows (n - 1) hk
  obtain ⟨M, hM, hf⟩ := h.each _ (List.getElem_mem hk)
  refine ⟨b, o, M, (l[n - 1]'hk).ra, (l[n - 1]'hk).rn, (l[n - 1]'hk).rcap, hA, ?_, fun W hW => ?_, hM, hf.len, hf.ok, ?_⟩
  · unfold tblV
    rw [h.tbl h1 h2, hA]
    rfl
  · obtain ⟨b', o', hA', -, -, -, -, x3⟩ := States.at_ (h.rows.below hW) (n - 1) hk
    rw [hA] at hA'
    cases hA'
    exact x3
  · obtain ⟨L, hL, hR⟩ := hf.tree
    rw [show (l[n - 1]'hk).id = (n : Int) by rw [h.ids]; omega] at hL hR
    exact ⟨L, hL, hR⟩
end

end Go.Proofs.YtpnbibokddhheaaGreat

/-
  The law AuditGets: audit.Walk among routers whose routes are by the same edges and leaves.
-/
namespace Go.Proofs.YtpnbibokddhheaaGreat
open Go.RowKit

theorem cmodW (a n : Nat) : Int.tmod (a : Int) (n : Int) = ((a % n : Nat) : Int) := by
  rw [Int.tmod_eq_emod_of_nonneg (by omega)]
  exact_mod_cast rfl
theorem row_pkW {w : World} {B : Nat} {A : Option Addr} {l : List Nat} (h : RowsAt 1 pcell w B A l) (k : Nat) (hk : k < l.length) : ∃ b o, A = some ⟨b, o, none⟩ ∧ b < B ∧ w.cell? ⟨b, o + k, none⟩ = some (.int .u8 (l[k] : Int)) := by
  obtain ⟨b, o, e, hb, hc⟩ := h (by omega)
  exact ⟨b, o, e, hb, by simpa using hc k hk 0 _ (by omega) rfl⟩
theorem hops_few_has {E : List Ed} {DD : Vx → Vx → Option Val2} {F : List Lf} {s : Int} {x : Rt} (h : HasRt E DD F s x) : x.next.length ≤ 64 := by
  obtain ⟨L, R, hT, hA, hx⟩ := h
  have hO : ∀ n ∈ L, ∀ y ∈ n.next, okHp y := fun n hn y hy => isHop_ok rfl (((hT.next n hn).2 y).1 hy)
  rcases hA.kinds x hx with e | e
  · obtain ⟨n, hn, -, -, -, g⟩ := (hA.router e).1 hx
    rw [g]
    exact hops_few (hT.next n hn).1 (hO n hn)
  · obtain ⟨⟨h0, h3⟩, g⟩ := (hA.net e).1 hx
    exact hops_few g.sorted fun y hy => by
      obtain ⟨p, hp, -, hy⟩ := (g.mem y).1 hy
      exact ends_ok h0 h3 hO p hp y hy
theorem hasTo_not {E : List Ed} {DD : Vx → Vx → Option Val2} {F : List Lf} {s kd id : Int} {L : List Nk} {M : List RtM} (hD : Dists E DD) (hT : TreeIs E DD ⟨1, s⟩ L) (hA : RoutesAre s L F (M.map RtM.rt)) (hok : RtsOk M) (h : findR M kd id = none) : ¬ HasTo E DD F kd id s := by
  rintro ⟨x, ⟨L', R', hT', hA', hx⟩, hk, hi⟩
  have hL := tree_unique hD hD hT' hT fun _ _ => Iff.rfl
  subst hL
  have hR := routes_unique hA' hA
  subst hR
  rw [(findR_iff hok).2 ⟨hx, hk, hi⟩] at h
  cases h
/-- what a walk says: who was passed, nobody twice; whether it got there -/
def Walked (E : List Ed) (DD : Vx → Vx → Option Val2) (F : List Lf) (kd id : Int) (n0 B : Nat) (w' : World) (r : Ending) : Prop :=
  ∃ v P t, r = .returned (.tuple #[v, .bool t]) ∧ OwnI w' B v P ∧ P.Nodup ∧ P.length ≤ 15 ∧ (t = true ↔ (HasTo E DD F kd id n0 ∨ (kd = 1 ∧ id = n0)))
section
variable {E : List Ed} {DD : Vx → Vx → Option Val2} {F : List Lf}

/-- a route that was looked for, laid into a variable -/
def FndZ (M : List RtM) (kd id : Int) (g B : Nat) (v : Value) (W : World) : Prop :=
  (∃ (x : Rt) (A' : Option Addr) (c' : Nat), findR M kd id = some x ∧ v = .bool true ∧ Blk W g 44 #[.int .i64 x.kind, .int .i64 x.id, .int .i64 x.cost, .slice A' x.next.length c'] ∧ OwnH W B (.slice A' x.next.length c') x.next) ∨ (findR M kd id = none ∧ v = .bool false)
set_option maxHeartbeats 16000000 in
set_option maxRecDepth 100000 in
theorem Walk_any (n0 : Nat) (hn1 : 1 ≤ n0) (hn15 : n0 ≤ 15) (kd id : Int) (hkd : kd = 1 ∨ kd = 2) (pA : Option Addr) (pcap : Nat) (pk : List Nat) (np : Nat) (hnp : pk.length = np) (A : Option Addr) (cap : Nat) (l : List Stt) (w : World) (hpk : RowsAt 1 pcell w w.heap.size pA pk) (hpm : pk.length ≤ 50) (hp8 : ∀ x ∈ pk, x ≤ 255) (hl : SttsIn E DD F w w.heap.size A l) (hD : Dists E DD) (hF : LeavesOk F) :
    Calls Tryz.prog 8 #[.int .i64 n0, .agg #[.int .i64 kd, .int .i64 id], .slice pA np pcap, .slice A 15 cap] w fun r w' => Walked E DD F kd id n0 w.heap.size w' r ∧ Below w.heap.size w w' := by
  have hb0 := below_new w (.cells #[.int .i64 kd, .int .i64 id] 39)
  have hk0 := Blk.new w 39 #[.int .i64 kd, .int .i64 id]
  obtain ⟨w0, hw0⟩ : ∃ v, w.alloc (.cells #[.int .i64 kd, .int .i64 id] 39) = v := ⟨_, rfl⟩
  obtain ⟨g5, hg5⟩ : ∃ v, w.heap.size = v := ⟨_, rfl⟩
  rw [hw0] at hb0 hk0
  rw [hg5] at hk0
  have Hb0 := Lib.hid hb0
  have Hk0 := Lib.hid hk0
  have HC := Lib.hid (counted_any A cap l w0 w.heap.size (hl.rows.below hb0) hb0.size (by rw [hl.all]; decide))
  rw [hl.all] at HC
  have HL := Lib.hid hl
  have HP := Lib.hid hpk
  have HP8 := Lib.hid hp8
  have Hnp := Lib.hid hnp
  have HD := Lib.hid hD
  have HF := Lib.hid hF
  have Hkd := Lib.hid hkd
  have hnp50 : np ≤ 50 := by omega
  have Hgo0 := Lib.hid (show Going E DD F kd id (n0 : Int) 0 (n0 : Int) [] from Going.start ⟨by omega, by omega⟩)
  clear hl hpk hp8 hnp hpm hkd hD hF hb0 hk0 hn1 hn15
  go_enter Tryz.func8, Tryz.ntmps8
  go_wp2_with fail
  with_reducible refine Calls.mono HC.out ?_
  rintro r w1 ⟨rfl, hT, hb1⟩
  obtain ⟨gT, hgT⟩ : ∃ v, w0.heap.size = v := ⟨_, rfl⟩
  rw [hgT] at hT ⊢
  have Hb1 := Lib.hid (below_trans Hb0.out Hb0.out.size hb1)
  have HT1 := Lib.hid hT
  have Hk1 := Lib.hid (Hk0.out.below hb1 Hk0.out.lt)
  have HL1 := Lib.hid ((HL.out.below Hb1.out).more Hb1.out.size)
  have HP1 := Lib.hid ((HP.out.below Hb1.out).more Hb1.out.size)
  have HTr := Lib.hid HL.out.trees
  clear hT hb1 hw0 hg5 hgT Hk0 HC
  go_wp2_with fail
  go_loopw [11, 12, 21] (fun v11 v12 v21 wr => ∃ (k n : Nat) (P : List Int) (Ax : Option Addr) (c : Nat), v21 = .int .i64 k ∧ v12 = .int .i64 n ∧ v11 = .slice Ax k c ∧ Going E DD F kd id (n0 : Int) k (n : Int) P ∧ OwnI wr w1.heap.size (.slice Ax k c) P ∧ Below w1.heap.size w1 wr) (fun _ _ v21 _ => 17 - (intOf v21).toNat)
  case atStart => exact ⟨0, n0, [], none, 0, rfl, rfl, rfl, Hgo0.out, OwnI.nil _ _, Below.refl _ _⟩
  case round =>
    obtain ⟨k, n, P, Ax, c, rfl, rfl, rfl, hgo, hown, hb⟩ := hrel
    have hk14 := hgo.few
    obtain ⟨ha1, ha15⟩ := hgo.at_
    have hn1 : 1 ≤ n := by omega
    have hn15 : n ≤ 15 := by omega
    have hPk := hgo.len
    obtain ⟨b, o, M, ra, nM, rcap, hA, htv, hx3, hM, hnM, hok, L, hL, hR⟩ := HL1.out.at_ hn1 hn15
    obtain ⟨m, hm⟩ : ∃ m, n - 1 = m := ⟨_, rfl⟩
    rw [hm] at htv hx3
    have HX := Lib.hid (show ∀ W, Below w1.heap.size w1 W → W.cell? ⟨g5, 0, none⟩ = some (.int .i64 kd) ∧ W.cell? ⟨g5, 1, none⟩ = some (.int .i64 id) ∧ W.cell? ⟨gT, n, none⟩ = some (.pointer (some ⟨b, o + m * 4, none⟩)) ∧ W.cell? ⟨b, o + m * 4 + 3, none⟩ = some (.slice ra nM rcap) from fun W hW => ⟨(Hk1.out.below hW Hk1.out.lt).cell 0, (Hk1.out.below hW Hk1.out.lt).cell 1, by rw [(HT1.out.below hW HT1.out.lt).cell n, tblC_get _ _ n (by omega), htv], hx3 W hW⟩)
    have HM := Lib.hid (show ∀ W, Below w1.heap.size w1 W → Calls Tryz.prog 9 #[.int .i64 kd, .int .i64 id, .slice ra nM rcap] W fun r w' => FoundR M kd id w' W.heap.size r ∧ Below W.heap.size W w' from fun W hW => FindR_any kd id ra rcap nM M W ((hM.below hW).more hW.size) (by have := hok.len; omega) hnM)
    have HOk := Lib.hid hok
    have HLR := Lib.hid (And.intro hL hR)
    have Hgo := Lib.hid hgo
    have Hown := Lib.hid hown
    have Hb := Lib.hid hb
    have hki : (k : Int) < 17 := by omega
    have hk16 : ((k : Int) == 16) = false := by simp; omega
    obtain ⟨-, -, xT, -⟩ := HX.out _ hb
    have HPk := Lib.hid hPk
    have Hk14 := Lib.hid hk14
    subst hA
    have hna : ¬ (n : Int) < 1 := by omega
    have hnb : ¬ (15 : Int) < (n : Int) := by omega
    have hn16 : (n : Int) < 16 := by omega
    clear hgo hown hb htv hx3 hM hnM hok hL hR hm hPk hk14
    by_cases hend : kd = 1 ∧ id = (n : Int)
    · have hh := Lib.hid (Hgo.out.here hend)
      have e1 : (kd == 1) = true := by simp [hend.1]
      have e2 : (id == (n : Int)) = true := by simp [hend.2]
      clear hend
      go_wp2_with (at_builtin; refine app_int rfl _ _ rfl w1.heap.size (.slice Ax k c) P rfl (Hown.out.alloc _) wr.heap.size (n : Int) rfl ((Blk.new _ _ _).cell 0) (by have := HPk.out; have := Hk14.out; omega) (by have := Hb.out.size; simp; omega) ?_; intro v5 w5 hown5 hg5; have Hown5 := Lib.hid hown5; have Hb5 := Lib.hid ((Hb.out.alloc Hb.out.size _).grown hg5 (Hb.out.alloc Hb.out.size _).size (fun j e => (Hown.out.block j e).1)); obtain ⟨z0, z1, -, -⟩ := HX.out _ Hb5.out; clear hown5 hg5 xT)
      go_ret2
      exact ⟨⟨_, P ++ [(n : Int)], true, rfl, Hown5.out.lower Hb1.out.size, Hgo.out.nodup, by have := HPk.out; have := Hk14.out; simp; omega, ⟨fun _ => hh.out, fun _ => rfl⟩⟩, below_trans Hb1.out Hb1.out.size Hb5.out⟩
    · have hcs : ((kd == 1) = false) ∨ ((kd == 1) = true ∧ (id == (n : Int)) = false) := by
        by_cases e : kd = 1
        · exact .inr ⟨by simp [e], by simp; exact fun g => hend ⟨e, g⟩⟩
        · exact .inl (by simp [e])
      have Hend := Lib.hid hend
      clear hend
      rcases hcs with e1 | ⟨e1, e2⟩
      all_goals
        go_upto_region 12 with (at_builtin; refine app_int rfl _ _ rfl w1.heap.size (.slice Ax k c) P rfl (Hown.out.alloc _) wr.heap.size (n : Int) rfl ((Blk.new _ _ _).cell 0) (by have := HPk.out; have := Hk14.out; omega) (by have := Hb.out.size; simp; omega) ?_; intro v5 w5 hown5 hg5; have Hown5 := Lib.hid hown5; have Hb5 := Lib.hid ((Hb.out.alloc Hb.out.size _).grown hg5 (Hb.out.alloc Hb.out.size _).size (fun j e => (Hown.out.block j e).1)); obtain ⟨A5, c5, hv5⟩ := Hown5.out.shape; rw [show (P ++ [(n : Int)]).length = k + 1 by rw [List.length_append, HPk.out]; rfl] at hv5; subst hv5; obtain ⟨z0, z1, yT, y3⟩ := HX.out _ Hb5.out; clear hown5 hg5 xT)
        go_cut [14, 15, 21] from 21 to 118 (fun v14 v15 v21 wx => v21 = .int .i64 k ∧ ∃ g14 : Nat, v14 = .pointer (some ⟨g14, 0, none⟩) ∧ w5.heap.size ≤ g14 ∧ Below w5.heap.size w5 wx ∧ FndZ M kd id g14 w5.heap.size v15 wx)
        case first =>
          refine wp_region_F (F := fun W => Below w5.heap.size w5 W) (n := 18) (m := 19) (s := #[false, false, false, false, false, false, false, false, false, false, false, false, false, false, false, false, false, false, false]) (by kernel_rfl) (by kernel_rfl) (by kernel_rfl) ?_
          intro wd hwd
          have hF : Below w5.heap.size w5 wd := by rw [hwd.out]; exact (Below.refl _ _).drew
          clear hwd
          refine F_take (i := 0) (d := some 54) (by kernel_rfl) (by kernel_rfl) (by decide) (s' := #[true, false, false, false, false, false, false, false, false, false, false, false, false, false, false, false, false, false, false]) (by kernel_rfl) rfl rfl (by kernel_rfl) (by kernel_rfl) (by kernel_rfl) (fun _ _ _ h => h) (Or.inl ⟨by kernel_rfl, fun W hW => by go_simp; try with_reducible rfl⟩) hF ?_
          go_frame
          refine F_take (i := 1) (d := some 55) (by kernel_rfl) (by kernel_rfl) (by decide) (s' := #[true, true, false, false, false, false, false, false, false, false, false, false, false, false, false, false, false, false, false]) (by kernel_rfl) rfl rfl (by kernel_rfl) (by kernel_rfl) (by kernel_rfl) (fun _ _ _ h => h) (Or.inl ⟨by kernel_rfl, fun W hW => by have q0 := cellIn z0 hW; go_simp; try with_reducible rfl⟩) hF ?_
          go_frame
          refine F_take (i := 2) (d := some 56) (by kernel_rfl) (by kernel_rfl) (by decide) (s' := #[true, true, true, false, false, false, false, false, false, false, false, false, false, false, false, false, false, false, false]) (by kernel_rfl) rfl rfl (by kernel_rfl) (by kernel_rfl) (by kernel_rfl) (fun _ _ _ h => h) (Or.inl ⟨by kernel_rfl, fun W hW => by go_simp; try with_reducible rfl⟩) hF ?_
          go_frame
          refine F_take (i := 3) (d := some 57) (by kernel_rfl) (by kernel_rfl) (by decide) (s' := #[true, true, true, true, false, false, false, false, false, false, false, false, false, false, false, false, false, false, false]) (by kernel_rfl) rfl rfl (by kernel_rfl) (by kernel_rfl) (by kernel_rfl) (fun _ _ _ h => h) (Or.inl ⟨by kernel_rfl, fun W hW => by have q1 := cellIn z1 hW; go_simp; try with_reducible rfl⟩) hF ?_
          go_frame
          refine F_take (i := 4) (d := some 58) (by kernel_rfl) (by kernel_rfl) (by decide) (s' := #[true, true, true, true, true, false, false, false, false, false, false, false, false, false, false, false, false, false, false]) (by kernel_rfl) rfl rfl (by kernel_rfl) (by kernel_rfl) (by kernel_rfl) (fun _ _ _ h => h) (Or.inl ⟨by kernel_rfl, fun W hW => by go_simp; try with_reducible rfl⟩) hF ?_
          go_frame
          refine F_take (i := 5) (d := some 59) (by kernel_rfl) (by kernel_rfl) (by decide) (s' := #[true, true, true, true, true, true, false, false, false, false, false, false, false, false, false, false, false, false, false]) (by kernel_rfl) rfl rfl (by kernel_rfl) (by kernel_rfl) (by kernel_rfl) (fun _ _ _ h => h) (Or.inl ⟨by kernel_rfl, fun W hW => by go_simp; try with_reducible rfl⟩) hF ?_
          go_frame
          refine F_take (i := 6) (d := some 60) (by kernel_rfl) (by kernel_rfl) (by decide) (s' := #[true, true, true, true, true, true, true, false, false, false, false, false, false, false, false, false, false, false, false]) (by kernel_rfl) rfl rfl (by kernel_rfl) (by kernel_rfl) (by kernel_rfl) (fun _ _ _ h => h) (Or.inl ⟨by kernel_rfl, fun W hW => by go_simp; try with_reducible rfl⟩) hF ?_
          go_frame
          refine F_take (i := 7) (d := some 61) (by kernel_rfl) (by kernel_rfl) (by decide) (s' := #[true, true, true, true, true, true, true, true, false, false, false, false, false, false, false, false, false, false, false]) (by kernel_rfl) rfl rfl (by kernel_rfl) (by kernel_rfl) (by kernel_rfl) (fun _ _ _ h => h) (Or.inl ⟨by kernel_rfl, fun W hW => by go_simp; try with_reducible rfl⟩) hF ?_
          go_frame
          refine F_take (i := 8) (d := some 62) (by kernel_rfl) (by kernel_rfl) (by decide) (s' := #[true, true, true, true, true, true, true, true, true, false, false, false, false, false, false, false, false, false, false]) (by kernel_rfl) rfl rfl (by kernel_rfl) (by kernel_rfl) (by kernel_rfl) (fun _ _ _ h => h) (Or.inl ⟨by kernel_rfl, fun W hW => by have q2 := cellIn yT hW; go_simp; try with_reducible rfl⟩) hF ?_
          go_frame
          refine F_take (i := 9) (d := some 63) (by kernel_rfl) (by kernel_rfl) (by decide) (s' := #[true, true, true, true, true, true, true, true, true, true, false, false, false, false, false, false, false, false, false]) (by kernel_rfl) rfl rfl (by kernel_rfl) (by kernel_rfl) (by kernel_rfl) (fun _ _ _ h => h) (Or.inl ⟨by kernel_rfl, fun W hW => by go_simp; try with_reducible rfl⟩) hF ?_
          go_frame
          refine F_take (i := 10) (d := some 64) (by kernel_rfl) (by kernel_rfl) (by decide) (s' := #[true, true, true, true, true, true, true, true, true, true, true, false, false, false, false, false, false, false, false]) (by kernel_rfl) rfl rfl (by kernel_rfl) (by kernel_rfl) (by kernel_rfl) (fun _ _ _ h => h) (Or.inl ⟨by kernel_rfl, fun W hW => by go_simp; try with_reducible rfl⟩) hF ?_
          go_frame
          refine F_take (i := 11) (d := some 65) (by kernel_rfl) (by kernel_rfl) (by decide) (s' := #[true, true, true, true, true, true, true, true, true, true, true, true, false, false, false, false, false, false, false]) (by kernel_rfl) rfl rfl (by kernel_rfl) (by kernel_rfl) (by kernel_rfl) (fun _ _ _ h => h) (Or.inl ⟨by kernel_rfl, fun W hW => by have q3 := cellIn y3 hW; go_simp; try with_reducible rfl⟩) hF ?_
          go_frame
          clear z0 z1 yT y3
          refine F_two (i := 12) (j := 16) (si := #[true, true, true, true, true, true, true, true, true, true, true, true, true, false, false, false, false, false, false]) (sj := #[true, true, true, true, true, true, true, true, true, true, true, true, false, false, false, false, true, false, false]) (by kernel_rfl) (by kernel_rfl) (by kernel_rfl) ?_ ?_
          · skip
            refine wpOp_enterL (i := 12) (d := some 66) (f := 9) (args := #[.int .i64 kd, .int .i64 id, .slice ra nM rcap]) rfl rfl (by kernel_rfl) (by go_simp) (Calls.mono (HM.out _ (below_trans Hb5.out Hb5.out.size hF)) ?_)
            rintro r w6 ⟨hfo, hb6⟩
            have hF6 := below_trans hF hF.size hb6
            have hsz : w5.heap.size ≤ wd.heap.size := hF.size
            clear hF
            have hF := hF6
            clear hF6
            rcases hfo with ⟨z, A14, c14, hx, rfl, ho⟩ | ⟨hx, rfl⟩
            · skip
              obtain ⟨zk, zi, zc, zn⟩ := z
              simp only at ho ⊢
              refine ⟨_, rfl, fun _ => hF, ?_⟩
              go_frame
              refine F_take (i := 13) (d := some 53) (by kernel_rfl) (by kernel_rfl) (by decide) (s' := #[true, true, true, true, true, true, true, true, true, true, true, true, true, true, false, false, false, false, false]) (by kernel_rfl) rfl rfl (by kernel_rfl) (by kernel_rfl) (by kernel_rfl) (fun _ _ _ h => h) (Or.inl ⟨by kernel_rfl, fun W hW => by go_simp; try with_reducible rfl⟩) hF ?_
              go_frame
              refine F_take (i := 14) (d := some 67) (by kernel_rfl) (by kernel_rfl) (by decide) (s' := #[true, true, true, true, true, true, true, true, true, true, true, true, true, true, true, false, false, false, false]) (by kernel_rfl) rfl rfl (by kernel_rfl) (by kernel_rfl) (by kernel_rfl) (fun _ _ _ h => h) (Or.inl ⟨by kernel_rfl, fun W hW => by go_simp; try with_reducible rfl⟩) hF ?_
              go_frame
              refine F_take (i := 15) (d := some 68) (by kernel_rfl) (by kernel_rfl) (by decide) (s' := #[true, true, true, true, true, true, true, true, true, true, true, true, true, true, true, true, false, false, false]) (by kernel_rfl) rfl rfl (by kernel_rfl) (by kernel_rfl) (by kernel_rfl) (fun _ _ _ h => h) (Or.inl ⟨by kernel_rfl, fun W hW => by go_simp; try with_reducible rfl⟩) hF ?_
              go_frame
              obtain ⟨we, hV⟩ : ∃ v, w6.alloc (.cells #[.int .i64 0, .int .i64 0, .int .i64 0, .slice none 0 0] 44) = v := ⟨_, rfl⟩
              have hbe := below_new w6 (.cells #[.int .i64 0, .int .i64 0, .int .i64 0, .slice none 0 0] 44)
              have ke := Blk.new w6 44 #[.int .i64 0, .int .i64 0, .int .i64 0, .slice none 0 0]
              obtain ⟨g14, hg14⟩ : ∃ p, w6.heap.size = p := ⟨_, rfl⟩
              rw [hV] at hbe ke
              rw [hg14] at ke
              have hgw : w5.heap.size ≤ g14 := by rw [← hg14]; exact hF.size
              have hFe := below_trans hF hF.size hbe
              have hoe := ho.below hbe
              refine F_one (i := 16) (s' := #[true, true, true, true, true, true, true, true, true, true, true, true, true, true, true, true, true, false, false]) (by kernel_rfl) (by kernel_rfl) ?_
              refine wpOp_valueL (i := 16) (d := some 14) (w' := we) (v := .pointer (some ⟨g14, 0, none⟩)) rfl rfl (by kernel_rfl) (by go_simp) ⟨fun _ => hFe, ?_⟩
              go_frame
              clear hV hg14
              have k2 := Blk.put4 ke (.int .i64 zk) (.int .i64 zi) (.int .i64 zc) (.slice A14 zn.length c14)
              have hFz := below_put4 hFe hgw (.int .i64 zk) (.int .i64 zi) (.int .i64 zc) (.slice A14 zn.length c14)
              obtain ⟨⟨c0, c1, c2, c3⟩, cf0, cf1, cf2, cf3⟩ := blk4r ke
              have hne4 := own_ne hoe ke (by decide)
              have hoz := (((hoe.kept (grown_setC we g14 0 (.int .i64 zk)) (.inr hne4)).kept (grown_setC _ g14 1 (.int .i64 zi)) (.inr hne4)).kept (grown_setC _ g14 2 (.int .i64 zc)) (.inr hne4)).kept (grown_setC _ g14 3 (.slice A14 zn.length c14)) (.inr hne4)
              obtain ⟨wc, hwc⟩ : ∃ v, (((we.setCell ⟨g14, 0, none⟩ (.int .i64 zk)).setCell ⟨g14, 1, none⟩ (.int .i64 zi)).setCell ⟨g14, 2, none⟩ (.int .i64 zc)).setCell ⟨g14, 3, none⟩ (.slice A14 zn.length c14) = v := ⟨_, rfl⟩
              rw [hwc] at k2 hFz hoz
              refine F_one (i := 17) (s' := #[true, true, true, true, true, true, true, true, true, true, true, true, true, true, true, true, true, true, false]) (by kernel_rfl) (by kernel_rfl) (wpOp_skipL (i := 17) (w' := wc) rfl rfl (by kernel_rfl) (by go_simp) ⟨fun _ => hFz, ?_⟩)
              go_frame
              clear hwc c0 c1 c2 c3 cf0 cf1 cf2 cf3
              refine F_one (i := 18) (s' := #[true, true, true, true, true, true, true, true, true, true, true, true, true, true, true, true, true, true, true]) (by kernel_rfl) (by kernel_rfl) (wpOp_valueL (i := 18) (d := some 15) (w' := wc) (v := .bool true) rfl rfl (by kernel_rfl) (by go_simp) ⟨fun h => absurd h (by decide), ?_⟩)
              go_frame
              refine F_done (by kernel_rfl) ?_ _
              go_wp2_with fail
              go_meet
              exact ⟨rfl, g14, rfl, hgw, hFz, .inl ⟨⟨zk, zi, zc, zn⟩, A14, c14, hx, rfl, k2, hoz.lower hsz⟩⟩
            · skip
              refine ⟨_, rfl, fun _ => hF, ?_⟩
              go_frame
              refine F_take (i := 13) (d := some 53) (by kernel_rfl) (by kernel_rfl) (by decide) (s' := #[true, true, true, true, true, true, true, true, true, true, true, true, true, true, false, false, false, false, false]) (by kernel_rfl) rfl rfl (by kernel_rfl) (by kernel_rfl) (by kernel_rfl) (fun _ _ _ h => h) (Or.inl ⟨by kernel_rfl, fun W hW => by go_simp; try with_reducible rfl⟩) hF ?_
              go_frame
              refine F_take (i := 14) (d := some 67) (by kernel_rfl) (by kernel_rfl) (by decide) (s' := #[true, true, true, true, true, true, true, true, true, true, true, true, true, true, true, false, false, false, false]) (by kernel_rfl) rfl rfl (by kernel_rfl) (by kernel_rfl) (by kernel_rfl) (fun _ _ _ h => h) (Or.inl ⟨by kernel_rfl, fun W hW => by go_simp; try with_reducible rfl⟩) hF ?_
              go_frame
              refine F_take (i := 15) (d := some 68) (by kernel_rfl) (by kernel_rfl) (by decide) (s' := #[true, true, true, true, true, true, true, true, true, true, true, true, true, true, true, true, false, false, false]) (by kernel_rfl) rfl rfl (by kernel_rfl) (by kernel_rfl) (by kernel_rfl) (fun _ _ _ h => h) (Or.inl ⟨by kernel_rfl, fun W hW => by go_simp; try with_reducible rfl⟩) hF ?_
              go_frame
              obtain ⟨we, hV⟩ : ∃ v, w6.alloc (.cells #[.int .i64 0, .int .i64 0, .int .i64 0, .slice none 0 0] 44) = v := ⟨_, rfl⟩
              have hbe := below_new w6 (.cells #[.int .i64 0, .int .i64 0, .int .i64 0, .slice none 0 0] 44)
              have ke := Blk.new w6 44 #[.int .i64 0, .int .i64 0, .int .i64 0, .slice none 0 0]
              obtain ⟨g14, hg14⟩ : ∃ p, w6.heap.size = p := ⟨_, rfl⟩
              rw [hV] at hbe ke
              rw [hg14] at ke
              have hgw : w5.heap.size ≤ g14 := by rw [← hg14]; exact hF.size
              have hFe := below_trans hF hF.size hbe
              refine F_one (i := 16) (s' := #[true, true, true, true, true, true, true, true, true, true, true, true, true, true, true, true, true, false, false]) (by kernel_rfl) (by kernel_rfl) ?_
              refine wpOp_valueL (i := 16) (d := some 14) (w' := we) (v := .pointer (some ⟨g14, 0, none⟩)) rfl rfl (by kernel_rfl) (by go_simp) ⟨fun _ => hFe, ?_⟩
              go_frame
              clear hV hg14
              have k2 := Blk.put4 ke (.int .i64 0) (.int .i64 0) (.int .i64 0) (.slice none 0 0)
              have hFz := below_put4 hFe hgw (.int .i64 0) (.int .i64 0) (.int .i64 0) (.slice none 0 0)
              obtain ⟨⟨c0, c1, c2, c3⟩, cf0, cf1, cf2, cf3⟩ := blk4r ke
              obtain ⟨wc, hwc⟩ : ∃ v, (((we.setCell ⟨g14, 0, none⟩ (.int .i64 0)).setCell ⟨g14, 1, none⟩ (.int .i64 0)).setCell ⟨g14, 2, none⟩ (.int .i64 0)).setCell ⟨g14, 3, none⟩ (.slice none 0 0) = v := ⟨_, rfl⟩
              rw [hwc] at k2 hFz
              refine F_one (i := 17) (s' := #[true, true, true, true, true, true, true, true, true, true, true, true, true, true, true, true, true, true, false]) (by kernel_rfl) (by kernel_rfl) (wpOp_skipL (i := 17) (w' := wc) rfl rfl (by kernel_rfl) (by go_simp) ⟨fun _ => hFz, ?_⟩)
              go_frame
              clear hwc c0 c1 c2 c3 cf0 cf1 cf2 cf3
              refine F_one (i := 18) (s' := #[true, true, true, true, true, true, true, true, true, true, true, true, true, true, true, true, true, true, true]) (by kernel_rfl) (by kernel_rfl) (wpOp_valueL (i := 18) (d := some 15) (w' := wc) (v := .bool false) rfl rfl (by kernel_rfl) (by go_simp) ⟨fun h => absurd h (by decide), ?_⟩)
              go_frame
              refine F_done (by kernel_rfl) ?_ _
              go_wp2_with fail
              go_meet
              exact ⟨rfl, g14, rfl, hgw, hFz, .inr ⟨hx, rfl⟩⟩
          · skip
            obtain ⟨we, hV⟩ : ∃ v, wd.alloc (.cells #[.int .i64 0, .int .i64 0, .int .i64 0, .slice none 0 0] 44) = v := ⟨_, rfl⟩
            have hbe := below_new wd (.cells #[.int .i64 0, .int .i64 0, .int .i64 0, .slice none 0 0] 44)
            have ke := Blk.new wd 44 #[.int .i64 0, .int .i64 0, .int .i64 0, .slice none 0 0]
            obtain ⟨g14, hg14⟩ : ∃ p, wd.heap.size = p := ⟨_, rfl⟩
            rw [hV] at hbe ke
            rw [hg14] at ke
            have hgw : w5.heap.size ≤ g14 := by rw [← hg14]; exact hF.size
            have hFe := below_trans hF hF.size hbe
            refine wpOp_valueL (i := 16) (d := some 14) (w' := we) (v := .pointer (some ⟨g14, 0, none⟩)) rfl rfl (by kernel_rfl) (by go_simp) ⟨fun _ => hFe, ?_⟩
            go_frame
            clear hV hg14
            refine F_one (i := 12) (s' := #[true, true, true, true, true, true, true, true, true, true, true, true, true, false, false, false, true, false, false]) (by kernel_rfl) (by kernel_rfl) ?_
            refine wpOp_enterL (i := 12) (d := some 66) (f := 9) (args := #[.int .i64 kd, .int .i64 id, .slice ra nM rcap]) rfl rfl (by kernel_rfl) (by go_simp) (Calls.mono (HM.out _ (below_trans Hb5.out Hb5.out.size hFe)) ?_)
            rintro r w6 ⟨hfo, hb6⟩
            have hF6 := below_trans hFe hFe.size hb6
            have hsz : w5.heap.size ≤ we.heap.size := hFe.size
            have ke := ke.below hb6 ke.lt
            clear hF hFe hbe
            have hF := hF6
            clear hF6
            rcases hfo with ⟨z, A14, c14, hx, rfl, ho⟩ | ⟨hx, rfl⟩
            · skip
              obtain ⟨zk, zi, zc, zn⟩ := z
              simp only at ho ⊢
              have hoe := ho
              refine ⟨_, rfl, fun _ => hF, ?_⟩
              go_frame
              refine F_take (i := 13) (d := some 53) (by kernel_rfl) (by kernel_rfl) (by decide) (s' := #[true, true, true, true, true, true, true, true, true, true, true, true, true, true, false, false, true, false, false]) (by kernel_rfl) rfl rfl (by kernel_rfl) (by kernel_rfl) (by kernel_rfl) (fun _ _ _ h => h) (Or.inl ⟨by kernel_rfl, fun W hW => by go_simp; try with_reducible rfl⟩) hF ?_
              go_frame
              refine F_take (i := 14) (d := some 67) (by kernel_rfl) (by kernel_rfl) (by decide) (s' := #[true, true, true, true, true, true, true, true, true, true, true, true, true, true, true, false, true, false, false]) (by kernel_rfl) rfl rfl (by kernel_rfl) (by kernel_rfl) (by kernel_rfl) (fun _ _ _ h => h) (Or.inl ⟨by kernel_rfl, fun W hW => by go_simp; try with_reducible rfl⟩) hF ?_
              go_frame
              refine F_take (i := 15) (d := some 68) (by kernel_rfl) (by kernel_rfl) (by decide) (s' := #[true, true, true, true, true, true, true, true, true, true, true, true, true, true, true, true, true, false, false]) (by kernel_rfl) rfl rfl (by kernel_rfl) (by kernel_rfl) (by kernel_rfl) (fun _ _ _ h => h) (Or.inl ⟨by kernel_rfl, fun W hW => by go_simp; try with_reducible rfl⟩) hF ?_
              go_frame
              have k2 := Blk.put4 ke (.int .i64 zk) (.int .i64 zi) (.int .i64 zc) (.slice A14 zn.length c14)
              have hFz := below_put4 hF hgw (.int .i64 zk) (.int .i64 zi) (.int .i64 zc) (.slice A14 zn.length c14)
              obtain ⟨⟨c0, c1, c2, c3⟩, cf0, cf1, cf2, cf3⟩ := blk4r ke
              have hne4 := own_ne hoe ke (by decide)
              have hoz := (((hoe.kept (grown_setC w6 g14 0 (.int .i64 zk)) (.inr hne4)).kept (grown_setC _ g14 1 (.int .i64 zi)) (.inr hne4)).kept (grown_setC _ g14 2 (.int .i64 zc)) (.inr hne4)).kept (grown_setC _ g14 3 (.slice A14 zn.length c14)) (.inr hne4)
              obtain ⟨wc, hwc⟩ : ∃ v, (((w6.setCell ⟨g14, 0, none⟩ (.int .i64 zk)).setCell ⟨g14, 1, none⟩ (.int .i64 zi)).setCell ⟨g14, 2, none⟩ (.int .i64 zc)).setCell ⟨g14, 3, none⟩ (.slice A14 zn.length c14) = v := ⟨_, rfl⟩
              rw [hwc] at k2 hFz hoz
              refine F_one (i := 17) (s' := #[true, true, true, true, true, true, true, true, true, true, true, true, true, true, true, true, true, true, false]) (by kernel_rfl) (by kernel_rfl) (wpOp_skipL (i := 17) (w' := wc) rfl rfl (by kernel_rfl) (by go_simp) ⟨fun _ => hFz, ?_⟩)
              go_frame
              clear hwc c0 c1 c2 c3 cf0 cf1 cf2 cf3
              refine F_one (i := 18) (s' := #[true, true, true, true, true, true, true, true, true, true, true, true, true, true, true, true, true, true, true]) (by kernel_rfl) (by kernel_rfl) (wpOp_valueL (i := 18) (d := some 15) (w' := wc) (v := .bool true) rfl rfl (by kernel_rfl) (by go_simp) ⟨fun h => absurd h (by decide), ?_⟩)
              go_frame
              refine F_done (by kernel_rfl) ?_ _
              go_wp2_with fail
              go_meet
              exact ⟨rfl, g14, rfl, hgw, hFz, .inl ⟨⟨zk, zi, zc, zn⟩, A14, c14, hx, rfl, k2, hoz.lower hsz⟩⟩
            · skip
              refine ⟨_, rfl, fun _ => hF, ?_⟩
              go_frame
              refine F_take (i := 13) (d := some 53) (by kernel_rfl) (by kernel_rfl) (by decide) (s' := #[true, true, true, true, true, true, true, true, true, true, true, true, true, true, false, false, true, false, false]) (by kernel_rfl) rfl rfl (by kernel_rfl) (by kernel_rfl) (by kernel_rfl) (fun _ _ _ h => h) (Or.inl ⟨by kernel_rfl, fun W hW => by go_simp; try with_reducible rfl⟩) hF ?_
              go_frame
              refine F_take (i := 14) (d := some 67) (by kernel_rfl) (by kernel_rfl) (by decide) (s' := #[true, true, true, true, true, true, true, true, true, true, true, true, true, true, true, false, true, false, false]) (by kernel_rfl) rfl rfl (by kernel_rfl) (by kernel_rfl) (by kernel_rfl) (fun _ _ _ h => h) (Or.inl ⟨by kernel_rfl, fun W hW => by go_simp; try with_reducible rfl⟩) hF ?_
              go_frame
              refine F_take (i := 15) (d := some 68) (by kernel_rfl) (by kernel_rfl) (by decide) (s' := #[true, true, true, true, true, true, true, true, true, true, true, true, true, true, true, true, true, false, false]) (by kernel_rfl) rfl rfl (by kernel_rfl) (by kernel_rfl) (by kernel_rfl) (fun _ _ _ h => h) (Or.inl ⟨by kernel_rfl, fun W hW => by go_simp; try with_reducible rfl⟩) hF ?_
              go_frame
              have k2 := Blk.put4 ke (.int .i64 0) (.int .i64 0) (.int .i64 0) (.slice none 0 0)
              have hFz := below_put4 hF hgw (.int .i64 0) (.int .i64 0) (.int .i64 0) (.slice none 0 0)
              obtain ⟨⟨c0, c1, c2, c3⟩, cf0, cf1, cf2, cf3⟩ := blk4r ke
              obtain ⟨wc, hwc⟩ : ∃ v, (((w6.setCell ⟨g14, 0, none⟩ (.int .i64 0)).setCell ⟨g14, 1, none⟩ (.int .i64 0)).setCell ⟨g14, 2, none⟩ (.int .i64 0)).setCell ⟨g14, 3, none⟩ (.slice none 0 0) = v := ⟨_, rfl⟩
              rw [hwc] at k2 hFz
              refine F_one (i := 17) (s' := #[true, true, true, true, true, true, true, true, true, true, true, true, true, true, true, true, true, true, false]) (by kernel_rfl) (by kernel_rfl) (wpOp_skipL (i := 17) (w' := wc) rfl rfl (by kernel_rfl) (by go_simp) ⟨fun _ => hFz, ?_⟩)
              go_frame
              clear hwc c0 c1 c2 c3 cf0 cf1 cf2 cf3
              refine F_one (i := 18) (s' := #[true, true, true, true, true, true, true, true, true, true, true, true, true, true, true, true, true, true, true]) (by kernel_rfl) (by kernel_rfl) (wpOp_valueL (i := 18) (d := some 15) (w' := wc) (v := .bool false) rfl rfl (by kernel_rfl) (by go_simp) ⟨fun h => absurd h (by decide), ?_⟩)
              go_frame
              refine F_done (by kernel_rfl) ?_ _
              go_wp2_with fail
              go_meet
              exact ⟨rfl, g14, rfl, hgw, hFz, .inr ⟨hx, rfl⟩⟩
        case rest =>
          obtain ⟨rfl, g14, rfl, hg14, hFz, hfz⟩ := hcut
          clear z0 z1 yT y3
          rcases hfz with ⟨z, A14, c14, hx, rfl, k2, hoz⟩ | ⟨hx, rfl⟩
          rotate_left
          · have Hz := Lib.hid (below_trans Hb5.out Hb5.out.size hFz)
            have Ho := Lib.hid (Hown5.out.below hFz)
            have Hno := Lib.hid (Hgo.out.none Hend.out (hasTo_not HD.out HLR.out.1 HLR.out.2 HOk.out hx))
            clear hFz hx hg14
            go_wp2
            go_ret2
            exact ⟨⟨_, P ++ [(n : Int)], false, rfl, Ho.out.lower Hb1.out.size, Hgo.out.nodup, by have := HPk.out; have := Hk14.out; simp; omega, ⟨fun h => (by cases h), fun h => absurd h Hno.out⟩⟩, below_trans Hb1.out Hb1.out.size Hz.out⟩
          obtain ⟨hzm, hzk, hzi⟩ := (findR_iff HOk.out).1 hx
          obtain ⟨hto, hch⟩ := Hgo.out.chain HD.out Hend.out ⟨L, _, HLR.out.1, HLR.out.2, hzm⟩ hzk hzi
          have hne := loop_next HD.out hch.has
          have hfew := hops_few_has hch.has
          have Hto := Lib.hid hto
          have Hch := Lib.hid hch
          obtain ⟨zk, zi, zc, zn⟩ := z
          simp only at hzk hzi k2 hoz hne hfew ⊢
          obtain ⟨nz, hnz⟩ : ∃ n, zn.length = n := ⟨_, rfl⟩
          rw [hnz] at k2 hoz hfew
          have hnz0 : 0 < nz := by rw [← hnz]; exact List.length_pos_iff.2 hne
          have Hnz := Lib.hid hnz
          clear hto hch hne hnz hx hzm hzk hzi
          have Hkz := Lib.hid k2
          have Hbz := Lib.hid (below_trans Hb5.out Hb5.out.size hFz)
          have Hownz := Lib.hid (Hown5.out.below hFz)
          have Hoz := Lib.hid hoz
          clear k2 hFz hoz hg14 Hown Hown5
          obtain ⟨⟨s0, s1, s2, s3⟩, -⟩ := blk4r Hkz.out
          have hnz1 : ((nz : Int) == 0) = false := by simp; omega
          have hnzi : 0 < (nz : Int) := by omega
          have hnz64 : (nz : Int) ≤ 64 := by omega
          have Hnz0 := Lib.hid hnz0
          have hnz00 : ¬ nz = 0 := by omega
          clear hnz0 hfew
          by_cases hp0 : np = 0
          · skip
            subst hp0
            obtain ⟨q, hq⟩ : ∃ q : Nat, 0 = q := ⟨_, rfl⟩
            have hqn : q < nz := by have := Hnz0.out; omega
            have hqt : Int.tmod 0 (nz : Int) = (q : Int) := by rw [← hq]; simp
            have hqm : (0 : Int) % (nz : Int) = (q : Int) := by rw [← hq]; simp
            clear hq
            have hqi : (q : Int) < (nz : Int) := by omega
            have hqx : q < zn.length := by rw [Hnz.out]; exact hqn
            have Hrow : Hid (∃ b o, A14 = some ⟨b, o, none⟩ ∧ ∀ W, Below wc.heap.size wc W → W.cell? ⟨b, o + q * 2, none⟩ = some (.int .i64 (zn[q]'hqx).lan) ∧ W.cell? ⟨b, o + q * 2 + 1, none⟩ = some (.int .i64 (zn[q]'hqx).id)) := Lib.hid (by
              have hr := (OwnR.rows (C := 2) (cells := Hp.cells) (fun _ => rfl) Hoz.out).2
              obtain ⟨b, o, hA, -⟩ := row_hp hr q hqx
              refine ⟨b, o, hA, fun W hW => ?_⟩
              obtain ⟨b', o', hA', -, t0, t1⟩ := row_hp (hr.below hW) q hqx
              rw [hA] at hA'
              cases hA'
              exact ⟨t0, t1⟩)
            obtain ⟨bx, ox, hAx, hxc⟩ := Hrow.out
            have hy := loop_hop HD.out HF.out Hch.out.may Hch.out.has (List.getElem_mem hqx)
            have hnx := fun h => Going.next HD.out HF.out HTr.out Hgo.out Hto.out Hch.out (List.getElem_mem hqx) h
            generalize (zn[q]'hqx) = y at hxc hy hnx Hrow
            obtain ⟨y1, y2⟩ := y
            simp only at hxc hy hnx
            have Hy := Lib.hid hy
            have Hnx := Lib.hid hnx
            have Hxc := Lib.hid hxc
            have Hcki := Lib.hid (And.intro Hch.out.kind Hch.out.ide)
            subst hAx
            clear hy hnx hxc Hrow hqx hqn
            go_wp2
            refine wp_region_F (F := fun W => Below wc.heap.size wc W) (n := 10) (m := 11) (s := #[false, false, false, false, false, false, false, false, false, false, false]) (by kernel_rfl) (by kernel_rfl) (by kernel_rfl) ?_
            intro wd2 hwd
            have hF : Below wc.heap.size wc wd2 := by rw [hwd.out]; exact (Below.refl _ _).drew
            clear hwd
            refine F_take (i := 0) (d := some 93) (by kernel_rfl) (by kernel_rfl) (by decide) (s' := #[true, false, false, false, false, false, false, false, false, false, false]) (by kernel_rfl) rfl rfl (by kernel_rfl) (by kernel_rfl) (by kernel_rfl) (fun _ _ _ h => h) (Or.inl ⟨by kernel_rfl, fun W hW => by go_simp; try with_reducible rfl⟩) hF ?_
            go_frame
            refine F_take (i := 1) (d := some 94) (by kernel_rfl) (by kernel_rfl) (by decide) (s' := #[true, true, false, false, false, false, false, false, false, false, false]) (by kernel_rfl) rfl rfl (by kernel_rfl) (by kernel_rfl) (by kernel_rfl) (fun _ _ _ h => h) (Or.inl ⟨by kernel_rfl, fun W hW => by have s3 := cellIn s3 hW; go_simp; try with_reducible rfl⟩) hF ?_
            go_frame
            refine F_take (i := 2) (d := some 95) (by kernel_rfl) (by kernel_rfl) (by decide) (s' := #[true, true, true, false, false, false, false, false, false, false, false]) (by kernel_rfl) rfl rfl (by kernel_rfl) (by kernel_rfl) (by kernel_rfl) (fun _ _ _ h => h) (Or.inl ⟨by kernel_rfl, fun W hW => by go_simp; try with_reducible rfl⟩) hF ?_
            go_frame
            refine F_take (i := 3) (d := some 96) (by kernel_rfl) (by kernel_rfl) (by decide) (s' := #[true, true, true, true, false, false, false, false, false, false, false]) (by kernel_rfl) rfl rfl (by kernel_rfl) (by kernel_rfl) (by kernel_rfl) (fun _ _ _ h => h) (Or.inl ⟨by kernel_rfl, fun W hW => by go_simp; try with_reducible rfl⟩) hF ?_
            go_frame
            refine F_take (i := 4) (d := some 97) (by kernel_rfl) (by kernel_rfl) (by decide) (s' := #[true, true, true, true, true, false, false, false, false, false, false]) (by kernel_rfl) rfl rfl (by kernel_rfl) (by kernel_rfl) (by kernel_rfl) (fun _ _ _ h => h) (Or.inl ⟨by kernel_rfl, fun W hW => by have s3 := cellIn s3 hW; go_simp; try with_reducible rfl⟩) hF ?_
            go_frame
            refine F_take (i := 5) (d := some 98) (by kernel_rfl) (by kernel_rfl) (by decide) (s' := #[true, true, true, true, true, true, false, false, false, false, false]) (by kernel_rfl) rfl rfl (by kernel_rfl) (by kernel_rfl) (by kernel_rfl) (fun _ _ _ h => h) (Or.inl ⟨by kernel_rfl, fun W hW => by go_simp; try with_reducible rfl⟩) hF ?_
            go_frame
            refine F_take (i := 6) (d := some 99) (by kernel_rfl) (by kernel_rfl) (by decide) (s' := #[true, true, true, true, true, true, true, false, false, false, false]) (by kernel_rfl) rfl rfl (by kernel_rfl) (by kernel_rfl) (by kernel_rfl) (fun _ _ _ h => h) (Or.inl ⟨by kernel_rfl, fun W hW => by go_simp; try with_reducible rfl⟩) hF ?_
            go_frame
            refine F_take (i := 7) (d := some 100) (by kernel_rfl) (by kernel_rfl) (by decide) (s' := #[true, true, true, true, true, true, true, true, false, false, false]) (by kernel_rfl) rfl rfl (by kernel_rfl) (by kernel_rfl) (by kernel_rfl) (fun _ _ _ h => h) (Or.inl ⟨by kernel_rfl, fun W hW => by go_simp; try with_reducible rfl⟩) hF ?_
            go_frame
            refine F_take (i := 8) (d := some 101) (by kernel_rfl) (by kernel_rfl) (by decide) (s' := #[true, true, true, true, true, true, true, true, true, false, false]) (by kernel_rfl) rfl rfl (by kernel_rfl) (by kernel_rfl) (by kernel_rfl) (fun _ _ _ h => h) (Or.inl ⟨by kernel_rfl, fun W hW => by obtain ⟨hx0, hx1⟩ := Hxc.out W hW; go_simp; try with_reducible rfl⟩) hF ?_
            go_frame
            obtain ⟨we2, hV⟩ : ∃ v, wd2.alloc (.cells #[.int .i64 0, .int .i64 0] 95) = v := ⟨_, rfl⟩
            have hbe := below_new wd2 (.cells #[.int .i64 0, .int .i64 0] 95)
            have ke := Blk.new wd2 95 #[.int .i64 0, .int .i64 0]
            obtain ⟨g17, hg17⟩ : ∃ p, wd2.heap.size = p := ⟨_, rfl⟩
            rw [hV] at hbe ke
            rw [hg17] at ke
            have hgw : wc.heap.size ≤ g17 := by rw [← hg17]; exact hF.size
            have hFe := below_trans hF hF.size hbe
            refine F_one (i := 9) (s' := #[true, true, true, true, true, true, true, true, true, true, false]) (by kernel_rfl) (by kernel_rfl) (wpOp_valueL (i := 9) (d := some 17) (w' := we2) (v := .pointer (some ⟨g17, 0, none⟩)) rfl rfl (by kernel_rfl) (by go_simp) ⟨fun _ => hFe, ?_⟩)
            go_frame
            clear hV hg17 hbe
            have k2' := ((ke.set_ 0 (.int .i64 y1)).set_ 1 (.int .i64 y2)).to (cs' := #[.int .i64 y1, .int .i64 y2]) (by simp)
            have hFz := (hFe.setCell (p := ⟨g17, 0, none⟩) hgw (.int .i64 y1)).setCell (p := ⟨g17, 1, none⟩) hgw (.int .i64 y2)
            obtain ⟨c0, c1, cf0, cf1⟩ := ke.cells2
            obtain ⟨wy, hwy⟩ : ∃ v, (we2.setCell ⟨g17, 0, none⟩ (.int .i64 y1)).setCell ⟨g17, 1, none⟩ (.int .i64 y2) = v := ⟨_, rfl⟩
            rw [hwy] at k2' hFz
            refine F_one (i := 10) (s' := #[true, true, true, true, true, true, true, true, true, true, true]) (by kernel_rfl) (by kernel_rfl) (wpOp_skipL (i := 10) (w' := wy) rfl rfl (by kernel_rfl) (by go_simp) ⟨fun h => absurd h (by decide), ?_⟩)
            go_frame
            refine F_done (by kernel_rfl) ?_ _
            have Hkh := Lib.hid k2'
            have HbY := Lib.hid (below_trans Hbz.out Hbz.out.size hFz)
            have HownY := Lib.hid (Hownz.out.below hFz)
            clear k2' hFz c0 c1 cf0 cf1 hwy ke hFe hF hgw s0 s1 s2 s3 hqm hqt hqi
            obtain ⟨h0, h1, -, -⟩ := Hkh.out.cells2
            obtain ⟨z0, z1, -, -⟩ := HX.out _ HbY.out
            by_cases hz2 : y2 = 0
            · have e3 : (y2 == 0) = true := by simp [hz2]
              obtain ⟨hk2, hl2⟩ := Hy.out.1 hz2
              have e4 : (kd == 2) = true := by rw [← Hcki.out.1]; simp [hk2]
              have e5 : (y1 == id) = true := by rw [← Hcki.out.2]; simp [hl2]
              clear hz2 hk2 hl2
              go_wp2
              go_quiet (fail)
              go_wp2
              go_ret2
              exact ⟨⟨_, P ++ [(n : Int)], true, rfl, (HownY.out.below (Below.refl _ _).drew).lower Hb1.out.size, Hgo.out.nodup, by have := HPk.out; have := Hk14.out; simp; omega, ⟨fun _ => .inl Hto.out, fun _ => rfl⟩⟩, below_drewN (below_trans Hb1.out Hb1.out.size HbY.out) _⟩
            · have e3 : (y2 == 0) = false := by simp [hz2]
              have Hg2 := Lib.hid (Hnx.out hz2)
              obtain ⟨⟨hr1, hr2⟩, -⟩ := Hy.out.2 hz2
              obtain ⟨n2, hn2⟩ : ∃ n2 : Nat, y2 = (n2 : Int) := ⟨y2.toNat, by omega⟩
              subst hn2
              clear hz2 hr1 hr2
              go_wp2
              go_roundw
              case measure => have := Hk14.out; simp [intOf]; omega
              case rel => exact ⟨k + 1, n2, P ++ [(n : Int)], A5, c5, by go_num, rfl, by go_num, Hg2.out, HownY.out, HbY.out⟩
          · skip
            have hpi0 : 0 < (np : Int) := by omega
            have Hp0 := Lib.hid hp0
            obtain ⟨p, hp⟩ : ∃ p, k % np = p := ⟨_, rfl⟩
            have hpn : p < np := by rw [← hp]; exact Nat.mod_lt _ (Nat.pos_of_ne_zero hp0)
            have hpp : p < pk.length := by rw [Hnp.out]; exact hpn
            have hpi : (p : Int) < (np : Int) := by omega
            have hkm : (k : Int) % (np : Int) = (p : Int) := by rw [← hp]; exact_mod_cast rfl
            have hkt : Int.tmod (k : Int) (np : Int) = (p : Int) := by rw [cmodW, hp]
            have hpv8 := HP8.out _ (List.getElem_mem hpp)
            obtain ⟨bp, op, hAp, -, hpc⟩ := row_pkW (HP1.out.below Hbz.out) p hpp
            generalize (pk[p]'hpp) = pv at hpc hpv8
            have hpv : (pv : Int) ≤ 255 := by omega
            obtain ⟨q, hq⟩ : ∃ q, pv % nz = q := ⟨_, rfl⟩
            have hqn : q < nz := by rw [← hq]; exact Nat.mod_lt _ Hnz0.out
            have hqm : (pv : Int) % (nz : Int) = (q : Int) := by rw [← hq]; exact_mod_cast rfl
            have hqt : Int.tmod (pv : Int) (nz : Int) = (q : Int) := by rw [cmodW, hq]
            have hpw : IntKind.i64.wrap (pv : Int) = (pv : Int) := (wrap_small (z := (pv : Int)) (by omega) (by omega)).1
            subst hAp
            have hnp50i : (np : Int) ≤ 50 := by omega
            have hp00 : ¬ np = 0 := hp0
            clear hp hpn hpp hpv8 hq hp0
            have hqi : (q : Int) < (nz : Int) := by omega
            have hqx : q < zn.length := by rw [Hnz.out]; exact hqn
            have Hrow : Hid (∃ b o, A14 = some ⟨b, o, none⟩ ∧ ∀ W, Below wc.heap.size wc W → W.cell? ⟨b, o + q * 2, none⟩ = some (.int .i64 (zn[q]'hqx).lan) ∧ W.cell? ⟨b, o + q * 2 + 1, none⟩ = some (.int .i64 (zn[q]'hqx).id)) := Lib.hid (by
              have hr := (OwnR.rows (C := 2) (cells := Hp.cells) (fun _ => rfl) Hoz.out).2
              obtain ⟨b, o, hA, -⟩ := row_hp hr q hqx
              refine ⟨b, o, hA, fun W hW => ?_⟩
              obtain ⟨b', o', hA', -, t0, t1⟩ := row_hp (hr.below hW) q hqx
              rw [hA] at hA'
              cases hA'
              exact ⟨t0, t1⟩)
            obtain ⟨bx, ox, hAx, hxc⟩ := Hrow.out
            have hy := loop_hop HD.out HF.out Hch.out.may Hch.out.has (List.getElem_mem hqx)
            have hnx := fun h => Going.next HD.out HF.out HTr.out Hgo.out Hto.out Hch.out (List.getElem_mem hqx) h
            generalize (zn[q]'hqx) = y at hxc hy hnx Hrow
            obtain ⟨y1, y2⟩ := y
            simp only at hxc hy hnx
            have Hy := Lib.hid hy
            have Hnx := Lib.hid hnx
            have Hxc := Lib.hid hxc
            have Hcki := Lib.hid (And.intro Hch.out.kind Hch.out.ide)
            subst hAx
            clear hy hnx hxc Hrow hqx hqn
            go_wp2
            refine wp_region_F (F := fun W => Below wc.heap.size wc W) (n := 10) (m := 11) (s := #[false, false, false, false, false, false, false, false, false, false, false]) (by kernel_rfl) (by kernel_rfl) (by kernel_rfl) ?_
            intro wd2 hwd
            have hF : Below wc.heap.size wc wd2 := by rw [hwd.out]; exact (Below.refl _ _).drew
            clear hwd
            refine F_take (i := 0) (d := some 93) (by kernel_rfl) (by kernel_rfl) (by decide) (s' := #[true, false, false, false, false, false, false, false, false, false, false]) (by kernel_rfl) rfl rfl (by kernel_rfl) (by kernel_rfl) (by kernel_rfl) (fun _ _ _ h => h) (Or.inl ⟨by kernel_rfl, fun W hW => by go_simp; try with_reducible rfl⟩) hF ?_
            go_frame
            refine F_take (i := 1) (d := some 94) (by kernel_rfl) (by kernel_rfl) (by decide) (s' := #[true, true, false, false, false, false, false, false, false, false, false]) (by kernel_rfl) rfl rfl (by kernel_rfl) (by kernel_rfl) (by kernel_rfl) (fun _ _ _ h => h) (Or.inl ⟨by kernel_rfl, fun W hW => by have s3 := cellIn s3 hW; go_simp; try with_reducible rfl⟩) hF ?_
            go_frame
            refine F_take (i := 2) (d := some 95) (by kernel_rfl) (by kernel_rfl) (by decide) (s' := #[true, true, true, false, false, false, false, false, false, false, false]) (by kernel_rfl) rfl rfl (by kernel_rfl) (by kernel_rfl) (by kernel_rfl) (fun _ _ _ h => h) (Or.inl ⟨by kernel_rfl, fun W hW => by go_simp; try with_reducible rfl⟩) hF ?_
            go_frame
            refine F_take (i := 3) (d := some 96) (by kernel_rfl) (by kernel_rfl) (by decide) (s' := #[true, true, true, true, false, false, false, false, false, false, false]) (by kernel_rfl) rfl rfl (by kernel_rfl) (by kernel_rfl) (by kernel_rfl) (fun _ _ _ h => h) (Or.inl ⟨by kernel_rfl, fun W hW => by go_simp; try with_reducible rfl⟩) hF ?_
            go_frame
            refine F_take (i := 4) (d := some 97) (by kernel_rfl) (by kernel_rfl) (by decide) (s' := #[true, true, true, true, true, false, false, false, false, false, false]) (by kernel_rfl) rfl rfl (by kernel_rfl) (by kernel_rfl) (by kernel_rfl) (fun _ _ _ h => h) (Or.inl ⟨by kernel_rfl, fun W hW => by have s3 := cellIn s3 hW; go_simp; try with_reducible rfl⟩) hF ?_
            go_frame
            refine F_take (i := 5) (d := some 98) (by kernel_rfl) (by kernel_rfl) (by decide) (s' := #[true, true, true, true, true, true, false, false, false, false, false]) (by kernel_rfl) rfl rfl (by kernel_rfl) (by kernel_rfl) (by kernel_rfl) (fun _ _ _ h => h) (Or.inl ⟨by kernel_rfl, fun W hW => by go_simp; try with_reducible rfl⟩) hF ?_
            go_frame
            refine F_take (i := 6) (d := some 99) (by kernel_rfl) (by kernel_rfl) (by decide) (s' := #[true, true, true, true, true, true, true, false, false, false, false]) (by kernel_rfl) rfl rfl (by kernel_rfl) (by kernel_rfl) (by kernel_rfl) (fun _ _ _ h => h) (Or.inl ⟨by kernel_rfl, fun W hW => by go_simp; try with_reducible rfl⟩) hF ?_
            go_frame
            refine F_take (i := 7) (d := some 100) (by kernel_rfl) (by kernel_rfl) (by decide) (s' := #[true, true, true, true, true, true, true, true, false, false, false]) (by kernel_rfl) rfl rfl (by kernel_rfl) (by kernel_rfl) (by kernel_rfl) (fun _ _ _ h => h) (Or.inl ⟨by kernel_rfl, fun W hW => by go_simp; try with_reducible rfl⟩) hF ?_
            go_frame
            refine F_take (i := 8) (d := some 101) (by kernel_rfl) (by kernel_rfl) (by decide) (s' := #[true, true, true, true, true, true, true, true, true, false, false]) (by kernel_rfl) rfl rfl (by kernel_rfl) (by kernel_rfl) (by kernel_rfl) (fun _ _ _ h => h) (Or.inl ⟨by kernel_rfl, fun W hW => by obtain ⟨hx0, hx1⟩ := Hxc.out W hW; go_simp; try with_reducible rfl⟩) hF ?_
            go_frame
            obtain ⟨we2, hV⟩ : ∃ v, wd2.alloc (.cells #[.int .i64 0, .int .i64 0] 95) = v := ⟨_, rfl⟩
            have hbe := below_new wd2 (.cells #[.int .i64 0, .int .i64 0] 95)
            have ke := Blk.new wd2 95 #[.int .i64 0, .int .i64 0]
            obtain ⟨g17, hg17⟩ : ∃ p, wd2.heap.size = p := ⟨_, rfl⟩
            rw [hV] at hbe ke
            rw [hg17] at ke
            have hgw : wc.heap.size ≤ g17 := by rw [← hg17]; exact hF.size
            have hFe := below_trans hF hF.size hbe
            refine F_one (i := 9) (s' := #[true, true, true, true, true, true, true, true, true, true, false]) (by kernel_rfl) (by kernel_rfl) (wpOp_valueL (i := 9) (d := some 17) (w' := we2) (v := .pointer (some ⟨g17, 0, none⟩)) rfl rfl (by kernel_rfl) (by go_simp) ⟨fun _ => hFe, ?_⟩)
            go_frame
            clear hV hg17 hbe
            have k2' := ((ke.set_ 0 (.int .i64 y1)).set_ 1 (.int .i64 y2)).to (cs' := #[.int .i64 y1, .int .i64 y2]) (by simp)
            have hFz := (hFe.setCell (p := ⟨g17, 0, none⟩) hgw (.int .i64 y1)).setCell (p := ⟨g17, 1, none⟩) hgw (.int .i64 y2)
            obtain ⟨c0, c1, cf0, cf1⟩ := ke.cells2
            obtain ⟨wy, hwy⟩ : ∃ v, (we2.setCell ⟨g17, 0, none⟩ (.int .i64 y1)).setCell ⟨g17, 1, none⟩ (.int .i64 y2) = v := ⟨_, rfl⟩
            rw [hwy] at k2' hFz
            refine F_one (i := 10) (s' := #[true, true, true, true, true, true, true, true, true, true, true]) (by kernel_rfl) (by kernel_rfl) (wpOp_skipL (i := 10) (w' := wy) rfl rfl (by kernel_rfl) (by go_simp) ⟨fun h => absurd h (by decide), ?_⟩)
            go_frame
            refine F_done (by kernel_rfl) ?_ _
            have Hkh := Lib.hid k2'
            have HbY := Lib.hid (below_trans Hbz.out Hbz.out.size hFz)
            have HownY := Lib.hid (Hownz.out.below hFz)
            clear k2' hFz c0 c1 cf0 cf1 hwy ke hFe hF hgw s0 s1 s2 s3 hqm hqt hqi
            obtain ⟨h0, h1, -, -⟩ := Hkh.out.cells2
            obtain ⟨z0, z1, -, -⟩ := HX.out _ HbY.out
            by_cases hz2 : y2 = 0
            · have e3 : (y2 == 0) = true := by simp [hz2]
              obtain ⟨hk2, hl2⟩ := Hy.out.1 hz2
              have e4 : (kd == 2) = true := by rw [← Hcki.out.1]; simp [hk2]
              have e5 : (y1 == id) = true := by rw [← Hcki.out.2]; simp [hl2]
              clear hz2 hk2 hl2
              go_wp2
              go_quiet (fail)
              go_wp2
              go_ret2
              exact ⟨⟨_, P ++ [(n : Int)], true, rfl, (HownY.out.below (Below.refl _ _).drew).lower Hb1.out.size, Hgo.out.nodup, by have := HPk.out; have := Hk14.out; simp; omega, ⟨fun _ => .inl Hto.out, fun _ => rfl⟩⟩, below_drewN (below_trans Hb1.out Hb1.out.size HbY.out) _⟩
            · have e3 : (y2 == 0) = false := by simp [hz2]
              have Hg2 := Lib.hid (Hnx.out hz2)
              obtain ⟨⟨hr1, hr2⟩, -⟩ := Hy.out.2 hz2
              obtain ⟨n2, hn2⟩ : ∃ n2 : Nat, y2 = (n2 : Int) := ⟨y2.toNat, by omega⟩
              subst hn2
              clear hz2 hr1 hr2
              go_wp2
              go_roundw
              case measure => have := Hk14.out; simp [intOf]; omega
              case rel => exact ⟨k + 1, n2, P ++ [(n : Int)], A5, c5, by go_num, rfl, by go_num, Hg2.out, HownY.out, HbY.out⟩
end

end Go.Proofs.YtpnbibokddhheaaGreat
