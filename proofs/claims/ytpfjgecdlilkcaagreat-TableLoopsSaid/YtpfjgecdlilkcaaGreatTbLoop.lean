/-
  Layer 22 in plain words: hop by hop it gets nearer.
-/
import Derived.Test.YtpfjgecdlilkcaaGreatTbLaws
namespace Go.Proofs.YtpfjgecdlilkcaaGreat

def HasRt (E : List Ed) (DD : Vx → Vx → Option Val2) (F : List Lf) (s : Int) (x : Rt) : Prop := ∃ L R, TreeIs E DD ⟨1, s⟩ L ∧ RoutesAre s L F R ∧ x ∈ R
section
variable {E : List Ed} {DD : Vx → Vx → Option Val2} {F : List Lf} {s : Int} {x z : Rt}
theorem rt_unique (hD : Dists E DD) (h : HasRt E DD F s x) (h' : HasRt E DD F s z) (hk : x.kind = z.kind) (hi : x.id = z.id) : x = z := by
  obtain ⟨L, R, hT, hA, hx⟩ := h
  obtain ⟨L', R', hT', hA', hz⟩ := h'
  have hL := tree_unique hD hD hT hT' fun _ _ => Iff.rfl
  subst hL
  have hR := routes_unique hA hA'
  subst hR
  exact route_one (hA.sorted hT.sorted) hx hz hk hi
theorem hop_there {L : List Nk} (hD : Dists E DD) (hT : TreeIs E DD ⟨1, s⟩ L) {n : Nk} (hn : n ∈ L) (hv : n.v ≠ ⟨1, s⟩) : n.next ≠ [] := by
  rcases isHop_some hD rfl _ _ (hT.val n hn) with e | ⟨y, hy⟩
  · exact absurd e hv
  · exact List.ne_nil_of_mem (((hT.next n hn).2 y).2 hy)
theorem loop_next (hD : Dists E DD) (h : HasRt E DD F s x) : x.next ≠ [] := by
  obtain ⟨L, R, hT, hA, hx⟩ := h
  rcases hA.kinds x hx with hk | hk
  · obtain ⟨n, hn, hv, hne, -, e⟩ := (hA.router hk).1 hx
    rw [e]
    exact hop_there hD hT hn (by rw [hv]; intro g; exact hne (congrArg Vx.id g))
  · obtain ⟨-, g⟩ := (hA.net hk).1 hx
    obtain ⟨p, hp, hc⟩ := g.had
    have hne : p.2 ≠ [] := by
      rcases mem_endsV.1 hp with ⟨n, hn, h1, -, rfl⟩ | ⟨f, hf, n, hn, -, h2, rfl⟩
      · refine hop_there hD hT hn ?_
        intro g
        rw [g] at h1
        have h2 : (1 : Int) = 2 := h1
        omega
      · simp only
        split
        · simp
        · rename_i hr
          refine hop_there hD hT hn ?_
          rw [h2]
          intro g
          exact hr (congrArg Vx.id g)
    obtain ⟨y, hy⟩ := List.exists_mem_of_ne_nil _ hne
    exact List.ne_nil_of_mem ((g.mem y).2 ⟨p, hp, hc, hy⟩)
theorem loop_hop (hD : Dists E DD) (_hF : LeavesOk F) (hs : mayV ⟨1, s⟩ = true) (h : HasRt E DD F s x) {y : Hp} (hy : y ∈ x.next) :
    (y.id = 0 → x.kind = 2 ∧ y.lan = x.id) ∧ (y.id ≠ 0 → (1 ≤ y.id ∧ y.id ≤ 15) ∧ (¬ (x.kind = 1 ∧ y.id = x.id) → ∀ L' R', TreeIs E DD ⟨1, y.id⟩ L' → RoutesAre y.id L' F R' → ∃ z ∈ R', z.kind = x.kind ∧ z.id = x.id ∧ z.cost < x.cost)) := by
  obtain ⟨L, R, hT, hA, hx⟩ := h
  rcases hA.kinds x hx with hk | hk
  · obtain ⟨n, hn, hv, hne, hc, e⟩ := (hA.router hk).1 hx
    rw [e] at hy
    have hst := isHop_steps hD rfl hs (hT.val n hn) (((hT.next n hn).2 y).1 hy)
    rcases hst with ⟨h0, h2, -, -⟩ | ⟨h0, -, hrg, b, w, hb, hw, hsum, hpos⟩
    · rw [hv] at h2
      have h3 : (1 : Int) = 2 := h2
      omega
    · refine ⟨fun g => absurd g h0, fun _ => ⟨hrg, fun hnot L' R' hT' hA' => ?_⟩⟩
      obtain ⟨m, hm, hmv⟩ := hT'.has _ _ hb
      have hmb := hT'.val m hm
      rw [hmv, hb] at hmb
      injection hmb with hmb
      refine ⟨⟨1, x.id, m.a.c, m.next⟩, (hA'.router rfl).2 ⟨m, hm, by rw [hmv, hv], fun e2 => hnot ⟨hk, e2.symm⟩, rfl, rfl⟩, hk.symm, rfl, ?_⟩
      rw [hc, ← hmb]
      simp only
      omega
  · obtain ⟨⟨hr0, hr3⟩, g⟩ := (hA.net hk).1 hx
    obtain ⟨p, hp, hc, hyp⟩ := (g.mem y).1 hy
    rcases mem_endsV.1 hp with ⟨n, hn, h1, h2, rfl⟩ | ⟨f, hf, n, hn, h1, h2, rfl⟩
    · simp only at hyp hc
      have hst := isHop_steps hD rfl hs (hT.val n hn) (((hT.next n hn).2 y).1 hyp)
      rcases hst with ⟨h0, -, h3, -⟩ | ⟨h0, -, hrg, b, w, hb, hw, hsum, hpos⟩
      · exact ⟨fun _ => ⟨hk, by rw [← h3, h2]⟩, fun g => absurd h0 g⟩
      · refine ⟨fun g => absurd g h0, fun _ => ⟨hrg, fun _ L' R' hT' hA' => ?_⟩⟩
        obtain ⟨m, hm, hmv⟩ := hT'.has _ _ hb
        have hmb := hT'.val m hm
        rw [hmv, hb] at hmb
        injection hmb with hmb
        obtain ⟨z, hz, hzk, hzi, hzc, -⟩ := net_has hA' hr0 hr3 (p := (m.a.c, m.next)) (mem_endsV.2 (.inl ⟨m, hm, by rw [hmv]; exact h1, by rw [hmv]; exact h2, rfl⟩))
        refine ⟨z, hz, by rw [hzk, hk], hzi, ?_⟩
        rw [← hmb] at hzc
        simp only at hzc
        omega
    · simp only at hyp hc
      split at hyp
      · rw [List.mem_singleton] at hyp
        subst hyp
        exact ⟨fun _ => ⟨hk, rfl⟩, fun g => absurd rfl g⟩
      · have hst := isHop_steps hD rfl hs (hT.val n hn) (((hT.next n hn).2 y).1 hyp)
        rcases hst with ⟨h0, h3, -, -⟩ | ⟨h0, -, hrg, b, w, hb, hw, hsum, hpos⟩
        · rw [h2] at h3
          have h4 : (1 : Int) = 2 := h3
          omega
        · refine ⟨fun g => absurd g h0, fun _ => ⟨hrg, fun _ L' R' hT' hA' => ?_⟩⟩
          obtain ⟨m, hm, hmv⟩ := hT'.has _ _ hb
          have hmb := hT'.val m hm
          rw [hmv, hb] at hmb
          injection hmb with hmb
          obtain ⟨z, hz, hzk, hzi, hzc, -⟩ := net_has hA' hr0 hr3 (p := _) (mem_endsV.2 (.inr ⟨f, hf, m, hm, h1, by rw [hmv, h2], rfl⟩))
          refine ⟨z, hz, by rw [hzk, hk], hzi, ?_⟩
          simp only at hzc
          rw [← hmb] at hzc
          omega
/-- the routers that were passed -/
structure Chain (E : List Ed) (DD : Vx → Vx → Option Val2) (F : List Lf) (kd id : Int) (s : Int) (x : Rt) (S : List Int) : Prop where
  may : mayV ⟨1, s⟩ = true
  has : HasRt E DD F s x
  kind : x.kind = kd
  ide : x.id = id
  nodup : S.Nodup
  all : ∀ t ∈ S, (1 ≤ t ∧ t ≤ 15) ∧ ∃ z, HasRt E DD F t z ∧ z.kind = kd ∧ z.id = id ∧ x.cost ≤ z.cost
theorem Chain.start {kd id : Int} (hm : mayV ⟨1, s⟩ = true) (h : HasRt E DD F s x) (hk : x.kind = kd) (hi : x.id = id) : Chain E DD F kd id s x [s] where
  may := hm
  has := h
  kind := hk
  ide := hi
  nodup := by simp
  all := by
    intro t ht
    rw [List.mem_singleton] at ht
    subst ht
    refine ⟨?_, x, h, hk, hi, Nat.le_refl _⟩
    rcases mayV_iff.1 hm with ⟨-, h1, h2⟩ | ⟨h1, -⟩
    · exact ⟨h1, h2⟩
    · have h2 : (1 : Int) = 2 := h1
      omega
theorem Chain.next {kd id t : Int} {S : List Int} (hD : Dists E DD) (h : Chain E DD F kd id s x S) (ht : 1 ≤ t ∧ t ≤ 15) (hz : HasRt E DD F t z) (hk : z.kind = kd) (hi : z.id = id) (hc : z.cost < x.cost) : Chain E DD F kd id t z (t :: S) where
  may := mayV_iff.2 (.inl ⟨rfl, ht.1, ht.2⟩)
  has := hz
  kind := hk
  ide := hi
  nodup := by
    rw [List.nodup_cons]
    refine ⟨fun hm => ?_, h.nodup⟩
    obtain ⟨-, y, hy, hyk, hyi, hyc⟩ := h.all t hm
    have := rt_unique hD hy hz (hyk.trans hk.symm) (hyi.trans hi.symm)
    rw [this] at hyc
    omega
  all := by
    intro u hu
    rcases List.mem_cons.1 hu with rfl | hu
    · exact ⟨ht, z, hz, hk, hi, Nat.le_refl _⟩
    · obtain ⟨h1, y, hy, hyk, hyi, hyc⟩ := h.all u hu
      exact ⟨h1, y, hy, hyk, hyi, by omega⟩
theorem Chain.len {kd id : Int} {S : List Int} (h : Chain E DD F kd id s x S) : S.length ≤ 15 := by
  have := nodup_len S ((List.range 15).map fun i : Nat => (i : Int) + 1) h.nodup fun t ht => by
    obtain ⟨⟨h1, h2⟩, -⟩ := h.all t ht
    exact List.mem_map.2 ⟨(t - 1).toNat, by rw [List.mem_range]; omega, by omega⟩
  simpa using this
end

end Go.Proofs.YtpfjgecdlilkcaaGreat
