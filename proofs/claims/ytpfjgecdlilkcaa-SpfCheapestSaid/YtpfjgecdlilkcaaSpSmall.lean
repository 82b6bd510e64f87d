/-
  Layer 21 in plain words: how many hops there may be.
-/
import Derived.Test.YtpfjgecdlilkcaaSpHops
namespace Go.Proofs.Ytpfjgecdlilkcaa

def okHp (h : Hp) : Prop := (0 ≤ h.lan ∧ h.lan ≤ 3) ∧ (0 ≤ h.id ∧ h.id ≤ 15)
def allHp : List Hp := (List.range 4).flatMap fun i : Nat => (List.range 16).map fun j : Nat => (⟨(i : Int), (j : Int)⟩ : Hp)
theorem mem_allHp {h : Hp} (ho : okHp h) : h ∈ allHp := by
  obtain ⟨⟨h1, h2⟩, h3, h4⟩ := ho
  obtain ⟨a, b⟩ := h
  simp only at h1 h2 h3 h4
  unfold allHp
  rw [List.mem_flatMap]
  refine ⟨a.toNat, by rw [List.mem_range]; omega, ?_⟩
  rw [List.mem_map]
  exact ⟨b.toNat, by rw [List.mem_range]; omega, by rw [Int.toNat_of_nonneg h1, Int.toNat_of_nonneg h3]⟩
theorem hops_few {L : List Hp} (hs : L.Pairwise ltH) (ho : ∀ h ∈ L, okHp h) : L.length ≤ 64 := by
  have hn : L.Nodup := hs.imp fun {a b} h => by rintro rfl; exact ltH_irr _ h
  have := nodup_len L allHp hn fun h hh => mem_allHp (ho h hh)
  exact Nat.le_trans this (by decide)
section
variable {E : List Ed} {r : Vx} {O : List Vx} {Z : List Ed} {T : Tab}
theorem Dij.hops_ok (h : Dij E r O Z T) (hr : r.kind = 1) : ∀ v q, T v = some q → ∀ x ∈ q.next, okHp x ∧ (v.kind = 1 → x.id ≠ 0) := by
  have key : ∀ n v q, rankV v q.a = n → T v = some q → ∀ x ∈ q.next, okHp x ∧ (v.kind = 1 → x.id ≠ 0) := by
    intro n
    induction n using Nat.strongRecOn with
    | ind n ih =>
      intro v q hn hv x hx
      by_cases hvr : v = r
      · rw [hvr, h.root] at hv
        cases hv
        cases hx
      · obtain ⟨e, he, hd, p, hp, hc, hxe⟩ := ((h.next v q hv hvr).2 x).1 hx
        obtain ⟨-, hcnt, -⟩ := h.edges e he
        subst hd
        obtain ⟨hsm, hdm, hk⟩ := cntE_iff.1 hcnt
        have hlt : rankV e.src p.a < n := by
          rw [← hn]
          have := rank_step hcnt p.a
          unfold rankV stepV at this
          unfold rankV
          simp only at this
          omega
        unfold extH at hxe
        by_cases hs : e.src = r
        · rw [if_pos hs, List.mem_singleton] at hxe
          have h1 : e.fk = 1 := by rw [← hr, ← hs]; rfl
          have h2 : e.dst.kind = 2 := by show e.tk = 2; omega
          rcases mayV_iff.1 hdm with ⟨g, -⟩ | ⟨-, g1, g2⟩
          · omega
          · have g3 : (0 : Int) ≤ e.ti := g1
            have g4 : e.ti ≤ 63 := g2
            subst hxe
            exact ⟨⟨⟨by simp only; omega, by simp only; omega⟩, by simp, by simp⟩, fun g => by omega⟩
        · rw [if_neg hs, List.mem_map] at hxe
          obtain ⟨y, hy, hxy⟩ := hxe
          obtain ⟨ho, hi⟩ := ih _ hlt e.src p rfl hp y hy
          by_cases hy0 : y.id = 0
          · rw [if_pos hy0] at hxy
            have h1 : e.fk ≠ 1 := fun g => hi g hy0
            have h2 : e.dst.kind = 1 := by show e.tk = 1; omega
            rcases mayV_iff.1 hdm with ⟨-, g1, g2⟩ | ⟨g, -⟩
            · have g3 : (1 : Int) ≤ e.ti := g1
              have g4 : e.ti ≤ 15 := g2
              subst hxy
              exact ⟨⟨ho.1, by simp only; omega, by simp only; omega⟩, fun _ => by simp only; omega⟩
            · omega
          · rw [if_neg hy0] at hxy
            subst hxy
            exact ⟨ho, fun _ => hy0⟩
  exact fun v q => key _ v q rfl
theorem Dij.few (h : Dij E r O Z T) (hr : r.kind = 1) {v : Vx} {q : Pl} (hv : T v = some q) : q.next.length ≤ 64 := by
  by_cases hvr : v = r
  · rw [hvr, h.root] at hv
    cases hv
    simp
  · exact hops_few (h.next v q hv hvr).1 fun x hx => (h.hops_ok hr v q hv x hx).1
theorem Dij.low (h : Dij E r O Z T) {v : Vx} {q : Pl} (hv : T v = some q) : q.a.c ≤ 7900 ∧ q.a.h ≤ 79 := by
  have h1 := h.small v q hv
  have h2 := h.len
  omega
end

end Go.Proofs.Ytpfjgecdlilkcaa
