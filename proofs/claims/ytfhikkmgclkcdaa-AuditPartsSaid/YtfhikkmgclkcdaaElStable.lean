/-
  The walks of elect.Stable and of the example.
-/
import Derived.Test.YtfhikkmgclkcdaaProg
import Derived.Test.YtfhikkmgclkcdaaElect
namespace Go.Proofs.Ytfhikkmgclkcdaa
open Go.RowKit

theorem elect_n (self : Int) (n : Nat) (A : Option Addr) (cap : Nat) (l : List Cand) (w : World) (B : Nat) (hl : CandsAt w B A l) (hB : B ≤ w.heap.size) (hn : l.length ≤ 2 ^ 40) (hnl : n = l.length) :
    Calls Try.prog 130 #[.int .i64 self, .slice A n cap] w fun e w' => e = .returned (.tuple #[.int .i64 (elect self l).1, .int .i64 (elect self l).2]) ∧ Below w.heap.size w w' := by
  subst hnl; exact elect_any self A cap l w B hl hB hn

def stOne (l : List Cand) (c : Cand) : Bool := c.dr == (l.headD Cand.zero).dr && c.bdr == (l.headD Cand.zero).bdr && (elect c.id l).1 == c.dr && (elect c.id l).2 == c.bdr
theorem stable_all {l : List Cand} (h : ∀ j, (hj : j < l.length) → stOne l l[j] = true) : stable l = true := by
  unfold stable
  rw [List.all_eq_true]
  intro c hc
  obtain ⟨j, hj, rfl⟩ := List.getElem_of_mem hc
  exact h j hj
theorem stable_not {l : List Cand} {j : Nat} (hj : j < l.length) (h : stOne l l[j] = false) : stable l = false := by
  unfold stable
  rw [List.all_eq_false]
  exact ⟨l[j], List.getElem_mem hj, by rw [Bool.not_eq_true]; exact h⟩
theorem stOne_cases (l : List Cand) (c : Cand) :
    ((c.dr != (l.headD Cand.zero).dr) = true ∧ stOne l c = false) ∨
    ((c.dr != (l.headD Cand.zero).dr) = false ∧ (c.bdr != (l.headD Cand.zero).bdr) = true ∧ stOne l c = false) ∨
    ((c.dr != (l.headD Cand.zero).dr) = false ∧ (c.bdr != (l.headD Cand.zero).bdr) = false ∧ ((elect c.id l).1 != c.dr) = true ∧ stOne l c = false) ∨
    ((c.dr != (l.headD Cand.zero).dr) = false ∧ (c.bdr != (l.headD Cand.zero).bdr) = false ∧ ((elect c.id l).1 != c.dr) = false ∧ ((elect c.id l).2 != c.bdr) = true ∧ stOne l c = false) ∨
    ((c.dr != (l.headD Cand.zero).dr) = false ∧ (c.bdr != (l.headD Cand.zero).bdr) = false ∧ ((elect c.id l).1 != c.dr) = false ∧ ((elect c.id l).2 != c.bdr) = false ∧ stOne l c = true) := by
  unfold stOne
  simp only [bne]
  cases (c.dr == (l.headD Cand.zero).dr) <;> cases (c.bdr == (l.headD Cand.zero).bdr) <;> cases ((elect c.id l).1 == c.dr) <;> cases ((elect c.id l).2 == c.bdr) <;> simp

set_option maxHeartbeats 4000000 in
set_option maxRecDepth 100000 in
theorem stable_any (A : Option Addr) (cap : Nat) (l : List Cand) (w : World) (B : Nat) (hl : CandsAt w B A l) (hB : B ≤ w.heap.size) (hn : l.length ≤ 2 ^ 40) :
    Calls Try.prog 100 #[.slice A l.length cap] w fun e w' => e = .returned (.bool (stable l)) ∧ Below w.heap.size w w' := by
  have hl := hl.more hB
  have Hl := Lib.hid hl
  have Hn := Lib.hid hn
  have hn64 : l.length ≤ 1099511627776 := hn
  clear hl hB
  go_enter Try.func100, Try.ntmps100
  go_wp2
  go_loopw [9] (fun i wr => ∃ k : Nat, k ≤ l.length ∧ i = .int .i64 k ∧ (∀ j, (hj : j < k) → (hjl : j < l.length) → stOne l l[j] = true) ∧ Below w.heap.size w wr) (fun i _ => l.length - (intOf i).toNat)
  case atStart => exact ⟨0, Nat.zero_le _, rfl, fun j hj => absurd hj (Nat.not_lt_zero _), Below.refl _ _⟩
  case round =>
    obtain ⟨k, hk, rfl, hst, hb⟩ := hrel
    have Hst := Lib.hid hst
    clear hst
    by_cases hlt : k < l.length
    · obtain ⟨b, o, rfl, hbB, e0, e1, e2, e3⟩ := CandsAt.at_ (CandsAt.below Hl.out hb) k hlt
      obtain ⟨b', o', hbo, _, d0, d1, d2, d3⟩ := CandsAt.at_ (CandsAt.below Hl.out hb) 0 (by omega)
      cases hbo
      simp only [Nat.zero_mul, Nat.add_zero] at d0 d1 d2 d3
      have hh : l.headD Cand.zero = l[0]'(by omega) := by
        rcases l with _ | ⟨c, l⟩
        · exact absurd hlt (Nat.not_lt_zero _)
        · rfl
      have hcs := stOne_cases l l[k]
      have hnot := fun h => stable_not hlt h
      rw [hh] at hcs
      have hp : (0 : Int) < (l.length : Int) := by omega
      have hck : ∀ c, l[k] = c → ∀ P : Prop, (stOne l c = true → P) → stOne l l[k] = true → P := fun c h P f g => f (h ▸ g)
      generalize hc : l[k] = c at *
      generalize l[0] = z at *
      have Hc := Lib.hid hc
      generalize hel : elect c.id l = el at *
      have Hel := Lib.hid hel
      rcases c with ⟨ci, cpr, cd, cb⟩
      rcases z with ⟨zi, zp, zd, zb⟩
      rcases el with ⟨x, y⟩
      clear hc hck hel hh
      have hbs : ∀ o, Below w.heap.size w (wr.alloc o) := fun o => hb.alloc hb.size o
      have Hbs := Lib.hid hbs
      have hfar : ∀ ob w1, Below (wr.alloc ob).heap.size (wr.alloc ob) w1 → (w1.cell? ⟨b, o, none⟩ = wr.cell? ⟨b, o, none⟩) ∧ ∀ j, w1.cell? ⟨b, o + j, none⟩ = wr.cell? ⟨b, o + j, none⟩ := by
        intro ob w1 h
        have hbw : b < wr.heap.size := Nat.lt_of_lt_of_le hbB hb.size
        exact ⟨(h.cell (by simp; omega)).trans (World.cell?_alloc_lt _ _ _ hbw), fun j => (h.cell (by simp; omega)).trans (World.cell?_alloc_lt _ _ _ hbw)⟩
      have Hfar := Lib.hid hfar
      clear hbs hfar
      rcases hcs with ⟨h1, hx⟩ | ⟨h1, h2, hx⟩ | ⟨h1, h2, h3, hx⟩ | ⟨h1, h2, h3, h4, hx⟩ | ⟨h1, h2, h3, h4, hx⟩
      all_goals
        have Hx := Lib.hid hx
        have Hnot := Lib.hid hnot
        clear hx hnot
        go_wp2_with (go_at_call 130; (with_reducible refine Calls.mono (elect_any ci _ cap l _ _ (CandsAt.of Hl.out (Hbs.out _) (Hbs.out _).size) (Nat.le_refl _) Hn.out) ?_); rw [Hel.out]; rintro e w1 ⟨rfl, hb1⟩; have hT := (Blk.new _ _ _).below hb1 (by simp); obtain ⟨x0, x1, x2, x3, _, _, _, _⟩ := hT.cells4; have Hb1 := Lib.hid ((Hbs.out _).trans (hb1.mono (Hbs.out _).size)); have z2 := ((Hfar.out _ _ hb1).2 2).trans d2; have z3 := ((Hfar.out _ _ hb1).2 3).trans d3; have HT := Lib.hid hT; clear hb1 hT)
        go_quiet (fail)
        go_wp2
      iterate 4
        · go_ret
          exact ⟨by rw [Hnot.out Hx.out]; rfl, below_drewN Hb1.out _⟩
      go_roundw
      case measure => simp [intOf]; omega
      case rel =>
        refine ⟨k + 1, hlt, by go_num, fun j hj hjl => ?_, below_drewN Hb1.out _⟩
        rcases Nat.lt_succ_iff_lt_or_eq.1 hj with h | h
        · exact Hst.out j h hjl
        · subst h; rw [Hc.out]; exact Hx.out
    · have : k = l.length := by omega
      subst this
      have hfin := stable_all (fun j hj => Hst.out j hj hj)
      have Hfin := Lib.hid hfin
      clear hfin
      go_wp2
      go_ret
      exact ⟨by rw [Hfin.out]; rfl, hb⟩
theorem stable_n (n : Nat) (A : Option Addr) (cap : Nat) (l : List Cand) (w : World) (B : Nat) (hl : CandsAt w B A l) (hB : B ≤ w.heap.size) (hn : l.length ≤ 2 ^ 40) (hnl : n = l.length) :
    Calls Try.prog 100 #[.slice A n cap] w fun e w' => e = .returned (.bool (stable l)) ∧ Below w.heap.size w w' := by
  subst hnl; exact stable_any A cap l w B hl hB hn

end Go.Proofs.Ytfhikkmgclkcdaa
