/-
  Layer 16: the sort of a list's keys.
-/
import Derived.Test.YtfhikkmgclkcdaaOwnSort
import Derived.Test.YtfhikkmgclkcdaaLaySortKey
import Derived.Test.YtfhikkmgclkcdaaRxList
namespace Go.Proofs.Ytfhikkmgclkcdaa
open Go.RowKit Go.Sort Go.Proofs

theorem call_listCmp (xs : Array Value) (w : World) : (callFunc 127 xs).run Try.prog w = .ok (.enter 127 xs) w := callOf Try.func127 rfl (by kernel_rfl) xs w
theorem ltOf_K : ltOf cmpK = lessK := by
  funext a b
  exact cmpK_less a b
theorem swoK : SWO (ltOf cmpK) := by
  rw [ltOf_K]
  exact { irrefl := lessK_irr, trans := fun _ _ _ h1 h2 => lessK_trans h1 h2, ntrans := fun _ _ _ h1 h2 => lessK_ntrans h1 h2 }
theorem sortsK : SortsK := by
  intro v L B w hown hlen
  obtain ⟨A, cap, rfl⟩ := hown.shape
  by_cases h0 : L.length = 0
  · have hL : L = [] := List.eq_nil_of_length_eq_zero h0
    subst hL
    have h := AnyF.slices_SortFunc_none { Try.sortKey with } A cap (.func (.func 127) #[] #[]) w
    change Calls Try.prog 126 _ _ _ at h
    refine h.mono ?_
    rintro r w' ⟨rfl, rfl⟩
    exact ⟨rfl, by rw [show sortK [] = [] from List.eq_nil_of_length_eq_zero (by rw [sortK_len]; rfl)]; exact hown, World.grownBy.refl _ _⟩
  · rcases hown.2 with ⟨hv, hn⟩ | ⟨g, cap', cur, hv, -⟩
    · omega
    · simp only [Value.slice.injEq, true_and] at hv
      obtain ⟨rfl, rfl⟩ := hv
      obtain ⟨hH, hlt⟩ := ownR_holds (C := 3) (cells := K3.cells) (fun _ => rfl) hown
      have h := AnyQ.slices_SortFunc_total Try.sortKey 3 Try.isAgg61 Try.sizeOf61 K3.cells (fun _ => rfl) onesK cmpK swoK 127 #[] g 0 cap L.toArray w call_listCmp
        (fun m os dk _ x y => listCmp_any x y _) hH hlt (by simp; omega) (fun x y h1 h2 => by rw [ltOf_K] at h1 h2; exact lessK_tot h1 h2)
      change Calls Try.prog 126 _ _ _ at h
      rw [ltOf_K] at h
      refine h.mono ?_
      rintro r w' ⟨rfl, n, os, rfl⟩
      have := ownR_sorted (C := 3) (cells := K3.cells) (m := n) (os := os) (M := sortK L) (fun _ => rfl) hown (sortK_len L)
      exact ⟨rfl, this.1, this.2⟩

end Go.Proofs.Ytfhikkmgclkcdaa
