/-
  slices.SortStableFunc at a row of heads that a call made itself.
-/
import Derived.Test.YtpnbibokddhheaaStbAll
import Derived.Test.YtpnbibokddhheaaStbSpec
import Derived.Test.YtpnbibokddhheaaExSide
namespace Go.Proofs.Ytpnbibokddhheaa
open Go.RowKit Go.Sort Go.Shelf

set_option maxHeartbeats 1000000 in
theorem sortStb (v : Value) (M : List Hd) (B : Nat) (w : World) (hown : OwnR 34 7 Hd.cells w B v M) (hlen : M.length < 2 ^ 20) :
    Calls Try.prog 44 #[v, .func (.func 45) #[] #[]] w fun r w' => r = .returned (.tuple #[]) ∧ OwnR 34 7 Hd.cells w' B v (stbS M) ∧ w.grownBy w' v.ownBlock := by
  obtain ⟨A, cap, rfl⟩ := hown.shape
  by_cases h0 : M.length = 0
  · obtain rfl : M = [] := List.eq_nil_of_length_eq_zero h0
    refine (sortStable0 A cap _ w).mono ?_
    rintro r w' ⟨rfl, rfl⟩
    exact ⟨rfl, hown, World.grownBy.refl _ _⟩
  · rcases hown.2 with ⟨hv, hn⟩ | ⟨g', cap', cur, hv, -⟩
    · omega
    · simp only [Value.slice.injEq, true_and] at hv
      obtain ⟨rfl, rfl⟩ := hv
      obtain ⟨hH, hlt⟩ := ownR_holds (C := 7) (cells := Hd.cells) hdC_len hown
      have HO := Lib.hid hown
      have R : RowK Hd.cells 7 w g' 0 M.toArray := ⟨hdC_len, hdC_one, hH, hlt⟩
      have HC := Lib.hid (stable_any (cap := cap) R (SWK.start hH) rfl (by simpa using hlen) M.length (by simp))
      simp only [List.size_toArray] at HC
      obtain ⟨n, hn⟩ : ∃ n, M.length = n := ⟨_, rfl⟩
      rw [hn] at HC ⊢
      have hnb : n < 1048576 := by omega
      have Hn := Lib.hid hn
      clear hown hH hlt R h0 hn
      go_enter Try.func44, Try.ntmps44
      go_wp2_with (go_at_call 72; (with_reducible refine Calls.mono HC.out ?_); rintro r w2 ⟨rfl, d', ⟨m, os, rfl⟩, hsz, hst⟩; have H5 := Lib.hid (show d'.size = n ∧ Stb ltS M d'.toList from ⟨hsz, hst⟩); clear hsz hst)
      go_end0
      have h1 := stbS_is H5.out.2
      have h2 := ownR_sorted (C := 7) (cells := Hd.cells) (m := m) (os := os) (M := d'.toList) hdC_len HO.out (by rw [Array.length_toList, H5.out.1, Hn.out])
      rw [Array.toArray_toList, h1] at h2
      exact ⟨rfl, by rw [← Hn.out]; exact h2.1, h2.2⟩

end Go.Proofs.Ytpnbibokddhheaa
