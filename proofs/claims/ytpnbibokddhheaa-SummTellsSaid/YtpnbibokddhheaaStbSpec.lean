/-
  Heads sorted stably by their keys, one put behind the other (plain).
-/
import Derived.Test.YtpnbibokddhheaaStbBlk
import Derived.Test.YtpnbibokddhheaaStbCmp
namespace Go.Proofs.Ytpnbibokddhheaa
open Go.Sort

def insS (x : Hd) : List Hd → List Hd
  | [] => [x]
  | z :: Z => if ltS x z = true then x :: z :: Z else z :: insS x Z
def stbS (L : List Hd) : List Hd := L.foldl (fun Z x => insS x Z) []
theorem insS_cut (x : Hd) : ∀ {Z : List Hd}, SrtL ltS Z → ∃ Z1 Z2, Z = Z1 ++ Z2 ∧ insS x Z = Z1 ++ [x] ++ Z2 ∧ (∀ z ∈ Z2, ltS x z = true) ∧ (Z1 = [] ∨ ∃ Y z, Z1 = Y ++ [z] ∧ ltS x z = false)
  | [], _ => ⟨[], [], rfl, rfl, by simp, .inl rfl⟩
  | z :: Z, h => by
    obtain ⟨h1, h2⟩ := List.pairwise_cons.1 h
    unfold insS
    by_cases hl : ltS x z = true
    · rw [if_pos hl]
      refine ⟨[], z :: Z, rfl, rfl, fun u hu => ?_, .inl rfl⟩
      rcases List.mem_cons.1 hu with rfl | hu
      · exact hl
      · cases e : ltS x u with
        | true => rfl
        | false => have := swoS.ntrans _ _ _ e (h1 u hu); rw [hl] at this; cases this
    · rw [if_neg hl]
      obtain ⟨Z1, Z2, rfl, g2, g3, g4⟩ := insS_cut x h2
      refine ⟨z :: Z1, Z2, rfl, by rw [g2]; simp, g3, .inr ?_⟩
      rcases g4 with rfl | ⟨Y, u, rfl, hu⟩
      · exact ⟨[], z, rfl, by simpa using hl⟩
      · exact ⟨z :: Y, u, rfl, hu⟩
theorem insS_stb {X Z : List Hd} (h : Stb ltS X Z) (x : Hd) : Stb ltS (X ++ [x]) (insS x Z) := by
  obtain ⟨Z1, Z2, rfl, e, h1, h2⟩ := insS_cut x h.srt
  rw [e]
  exact stb_ins swoS h h1 h2
theorem fold_stb : ∀ (L X Z : List Hd), Stb ltS X Z → Stb ltS (X ++ L) (L.foldl (fun Z x => insS x Z) Z)
  | [], X, Z, h => by simpa using h
  | x :: L, X, Z, h => by
    have := fold_stb L (X ++ [x]) (insS x Z) (insS_stb h x)
    simpa using this
theorem stbS_stb (L : List Hd) : Stb ltS L (stbS L) := fold_stb L [] [] (Stb.refl srt_nil)
theorem stbS_is {L M : List Hd} (h : Stb ltS L M) : M = stbS L := h.unique swoS (stbS_stb L)
theorem stbS_len (L : List Hd) : (stbS L).length = L.length := (stbS_stb L).len.symm
theorem stbS_more (L : List Hd) (x : Hd) {Z1 Z2 : List Hd} (h : stbS L = Z1 ++ Z2) (h1 : ∀ z ∈ Z2, ltS x z = true) (h2 : Z1 = [] ∨ ∃ Y z, Z1 = Y ++ [z] ∧ ltS x z = false) : Z1 ++ x :: Z2 = stbS (L ++ [x]) := by
  have := stbS_is (stb_ins swoS (h ▸ stbS_stb L) h1 h2)
  simpa using this

end Go.Proofs.Ytpnbibokddhheaa
