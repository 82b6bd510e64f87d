/-
  FloodLan in plain Lean: who lists whom.
-/
import Derived.Test.YtfhikkmgclkcdaaFlViewW
namespace Go.Proofs.Ytfhikkmgclkcdaa

def listedV (me dr bdr : Int) (l : List Int) (came : Bool) (fr : Int) : List Int := listedL (fun _ => false) came fr (peersL me dr bdr l)
theorem mem_listedV {me dr bdr : Int} {l : List Int} {came : Bool} {fr x : Int} : x ∈ listedV me dr bdr l came fr ↔ x ∈ l ∧ x ≠ me ∧ fullB me dr bdr x = true ∧ ¬(came = true ∧ x = fr) := by
  unfold listedV listedL peersL
  simp only [List.mem_map, List.mem_filter]
  constructor
  · rintro ⟨p, ⟨⟨y, ⟨hy, hne⟩, rfl⟩, hg⟩, rfl⟩
    have hne' : y ≠ me := by simpa using hne
    unfold goesB peerOf at hg
    simp only [Bool.and_eq_true, decide_eq_true_eq] at hg
    refine ⟨hy, hne', ?_, ?_⟩
    · cases hf : fullB me dr bdr y
      · rw [hf] at hg
        exact absurd hg.1.1 (by decide)
      · exact hf
    · rintro ⟨hc, he⟩
      have he' : y = fr := he
      rw [hc, he'] at hg
      simp at hg
  · rintro ⟨hy, hne, hf, hno⟩
    refine ⟨peerOf me dr bdr x, ⟨⟨x, ⟨hy, by simpa using hne⟩, rfl⟩, ?_⟩, rfl⟩
    unfold goesB peerOf
    rw [hf]
    have h1 : (came && (x == fr)) = false := by
      cases hc : came
      · rfl
      · have : ¬x = fr := fun e => hno ⟨hc, e⟩
        simpa using this
    simp [h1]
/-- who is asked for an acknowledgment never sent it -/
theorem listedV_not {me dr bdr : Int} {l : List Int} {came : Bool} {fr x : Int} (h1 : ∀ y ∈ l, 1 ≤ y) (hc : came = true ∨ fr = 0) (hx : x ∈ listedV me dr bdr l came fr) : (x == fr) = false ∧ (x == me) = false := by
  obtain ⟨hl, hne, _, hno⟩ := mem_listedV.1 hx
  have := h1 x hl
  refine ⟨?_, by simpa using hne⟩
  rcases hc with hc | hc
  · have : ¬x = fr := fun e => hno ⟨hc, e⟩
    simpa using this
  · have : ¬x = fr := by omega
    simpa using this

theorem mem_members {m k : Nat} {x : Int} (h : x ∈ membersK m k) : 1 ≤ x ∧ x ≤ k := by
  unfold membersK at h
  simp only [List.mem_map, List.mem_filter, List.mem_range] at h
  obtain ⟨i, ⟨hi, _⟩, rfl⟩ := h
  omega
theorem members_nodup (m k : Nat) : (membersK m k).Nodup := by
  induction k with
  | zero => simp [membersK]
  | succ k ih =>
    rw [membersK_succ]
    by_cases h : bitB m k = true
    · rw [if_pos h, List.nodup_append]
      refine ⟨ih, by simp, fun a ha b hb => ?_⟩
      have := (mem_members ha).2
      rw [List.mem_singleton] at hb
      omega
    · rw [if_neg h]
      simpa using ih
/-- what one sends, and to whom -/
def sentV (me dr bdr : Int) (l : List Int) (came : Bool) (fr : Int) : Bool := decide (0 < (listedV me dr bdr l came fr).length) && !toldB came fr dr bdr (viewSt me dr bdr)
theorem sent_told {me dr bdr : Int} {l : List Int} {fr : Int} (h : fr = dr ∨ fr = bdr) : sentV me dr bdr l true fr = false := by
  have : toldB true fr dr bdr (viewSt me dr bdr) = true := by
    unfold toldB
    rcases h with h | h <;> simp [h]
  simp [sentV, this]
theorem sent_backup {dr bdr : Int} {l : List Int} {fr : Int} (h : bdr ≠ dr) : sentV bdr dr bdr l true fr = false := by
  have : toldB true fr dr bdr (viewSt bdr dr bdr) = true := by
    unfold toldB viewSt
    simp [h]
  simp [sentV, this]

end Go.Proofs.Ytfhikkmgclkcdaa
