/-
  The walks of slices.IndexFunc and slices.Clone at candidates.
-/
import Derived.Test.YtfhikkmgclkcdaaProg
import Derived.Test.YtfhikkmgclkcdaaElGo
namespace Go.Proofs.Ytfhikkmgclkcdaa
open Go.RowKit

def idxI (self : Int) (l : List Cand) : Int := match idx self l with | some i => (i : Int) | none => -1
theorem idxI_hit {self : Int} {l : List Cand} {k : Nat} (h : k < l.length) (hn : ∀ j, (hj : j < k) → (l[j].id == self) = false) (hk : (l[k].id == self) = true) : idxI self l = (k : Int) := by
  have : idx self l = some k := by
    unfold idx
    rw [List.findIdx?_eq_some_iff_getElem]
    exact ⟨h, hk, fun j hj => by simp [hn j hj]⟩
  simp [idxI, this]
theorem idxI_none {self : Int} {l : List Cand} (hn : ∀ j, (hj : j < l.length) → (l[j].id == self) = false) : idxI self l = -1 := by
  have : idx self l = none := by
    unfold idx
    rw [List.findIdx?_eq_none_iff]
    intro x hx
    obtain ⟨j, hj, rfl⟩ := List.getElem_of_mem hx
    exact hn j hj
  simp [idxI, this]

set_option maxHeartbeats 400000 in
theorem is_any (a b c d self : Int) (bs : Nat) (w : World) (hc : w.cell? ⟨bs, 0, none⟩ = some (.int .i64 self)) (hbs : bs < w.heap.size) :
    Calls Try.prog 155 #[.agg #[.int .i64 a, .int .i64 b, .int .i64 c, .int .i64 d], .pointer (some ⟨bs, 0, none⟩)] w fun e w' => e = .returned (.bool (a == self)) ∧ Below w.heap.size w w' := by
  have hc1 : ∀ o, (w.alloc o).cell? ⟨bs, 0, none⟩ = some (.int .i64 self) := fun o => (World.cell?_alloc_lt w o ⟨bs, 0, none⟩ hbs).trans hc
  go_enter Try.func155, Try.ntmps155
  go_wp2
  go_ret
  exact ⟨rfl, (Below.refl _ _).alloc (Nat.le_refl _) _⟩

set_option maxHeartbeats 1000000 in
set_option maxRecDepth 100000 in
theorem idx_any (self : Int) (bs : Nat) (A : Option Addr) (cap : Nat) (l : List Cand) (w : World) (B : Nat) (hl : CandsAt w B A l) (hB : B ≤ w.heap.size) (hn : l.length ≤ maxLen)
    (hc : w.cell? ⟨bs, 0, none⟩ = some (.int .i64 self)) (hbs : bs < w.heap.size) :
    Calls Try.prog 132 #[.slice A l.length cap, .func (.func 155) #[] #[.pointer (some ⟨bs, 0, none⟩)]] w
      fun e w' => e = .returned (.int .i64 (idxI self l)) ∧ Below w.heap.size w w' := by
  unfold maxLen at hn
  have hl := hl.more hB
  have Hl := Lib.hid hl
  have Hc := Lib.hid hc
  clear hl hc hB
  go_enter Try.func132, Try.ntmps132
  go_wp2
  go_loopw [8] (fun i wr => ∃ k : Nat, k ≤ l.length ∧ i = .int .i64 k ∧ (∀ j, (hj : j < k) → (hj2 : j < l.length) → (l[j].id == self) = false) ∧ Below w.heap.size w wr) (fun i _ => l.length - (intOf i).toNat)
  case atStart => exact ⟨0, Nat.zero_le _, rfl, fun j hj => absurd hj (Nat.not_lt_zero _), Below.refl _ _⟩
  case round =>
    obtain ⟨k, hk, rfl, hno, hb⟩ := hrel
    have Hno := Lib.hid hno
    clear hno
    by_cases hlt : k < l.length
    · obtain ⟨b, o, rfl, hbB, e0, e1, e2, e3⟩ := CandsAt.at_ (CandsAt.below Hl.out hb) k hlt
      have hck : wr.cell? ⟨bs, 0, none⟩ = some (.int .i64 self) := (hb.cell hbs).trans Hc.out
      have Hck := Lib.hid hck
      have hsz : bs < wr.heap.size := Nat.lt_of_lt_of_le hbs hb.size
      clear hck
      by_cases hit : (l[k].id == self) = true
      · have hfin := idxI_hit hlt (fun j hj => Hno.out j hj (by omega)) hit
        have Hfin := Lib.hid hfin
        clear hfin
        go_wp2_with (go_at_call 155; (with_reducible refine Calls.mono (is_any _ _ _ _ self bs _ Hck.out hsz) ?_); rintro e w1 ⟨rfl, hb1⟩)
        go_ret
        exact ⟨by rw [Hfin.out]; rfl, hb.trans (hb1.mono hb.size)⟩
      · have hit := Bool.eq_false_iff.2 hit
        go_wp2_with (go_at_call 155; (with_reducible refine Calls.mono (is_any _ _ _ _ self bs _ Hck.out hsz) ?_); rintro e w1 ⟨rfl, hb1⟩)
        go_roundw
        case measure => simp [intOf]; omega
        case rel =>
          refine ⟨k + 1, hlt, by go_num, fun j hj hj2 => ?_, hb.trans (hb1.mono hb.size)⟩
          rcases Nat.lt_succ_iff_lt_or_eq.1 hj with h | h
          · exact Hno.out j h hj2
          · subst h; exact hit
    · have : k = l.length := by omega
      subst this
      have hfin := idxI_none (fun j hj => Hno.out j hj hj)
      have Hfin := Lib.hid hfin
      clear hfin
      go_wp2
      go_ret
      exact ⟨by rw [Hfin.out]; rfl, hb⟩

theorem infoC : (Try.prog.info? 130).map (fun i => (i.zero, i.size, i.bytes)) = some (some (.agg #[.int .i64 0, .int .i64 0, .int .i64 0, .int .i64 0]), 4, 32) := by kernel_rfl

theorem cells_one (l : List Cand) : ∀ u ∈ l.flatMap Cand.cells, u.oneCell' = true := by
  intro u hu
  rw [List.mem_flatMap] at hu
  obtain ⟨c, _, hc⟩ := hu
  simp [Cand.cells] at hc
  rcases hc with rfl | rfl | rfl | rfl <;> rfl

set_option maxHeartbeats 1000000 in
theorem clone_any (A : Option Addr) (cap : Nat) (l : List Cand) (w : World) (B : Nat) (hl : CandsAt w B A l) (hB : B ≤ w.heap.size) (hn : l.length ≤ 2 ^ 40) :
    Calls Try.prog 156 #[.slice A l.length cap] w fun e w' => ∃ v, e = .returned v ∧ OwnC w' w.heap.size v l ∧ Below w.heap.size w w' := by
  have qT : ∀ (w : World) (a : Option Addr) (n c n' c' : Nat), (binOp .eql 127 (.slice a n c) (.slice none n' c')).run Try.prog w = .ok (.bool a.isNone) w := fun w a n c n' c' => Lib.run_eql_slice_nil w _ _ a n c n' c' Try.underlying127
  have hl := hl.more hB
  clear hB
  rcases A with _ | a
  · have : l = [] := by
      rcases l with _ | ⟨c, l⟩
      · rfl
      · obtain ⟨b, o, h, _⟩ := CandsAt.at_ hl 0 (by simp)
        cases h
    subst this
    clear hl
    go_enter Try.func156, Try.ntmps156
    go_wp2
    go_ret
    exact ⟨_, rfl, ⟨rfl, .inl ⟨rfl, rfl⟩⟩, Below.refl _ _⟩
  · have Hl := Lib.hid hl
    clear hl
    obtain ⟨i0, hi, hz0, hz1, hz2⟩ := info_parts infoC
    have h0 : (w.alloc (.cells #[] 130)).ownsRow w.heap.size 130 4 (.slice (some ⟨w.heap.size, 0, none⟩) 0 0) 0 [] := World.ownsRow_lit w #[] 0 (Nat.le_refl _) (by simp) rfl
    have H0 := Lib.hid h0
    clear h0
    have hnews : ∀ o j u, (l.flatMap Cand.cells)[j]? = some u → (w.alloc o).cell? (a.add j) = some u := by
      intro o j u hu
      have hj := (List.getElem?_eq_some_iff.1 hu).1
      rw [length_flat] at hj
      obtain ⟨b, o', h, hb, hc⟩ := Hl.out.2 (by omega)
      cases h
      rw [show (⟨b, o', none⟩ : Addr).add j = ⟨b, o' + j, none⟩ by unfold Addr.add; split <;> simp_all]
      exact (World.cell?_alloc_lt w o _ (by exact hb)).trans (hc j u hu)
    have Hnews := Lib.hid hnews
    clear hnews
    go_enter Try.func156, Try.ntmps156
    go_wp2_with (at_builtin; refine wpList_append_own _ rfl _ _ 127 rfl w.heap.size 130 i0 _ 4 32 Try.underlying127 hi hz0 hz1 hz2 rfl (by decide) _ _ _ rfl H0.out a l.length cap (l.flatMap Cand.cells) rfl (length_flat l) ?c1 ?c2 ?c3 ?c4 ?c5 ?_)
    case c1 => exact Hnews.out _
    case c2 => exact cells_one l
    case c3 => unfold maxLen; omega
    case c4 => omega
    case c5 => simp
    · intro v' w1 hown hg _
      go_wp2
      go_ret
      refine ⟨_, rfl, ?_, ((Below.refl _ _).alloc (Nat.le_refl _) _).grown hg (by simp) (by simp [Value.ownBlock])⟩
      simpa [OwnC] using hown

end Go.Proofs.Ytfhikkmgclkcdaa
