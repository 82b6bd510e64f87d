/-
  The walk of the reference's sorted.
-/
import Derived.StillTailTactics
import Derived.Test.YtfhikkmgclkcdaaProg
import Derived.Test.YtfhikkmgclkcdaaRefA
namespace Go.Proofs.Ytfhikkmgclkcdaa
open Go.RowKit

theorem infoC' : (Try.prog.info? 130).map (fun i => (i.zero, i.size, i.bytes)) = some (some (.agg #[.int .i64 0, .int .i64 0, .int .i64 0, .int .i64 0]), 4, 32) := by kernel_rfl

theorem slice_g {g g' n n' c c' : Nat} (h : Value.slice (some ⟨g, 0, none⟩) n c = Value.slice (some ⟨g', 0, none⟩) n' c') : g = g' := by
  simp only [Value.slice.injEq, Option.some.injEq, Addr.mk.injEq] at h
  exact h.1.1

/-- where the sinking stands: the list, the place -/
def sunk (s s0 : List Cand) (k : Nat) : Prop := sink k s = sink (s0.length - 1) s0 ∧ s.length = s0.length ∧ k < s.length
theorem sunk_step {s s0 : List Cand} {k : Nat} (h : sunk s s0 (k + 1)) (hl : k + 1 < s.length) (hb : betterB s[k + 1] s[k] = true) :
    sunk ((s.set (k + 1) s[k]).set k s[k + 1]) s0 k := by
  refine ⟨?_, by simpa using h.2.1, by simp; omega⟩
  have h1 := h.1
  rw [sink] at h1
  refine Eq.trans ?_ h1
  rw [List.getElem?_eq_getElem hl, List.getElem?_eq_getElem (show k < s.length by omega)]
  simp [hb]
theorem sunk_stop {s s0 : List Cand} {k : Nat} (h : sunk s s0 (k + 1)) (hl : k + 1 < s.length) (hb : betterB s[k + 1] s[k] = false) : s = sink (s0.length - 1) s0 := by
  have h1 := h.1
  rw [sink] at h1
  refine Eq.trans ?_ h1
  rw [List.getElem?_eq_getElem hl, List.getElem?_eq_getElem (show k < s.length by omega)]
  simp [hb]
theorem sunk_zero {s s0 : List Cand} (h : sunk s s0 0) : s = sink (s0.length - 1) s0 := by rw [← h.1]; rfl

theorem sunk_step' {s s0 : List Cand} {j : Nat} (h : sunk s s0 j) (h0 : 0 < j) (hl : j < s.length) (hb : betterB s[j] s[j - 1] = true) :
    sunk ((s.set j s[j - 1]).set (j - 1) s[j]) s0 (j - 1) := by
  obtain ⟨k, rfl⟩ : ∃ k, j = k + 1 := ⟨j - 1, by omega⟩
  exact sunk_step h hl hb
theorem sunk_stop' {s s0 : List Cand} {j : Nat} (h : sunk s s0 j) (h0 : 0 < j) (hl : j < s.length) (hb : betterB s[j] s[j - 1] = false) : s = sink (s0.length - 1) s0 := by
  obtain ⟨k, rfl⟩ : ∃ k, j = k + 1 := ⟨j - 1, by omega⟩
  exact sunk_stop h hl hb

def sortedK (l : List Cand) (k : Nat) : List Cand := sortedC (l.take k)
theorem sortedK_succ (l : List Cand) (k : Nat) (h : k < l.length) : sortedK l (k + 1) = sortStep (sortedK l k) l[k] := by
  unfold sortedK sortedC
  rw [List.take_succ_eq_append_getElem h, List.foldl_append]; rfl
theorem length_sink : ∀ (k : Nat) (l : List Cand), (sink k l).length = l.length
  | 0, l => rfl
  | k + 1, l => by
    rw [sink]
    split
    · split
      · rw [length_sink k]; simp
      · rfl
    · rfl
theorem length_sortedK (l : List Cand) (k : Nat) (h : k ≤ l.length) : (sortedK l k).length ≤ k := by
  induction k with
  | zero => simp [sortedK, sortedC]
  | succ k ih =>
    rw [sortedK_succ l k (by omega), sortStep]
    have := ih (by omega)
    split
    · omega
    · rw [length_sink]; simp; omega

set_option maxHeartbeats 2000000 in
set_option maxRecDepth 100000 in
theorem sorted_any (A : Option Addr) (cap : Nat) (l : List Cand) (w : World) (B : Nat) (hl : CandsAt w B A l) (hB : B ≤ w.heap.size) (hn : l.length ≤ 2 ^ 40) :
    Calls Try.prog 131 #[.slice A l.length cap] w fun e w' => ∃ v, e = .returned v ∧ OwnC w' w.heap.size v (sortedC l) ∧ Below w.heap.size w w' := by
  have hl := hl.more hB
  have Hl := Lib.hid hl
  obtain ⟨i0, hi, hz0, hz1, hz2⟩ := info_parts infoC'
  clear hl hB
  go_enter Try.func131, Try.ntmps131
  go_wp2
  go_loopw [3, 4] (fun v i wr => ∃ k : Nat, k ≤ l.length ∧ i = .int .i64 k ∧ OwnC wr w.heap.size v (sortedK l k) ∧ Below w.heap.size w wr) (fun _ i _ => l.length - (intOf i).toNat)
  case atStart => exact ⟨0, Nat.zero_le _, rfl, ⟨rfl, .inl ⟨rfl, rfl⟩⟩, Below.refl _ _⟩
  case round =>
    obtain ⟨k, hk, rfl, hown, hb⟩ := hrel
    by_cases hlt : k < l.length
    · obtain ⟨b, o, rfl, hbB, e0, e1, e2, e3⟩ := CandsAt.at_ (CandsAt.below Hl.out hb) k hlt
      have hsK := length_sortedK l k hk
      have hs := sortedK_succ l k hlt
      generalize l[k] = c at *
      generalize sortedK l k = s at *
      by_cases hp : c.prio ≤ 0
      · have hs : sortedK l (k + 1) = s := by rw [hs, sortStep, if_pos hp]
        have Hs := Lib.hid hs
        have Hown := Lib.hid hown
        clear hs hown
        go_wp2
        go_roundw
        case measure => simp [intOf]; omega
        case rel => exact ⟨k + 1, hlt, by go_num, by rw [Hs.out]; exact Hown.out, hb⟩
      · have hs : sortedK l (k + 1) = sink s.length (s ++ [c]) := by rw [hs, sortStep, if_neg hp]
        obtain ⟨A', cp, rfl, _⟩ := OwnC.shape hown
        have hgc : Below w.heap.size w (wr.alloc (.cells #[.int .i64 c.id, .int .i64 c.prio, .int .i64 c.dr, .int .i64 c.bdr] 130)) := hb.alloc hb.size _
        have Hgc := Lib.hid hgc
        have Hs := Lib.hid hs
        have Hown := Lib.hid hown
        clear hs hown hgc
        go_wp2_with (at_builtin; refine wpList_append_own _ rfl _ _ 127 rfl w.heap.size 130 i0 _ 4 32 Try.underlying127 hi hz0 hz1 hz2 rfl (by decide) _ _ _ rfl (Hown.out.alloc _) ⟨wr.heap.size, 0, none⟩ 1 1 [.int .i64 c.id, .int .i64 c.prio, .int .i64 c.dr, .int .i64 c.bdr] rfl rfl ?c1 ?c2 ?c3 ?c4 ?c5 ?_)
        case c2 => exact ⟨rfl, rfl, rfl, rfl⟩
        case c3 => unfold maxLen; omega
        case c4 => omega
        case c5 => have := hb.size; omega
        · intro v' w1 hown' hg _
          have hown2 : OwnC w1 w.heap.size v' (s ++ [c]) := by simpa [OwnC, Cand.cells] using hown'
          have hb1 : Below w.heap.size w w1 := Hgc.out.grown hg Hgc.out.size (fun k hk => (Hown.out.lt k hk).1)
          have hs1 := Hs.out
          have hlen : (s ++ [c]).length = s.length + 1 := by simp
          generalize s ++ [c] = s1 at *
          have hpos : 0 < s1.length := by omega
          have hbig : s1.length ≤ l.length := by omega
          obtain ⟨g, cp2, hv, hg1, hg2, _⟩ := hown2.at_ 0 hpos
          subst hv
          have hs2 : sortedK l (k + 1) = sink (s1.length - 1) s1 := by rw [hs1, hlen]; rfl
          have Hs2 := Lib.hid hs2
          have Hown2 := Lib.hid hown2
          have Hb1 := Lib.hid hb1
          clear hs1 hs2 hown2 hown' hg hlen hb1 e0 e1 e2 e3 hb
          go_wp2
          go_loopw [5] (fun kk wr => ∃ (j : Nat) (t : List Cand), kk = .int .i64 j ∧ sunk t s1 j ∧ OwnC wr w.heap.size (.slice (some ⟨g, 0, none⟩) s1.length cp2) t ∧ Below w.heap.size w wr) (fun i _ => (intOf i).toNat)
          case atStart => exact ⟨s1.length - 1, s1, by go_num, ⟨rfl, rfl, by omega⟩, Hown2.out, Hb1.out⟩
          case round =>
            rename_i wr0 _ _ _
            obtain ⟨j, t, rfl, hsk, hown, hb⟩ := hrel
            have htl := hsk.2.1
            have hjt := hsk.2.2
            have Htl := Lib.hid htl
            have Hsk := Lib.hid hsk
            have Hown3 := Lib.hid hown
            have hjs : j < s1.length := by omega
            clear hsk hown htl
            rcases Nat.eq_zero_or_pos j with hj0 | hj0
            · subst hj0
              have hend := sunk_zero Hsk.out
              have Hend := Lib.hid hend
              clear hend
              go_wp2
              go_quiet (fail)
              go_wp2
              go_roundw
              case measure => simp [intOf]; omega
              case rel => exact ⟨k + 1, hlt, by go_num, by rw [Hs2.out, ← Hend.out]; exact Hown3.out.drewN _, below_drewN hb _⟩
            · have hj1 : j - 1 < t.length := by omega
              have hstep := fun h => sunk_step' Hsk.out hj0 hjt h
              have hstop := fun h => sunk_stop' Hsk.out hj0 hjt h
              generalize hx : t[j] = x at *
              generalize hy : t[j - 1] = y at *
              have Hx := Lib.hid hx
              have Hy := Lib.hid hy
              have Hstep := Lib.hid hstep
              have Hstop := Lib.hid hstop
              clear hx hy hstep hstop
              rcases x with ⟨xi, xp, xd, xb⟩
              rcases y with ⟨yi, yp, yd, yb⟩
              obtain ⟨c0, c1, c2, c3, _, _, _, _, hg3, hg4⟩ := Hown3.out.c4 j hjt _ Hx.out
              obtain ⟨d0, d1, d2, d3, _, _, _, _, _, _⟩ := Hown3.out.c4 (j - 1) hj1 _ Hy.out
              have b0 : decide ((0 : Int) < (j : Int)) = true := by simpa using hj0
              have b1 : IntKind.i64.wrap ((j : Int) - 1) = (j : Int) - 1 := IntWalk.i64_in _ (by omega)
              have b2 : ((j : Int) - 1).toNat = j - 1 := by omega
              have b3 : (0 : Int) ≤ (j : Int) - 1 := by omega
              have b4 : (j : Int) - 1 < (s1.length : Int) := by omega
              have b6 : (1 : Int) ≤ (j : Int) := by omega
              have b5 : (j : Int) < (s1.length : Int) := by omega
              go_wp2
              refine wp_draw_tail 12 (by kernel_rfl) (by kernel_rfl) ?_
              intro w2 hw2 hcell hfr hz1 hz2
              simp only [List.take_succ_cons, List.take_zero, List.drop_succ_cons, List.drop_zero]
              repeat still_step
              refine wpStill_nil ?_
              have hb2 : Below w.heap.size w w2 := hw2 ▸ hb.drew
              have Hown4 : Hid (OwnC w2 w.heap.size (.slice (some ⟨g, 0, none⟩) s1.length cp2) t) := Lib.hid (hw2 ▸ Hown3.out.drew)
              clear hw2 hb c0 c1 c2 c3 d0 d1 d2 d3
              by_cases hbt : betterB ⟨xi, xp, xd, xb⟩ ⟨yi, yp, yd, yb⟩ = true
              · go_wp2_with (go_at_call 157; (with_reducible refine Calls.mono (better_any _ _ _ _ _ _ _ _ _) ?_); rintro e w3 ⟨rfl, hb3⟩; have hown5 := Hown4.out.below hb3; obtain ⟨c0, c1, c2, c3, f0, f1, f2, f3, hg5, hg6⟩ := hown5.c4 j hjt _ Hx.out; obtain ⟨d0, d1, d2, d3, e0, e1, e2, e3, _, _⟩ := hown5.c4 (j - 1) hj1 _ Hy.out; have Hown5 := Lib.hid hown5; clear hown5)
                go_roundw
                case measure => simp [intOf]; omega
                case rel =>
                  have hgb : ∀ n, w.heap.size ≤ (⟨g, n, none⟩ : Addr).block := fun n => hg6
                  refine ⟨j - 1, (t.set j ⟨yi, yp, yd, yb⟩).set (j - 1) ⟨xi, xp, xd, xb⟩, by go_num, Hstep.out hbt, ?_, ?_⟩
                  · exact ((Hown5.out.set_ (Hown5.out.len) j hjt ⟨yi, yp, yd, yb⟩).set_ (by simpa using Hown5.out.len) (j - 1) (by simpa using hj1) ⟨xi, xp, xd, xb⟩).alloc _
                  · exact ((((((((((hb2.trans (hb3.mono hb2.size)).setCell (hgb _) _).setCell (hgb _) _).setCell (hgb _) _).setCell (hgb _) _).setCell (hgb _) _).setCell (hgb _) _).setCell (hgb _) _).setCell (hgb _) _).alloc (by simp; have := hb2.size; have := hb3.size; omega) _)
              · have hbt := Bool.eq_false_iff.2 hbt
                have hend := Hstop.out hbt
                have Hend := Lib.hid hend
                clear hend
                go_wp2_with (go_at_call 157; (with_reducible refine Calls.mono (better_any _ _ _ _ _ _ _ _ _) ?_); rintro e w3 ⟨rfl, hb3⟩; have hown5 := Hown4.out.below hb3; have Hown5 := Lib.hid hown5; clear hown5)
                go_roundw
                case measure => simp [intOf]; omega
                case rel => exact ⟨k + 1, hlt, by go_num, by rw [Hs2.out, ← Hend.out]; exact Hown5.out, hb2.trans (hb3.mono hb2.size)⟩
    · have : k = l.length := by omega
      subst this
      obtain ⟨A', cp, rfl, _⟩ := OwnC.shape hown
      have Hown := Lib.hid hown
      clear hown
      go_wp2
      go_ret
      refine ⟨_, rfl, ?_, hb⟩
      have := Hown.out
      simpa [sortedK] using this

end Go.Proofs.Ytfhikkmgclkcdaa
