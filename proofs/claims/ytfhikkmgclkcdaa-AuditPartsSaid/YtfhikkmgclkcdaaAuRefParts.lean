/-
  Layer 27: the reference's Parts.
-/
import Derived.Test.YtfhikkmgclkcdaaAuPartW
import Derived.Test.YtfhikkmgclkcdaaOwnLL
namespace Go.Proofs.Ytfhikkmgclkcdaa
open Go.RowKit

def stepP (P : Nat → List Int) (st : List (List Int) × List Int) (id : Nat) : List (List Int) × List Int := if st.2.contains (natI id) = true then st else (st.1 ++ [P id], st.2 ++ P id)
def partsR (P : Nat → List Int) (ids : List Nat) : List (List Int) × List Int := ids.foldl (stepP P) ([], [])
theorem stepP_len {P : Nat → List Int} (hP : ∀ id, (P id).length ≤ 16) (L : List Nat) (st : List (List Int) × List Int) : (L.foldl (stepP P) st).2.length ≤ st.2.length + 16 * L.length ∧ (L.foldl (stepP P) st).1.length ≤ st.1.length + L.length := by
  induction L generalizing st with
  | nil => simp
  | cons x L ih =>
    rw [List.foldl_cons]
    have h := ih (stepP P st x)
    have hx := hP x
    have h2 : (stepP P st x).2.length ≤ st.2.length + 16 ∧ (stepP P st x).1.length ≤ st.1.length + 1 := by
      unfold stepP
      split
      · omega
      · simp; omega
    simp only [List.length_cons]
    omega
/-- the parts so far, and those that were seen -/
structure PartsAt (w wr : World) (v3 v4 : Value) (L : List VL) (S : List Int) : Prop where
  ll : OwnLL wr w.heap.size v3 L
  seen : OwnI wr w.heap.size v4 S
  ap : v4.ownBlock = none ∨ v4.ownBlock ≠ v3.ownBlock
  apx : ∀ x ∈ L, x.1.ownBlock = none ∨ x.1.ownBlock ≠ v4.ownBlock
  bel : Below w.heap.size w wr
section
variable {w wr w1 w3 w5 : World} {v3 v4 v3' v4' vp : Value} {L : List VL} {S P : List Int} {o : Obj}
theorem PartsAt.below (h : PartsAt w wr v3 v4 L S) (hb : Below wr.heap.size wr w1) : PartsAt w w1 v3 v4 L S :=
  ⟨h.ll.below hb, h.seen.below hb, h.ap, h.apx, h.bel.trans (hb.mono h.bel.size)⟩
theorem new_apart {u v : Value} {n : Nat} (hu : ∀ k, u.ownBlock = some k → n ≤ k) (hv : ∀ k, v.ownBlock = some k → k < n) : u.ownBlock = none ∨ u.ownBlock ≠ v.ownBlock := by
  rcases e : u.ownBlock with _ | k
  · exact .inl rfl
  · exact .inr fun e2 => by have := hu k e; have := hv k e2.symm; omega
/-- one more part: behind the append onto the parts -/
theorem PartsAt.one (h : PartsAt w wr v3 v4 L S) (hb1 : Below wr.heap.size wr w1) (hp : OwnI w1 wr.heap.size vp P) (h3 : OwnLL w3 w.heap.size v3' (L ++ [(vp, P)])) (hg : (w1.alloc o).grownBy w3 v3.ownBlock) (hv : v3'.ownBlock = v3.ownBlock ∨ v3'.ownBlock = some (w1.alloc o).heap.size) :
    PartsAt w w3 v3' v4 (L ++ [(vp, P)]) S where
  ll := h3
  seen := ((h.seen.below hb1).alloc o).kept hg h.ap
  ap := by
    rcases hv with e | e
    · rw [e]; exact h.ap
    · rcases e4 : v4.ownBlock with _ | k
      · exact .inl rfl
      · right; rw [e]; intro e2; injection e2 with e2; have := (h.seen.block k e4).2; have := hb1.size; simp at e2; omega
  apx := fun x hx => by
    rcases List.mem_append.1 hx with hx | hx
    · exact h.apx x hx
    · rw [List.mem_singleton] at hx
      subst hx
      exact new_apart (fun k hk => (hp.block k hk).1) (fun k hk => (h.seen.block k hk).2)
  bel := by
    have hs := hb1.size
    have hs2 := h.bel.size
    exact ((h.bel.trans (hb1.mono hs2)).alloc (by omega) o).grown hg (by simp; omega) (fun k hk => (h.ll.block k hk).1)
theorem PartsAt.two (h : PartsAt w w3 v3 v4 L S) (h5 : OwnI w5 w.heap.size v4' (S ++ P)) (hg : w3.grownBy w5 v4.ownBlock) (hv : v4'.ownBlock = v4.ownBlock ∨ v4'.ownBlock = some w3.heap.size) : PartsAt w w5 v3 v4' L (S ++ P) where
  ll := h.ll.apart hg (by
    rcases e3 : v3.ownBlock with _ | k
    · exact .inl rfl
    · right
      intro e
      rcases h.ap with e4 | e4
      · rw [e4] at e; cases e
      · exact e4 (by rw [e3, e])) h.apx
  seen := h5
  ap := by
    rcases hv with e | e
    · rw [e]; exact h.ap
    · right; rw [e]; intro e2; have := (h.ll.block _ e2.symm).2; omega
  apx := fun x hx => by
    rcases hv with e | e
    · rw [e]; exact h.apx x hx
    · rcases ex : x.1.ownBlock with _ | k
      · exact .inl rfl
      · right; rw [e]; intro e2; injection e2 with e2; have := ((h.ll.each x hx).1.block k ex).2; omega
  bel := h.bel.grown hg h.bel.size (fun k hk => (h.seen.block k hk).1)
end

set_option maxHeartbeats 4000000 in
set_option maxRecDepth 100000 in
theorem refParts_any (n : Nat) (A : Option Addr) (cap : Nat) (C : List Stt) (ids : List Nat) (w : World) (B : Nat) (hl : StatesAt w B A C) (hB : B ≤ w.heap.size) (hlen : C.length ≤ 1000) (hn : n = C.length) (hids : C.map Stt.id = ids.map natI) (h16 : ∀ x ∈ ids, x < 16)
    {PS : List (List Int)} {SS : List Int} (hPS : partsR (fun id => outS (iterS (jC C) ids (setS (fun _ => false) id) 16) 16) ids = (PS, SS)) :
    Calls Try.prog 27 #[.slice A n cap] w fun e w' => ∃ v L, e = .returned v ∧ OwnLL w' w.heap.size v L ∧ L.map Prod.snd = PS ∧ Below w.heap.size w w' := by
  subst hn
  have Hl := Lib.hid (hl.more hB)
  have Hids := Lib.hid hids
  have H16 := Lib.hid h16
  have Hil := Lib.hid (show C.length = ids.length by simpa using congrArg List.length hids)
  have hpart : ∀ W id, Below w.heap.size w W → id < 16 → _ := fun W id hW hid => part_any C.length A cap C ids id W w.heap.size ((hl.more hB).below hW) hW.size hlen rfl hids h16 hid
  obtain ⟨P, hP⟩ : ∃ P, (fun id => outS (iterS (jC C) ids (setS (fun _ => false) id) 16) 16) = P := ⟨_, rfl⟩
  have hpart2 : ∀ W id, Below w.heap.size w W → id < 16 → Calls Try.prog 73 #[.slice A C.length cap, .int .i64 (natI id)] W fun e w' => ∃ v, e = .returned v ∧ OwnI w' W.heap.size v (P id) ∧ Below W.heap.size W w' := fun W id hW hid => by
    rw [← hP]; exact hpart W id hW hid
  have hPl : ∀ id, (P id).length ≤ 16 := fun id => by rw [← hP]; exact outS_len _ _
  rw [hP] at hPS
  have Hpart := Lib.hid hpart2
  have HPl := Lib.hid hPl
  have HPS := Lib.hid hPS
  clear hl hB hids h16 hpart hpart2 hP hPl hPS
  go_enter Try.func27, Try.ntmps27
  go_wp2
  go_loopw [3, 4, 5] (fun v3 v4 i wr => ∃ (k : Nat) (L : List VL), k ≤ C.length ∧ i = .int .i64 k ∧ PartsAt w wr v3 v4 L (partsR P (ids.take k)).2 ∧ L.map Prod.snd = (partsR P (ids.take k)).1) (fun _ _ i _ => C.length - (intOf i).toNat)
  case atStart => exact ⟨0, [], Nat.zero_le _, rfl, ⟨OwnLL.nil _ _, OwnI.nil _ _, .inl rfl, by simp, Below.refl _ _⟩, rfl⟩
  case round =>
    obtain ⟨k, L, hk, rfl, hpa, hLe⟩ := hrel
    obtain ⟨A3, c3, hv3⟩ := hpa.ll.shape
    obtain ⟨A4, c4, hv4⟩ := hpa.seen.shape
    subst hv3 hv4
    by_cases hlt : k < C.length
    · have hki : k < ids.length := by rw [← Hil.out]; exact hlt
      have hs : partsR P (ids.take (k + 1)) = stepP P (partsR P (ids.take k)) ids[k] := foldl_take_succ (stepP P) ids ([], []) k hki
      have hln := stepP_len HPl.out (ids.take k) ([], [])
      rw [show (ids.take k).foldl (stepP P) ([], []) = partsR P (ids.take k) from rfl] at hln
      obtain ⟨_, hid⟩ := id_at Hids.out k hlt
      have h16 := H16.out ids[k] (List.getElem_mem hki)
      obtain ⟨id, hide⟩ : ∃ x, ids[k] = x := ⟨_, rfl⟩
      rw [hide] at hs hid h16
      obtain ⟨b, o, rfl, -, x0, -, -, -⟩ := States.at_ (Hl.out.below hpa.bel).rows k hlt
      rw [hid] at x0
      have hkl : (k : Int) < (C.length : Int) := by omega
      generalize partsR P (ids.take k) = st at *
      rcases st with ⟨st1, st2⟩
      have hL1 : L.length = st1.length := by simpa using congrArg List.length hLe
      have htk : (ids.take k).length ≤ 1000 := by simp; omega
      simp only at hpa hLe hln
      have hsl : st2.length ≤ 16000 := by have := hln.1; simp at this htk; omega
      have hll : L.length ≤ 1000 := by have := hln.2; simp at this htk; omega
      have Hpa := Lib.hid hpa
      have Hs := Lib.hid hs
      have HLe := Lib.hid hLe
      have Hx0 := Lib.hid x0
      clear hs hpa hLe hid hide hln htk hL1
      cases hc : st2.contains (natI id)
      · have Hc := Lib.hid hc
        clear hc
        go_wp2_with fail
        with_reducible refine Calls.mono (has02_any _ _ _ st2 (natI id) _ _ Hpa.out.seen.rows1.2 (Nat.le_refl _) hsl rfl Hc.out) ?_
        rintro r w1 ⟨rfl, hb1⟩
        have Hpa := Lib.hid (Hpa.out.below hb1)
        have x1 := cellIn Hx0.out hb1
        have Hx1 := Lib.hid x1
        clear hb1 x0
        go_wp2_with fail
        with_reducible refine Calls.mono (Hpart.out _ id Hpa.out.bel h16) ?_
        rintro r w2 ⟨vp, rfl, hown2, hb2⟩
        obtain ⟨A2, c2, rfl⟩ := hown2.shape
        have Hown2 := Lib.hid hown2
        have Hb2 := Lib.hid hb2
        clear hown2 hb2 x1
        go_wp2_with (first
          | (at_builtin; refine app_ll rfl _ _ rfl w.heap.size (.slice A3 L.length c3) L rfl ((Hpa.out.ll.below Hb2.out).alloc _) w2.heap.size (.slice A2 (P id).length c2, P id) rfl (by exact Blk.new _ _ _) ((Hown2.out.lower Hpa.out.bel.size).alloc _) (new_apart (fun k hk => (Hown2.out.block k hk).1) (fun k hk => (Hpa.out.ll.block k hk).2)) (by omega) (by have := Hpa.out.bel.size; have := Hb2.out.size; simp; omega) ?_; intro v3' w3 hll3 hg3 hv3'; have Hpa3 := Lib.hid (Hpa.out.one Hb2.out Hown2.out hll3 hg3 hv3'); obtain ⟨A3', c3', rfl⟩ := hll3.shape; clear hll3 hg3 hv3')
          | (at_builtin; refine app_ints rfl _ _ rfl w.heap.size (.slice A4 st2.length c4) st2 rfl Hpa3.out.seen A2 c2 (P id) rfl ((Hpa3.out.ll.each _ (List.mem_append_right _ (List.mem_singleton.2 rfl))).1.rows1.2) (by have := HPl.out id; omega) Hpa3.out.bel.size ?_; intro v4' w5 h5 hg5 hv4'; have Hpa5 := Lib.hid (Hpa3.out.two h5 hg5 hv4'); clear h5 hg5 hv4'))
        go_roundw
        case measure => simp [intOf]; omega
        case rel =>
          have e : stepP P (st1, st2) id = (st1 ++ [P id], st2 ++ P id) := by unfold stepP; rw [if_neg (by rw [Hc.out]; simp)]
          exact ⟨k + 1, L ++ [(.slice A2 (P id).length c2, P id)], hlt, by go_num, by rw [Hs.out, e]; simpa using Hpa5.out, by rw [Hs.out, e]; simp [HLe.out]⟩
      · have Hc := Lib.hid hc
        clear hc
        go_wp2_with fail
        with_reducible refine Calls.mono (has02_any _ _ _ st2 (natI id) _ _ Hpa.out.seen.rows1.2 (Nat.le_refl _) hsl rfl Hc.out) ?_
        rintro r w1 ⟨rfl, hb1⟩
        have Hpa := Lib.hid (Hpa.out.below hb1)
        clear hb1 x0
        go_wp2
        go_roundw
        case measure => simp [intOf]; omega
        case rel =>
          have e : stepP P (st1, st2) id = (st1, st2) := by unfold stepP; rw [if_pos Hc.out]
          exact ⟨k + 1, L, hlt, by go_num, by rw [Hs.out, e]; exact Hpa.out, by rw [Hs.out, e]; exact HLe.out⟩
    · have hkk : k = C.length := by omega
      subst hkk
      rw [Hil.out, List.take_length, HPS.out] at hpa hLe
      have Hpa := Lib.hid hpa
      have HLe := Lib.hid hLe
      clear hpa hLe
      go_wp2
      go_ret
      exact ⟨.slice A3 L.length c3, rfl, L, Hpa.out.ll, HLe.out, Hpa.out.bel⟩

end Go.Proofs.Ytfhikkmgclkcdaa
