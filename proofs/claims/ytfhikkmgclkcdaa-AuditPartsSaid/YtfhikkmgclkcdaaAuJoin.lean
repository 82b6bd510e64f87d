/-
  Layer 27: whether two are joined (the reference's).
-/
import Derived.Test.YtfhikkmgclkcdaaAuRefMay
namespace Go.Proofs.Ytfhikkmgclkcdaa
open Go.RowKit

set_option maxHeartbeats 1000000 in
set_option maxRecDepth 100000 in
theorem has02_any (n : Nat) (A : Option Addr) (cap : Nat) (l : List Int) (x : Int) (w : World) (B : Nat) (hl : RowsAt 1 icell w B A l) (hB : B ≤ w.heap.size) (hlen : l.length ≤ 16000) (hn : n = l.length) {b : Bool} (hb : l.contains x = b) :
    Calls Try.prog 72 #[.slice A n cap, .int .i64 x] w fun e w' => e = .returned (.bool b) ∧ Below w.heap.size w w' := by
  subst hn hb
  have Hl := Lib.hid (hl.more hB)
  clear hl hB
  obtain ⟨r, hr⟩ : ∃ r, l.contains x = r := ⟨_, rfl⟩
  rw [hr]
  have Hr := Lib.hid hr
  clear hr
  go_enter Try.func72, Try.ntmps72
  go_wp2
  go_loopw [5] (fun i wr => ∃ k : Nat, k ≤ l.length ∧ i = .int .i64 k ∧ (l.take k).contains x = false ∧ Below w.heap.size w wr) (fun i _ => l.length - (intOf i).toNat)
  case atStart => exact ⟨0, Nat.zero_le _, rfl, by simp, Below.refl _ _⟩
  case round =>
    obtain ⟨k, hk, rfl, hno, hb⟩ := hrel
    by_cases hlt : k < l.length
    · obtain ⟨b, o, rfl, x0⟩ := row_int (Hl.out.below hb) k hlt
      have hmem : l[k] ∈ l := List.getElem_mem hlt
      have hsucc : (l.take (k + 1)).contains x = ((l.take k).contains x || l[k] == x) := by
        rw [List.take_succ_eq_append_getElem hlt, Bool.eq_iff_iff]
        simp only [List.contains_iff_mem, List.mem_append, List.mem_singleton, Bool.or_eq_true, beq_iff_eq]
        exact ⟨fun h => h.imp (fun h => h) (fun h => h.symm), fun h => h.imp (fun h => h) (fun h => h.symm)⟩
      have hkl : (k : Int) < (l.length : Int) := by omega
      generalize l[k] = y at *
      have Hno := Lib.hid hno
      have Hb := Lib.hid hb
      have Hsucc := Lib.hid hsucc
      have Hmem := Lib.hid hmem
      clear hno hb hsucc hmem
      cases ht : (y == x)
      · have Ht := Lib.hid ht
        go_wp2
        go_roundw
        case measure => simp [intOf]; omega
        case rel => exact ⟨k + 1, hlt, by go_num, by rw [Hsucc.out, Hno.out, Ht.out]; rfl, Hb.out⟩
      · have Ht := Lib.hid ht
        go_wp2
        go_ret
        refine ⟨?_, Hb.out⟩
        have e : y = x := by simpa using Ht.out
        have hc : l.contains x = true := by rw [List.contains_iff_mem]; exact e ▸ Hmem.out
        rw [← Hr.out, hc]; rfl
    · have hkk : k = l.length := by omega
      subst hkk
      rw [List.take_length] at hno
      have Hno := Lib.hid hno
      have Hb := Lib.hid hb
      clear hno hb
      go_wp2
      go_ret
      exact ⟨by rw [← Hr.out, Hno.out]; rfl, Hb.out⟩

theorem has01_any (n : Nat) (A : Option Addr) (cap : Nat) (l : List Int) (x : Int) (w : World) (B : Nat) (hl : RowsAt 1 icell w B A l) (hB : B ≤ w.heap.size) (hlen : l.length ≤ 1000) (hn : n = l.length) {b : Bool} (hb : l.contains x = b) :
    Calls Try.prog 72 #[.slice A n cap, .int .i64 x] w fun e w' => e = .returned (.bool b) ∧ Below w.heap.size w w' := has02_any n A cap l x w B hl hB (by omega) hn hb
theorem lans_any (w : World) : Calls Try.prog 133 #[] w fun e w' => e = .returned (.slice (some ⟨w.heap.size, 0, none⟩) 4 4) ∧ w' = w.alloc (.cells #[.int .i64 0, .int .i64 1, .int .i64 2, .int .i64 3] 3) := by
  go_enter Try.func133, Try.ntmps133
  go_wp2
  go_ret
  exact ⟨rfl, rfl⟩

/-- whether two are joined by a network, and by one of the first n -/
def joinL (C : List Stt) (a b : Int) (lan : Nat) : Bool := leadsB (candsOf C lan) 0 && (onOf C lan).contains a && (onOf C lan).contains b
def joinB (C : List Stt) (a b : Int) (n : Nat) : Bool := (List.range n).any (joinL C a b)
theorem joinB_succ (C : List Stt) (a b : Int) (n : Nat) : joinB C a b (n + 1) = (joinB C a b n || joinL C a b n) := by
  unfold joinB
  rw [List.range_succ, List.any_append]
  simp
theorem joinL_cases (C : List Stt) (a b : Int) (lan : Nat) : (leadsB (candsOf C lan) 0 = false ∧ joinL C a b lan = false) ∨ (leadsB (candsOf C lan) 0 = true ∧ (onOf C lan).contains a = false ∧ joinL C a b lan = false) ∨
    (leadsB (candsOf C lan) 0 = true ∧ (onOf C lan).contains a = true ∧ (onOf C lan).contains b = false ∧ joinL C a b lan = false) ∨ (leadsB (candsOf C lan) 0 = true ∧ (onOf C lan).contains a = true ∧ (onOf C lan).contains b = true ∧ joinL C a b lan = true) := by
  unfold joinL
  cases leadsB (candsOf C lan) 0 <;> cases (onOf C lan).contains a <;> cases (onOf C lan).contains b <;> simp
theorem lan_cell {w wr : World} (h : Blk wr w.heap.size 3 #[.int .i64 0, .int .i64 1, .int .i64 2, .int .i64 3]) (k : Nat) (hk : k < 4) : wr.cell? ⟨w.heap.size, k, none⟩ = some (.int .i64 (k : Int)) := by
  rw [h.cell k]
  match k, hk with
  | 0, _ => rfl
  | 1, _ => rfl
  | 2, _ => rfl
  | 3, _ => rfl

set_option maxHeartbeats 4000000 in
set_option maxRecDepth 100000 in
theorem joined_any (n : Nat) (A : Option Addr) (cap : Nat) (C : List Stt) (a b : Int) (w : World) (B : Nat) (hl : StatesAt w B A C) (hB : B ≤ w.heap.size) (hlen : C.length ≤ 1000) (hn : n = C.length) {x : Bool} (hx : joinB C a b 4 = x) :
    Calls Try.prog 107 #[.slice A n cap, .int .i64 a, .int .i64 b] w fun e w' => e = .returned (.bool x) ∧ Below w.heap.size w w' := by
  subst hn
  have Hl := Lib.hid (hl.more hB)
  have Hx := Lib.hid hx
  have hcl : ∀ lan, (candsOf C lan).length ≤ 1000 := fun lan => by rw [← candsRK_all]; exact Nat.le_trans (candsRK_len _ _ _) hlen
  have Hcl := Lib.hid hcl
  clear hl hB hx hcl
  go_enter Try.func107, Try.ntmps107
  go_wp2_with (go_at_call 133; (with_reducible refine Calls.mono (lans_any _) ?_); rintro r w1 ⟨rfl, hw1⟩; have hb1 : Below w.heap.size w w1 := (by rw [hw1]; exact (Below.refl _ _).alloc (Nat.le_refl _) _); have hk1 : Blk w1 w.heap.size 3 #[.int .i64 0, .int .i64 1, .int .i64 2, .int .i64 3] := (by rw [hw1]; exact Blk.new _ _ _); have Hb1 := Lib.hid hb1; have Hk1 := Lib.hid hk1; clear hw1 hb1 hk1)
  go_loopw [8] (fun i wr => ∃ k : Nat, k ≤ 4 ∧ i = .int .i64 k ∧ joinB C a b k = false ∧ Blk wr w.heap.size 3 #[.int .i64 0, .int .i64 1, .int .i64 2, .int .i64 3] ∧ Below w.heap.size w wr) (fun i _ => 4 - (intOf i).toNat)
  case atStart => exact ⟨0, Nat.zero_le _, rfl, rfl, Hk1.out, Hb1.out⟩
  case round =>
    obtain ⟨k, hk, rfl, hno, hkk, hb⟩ := hrel
    by_cases hlt : k < 4
    · have x0 := lan_cell hkk k hlt
      have hkl : (k : Int) < 4 := by omega
      have hsucc := joinB_succ C a b k
      have Hjc := Lib.hid (joinL_cases C a b k)
      have Hno := Lib.hid hno
      have Hkk := Lib.hid hkk
      have Hb := Lib.hid hb
      have Hsucc := Lib.hid hsucc
      clear hno hkk hb hsucc
      go_wp2_with (first
        | (go_at_call 25; (with_reducible refine Calls.mono (refOn_any _ _ _ C (k : Int) _ _ (Hl.out.below Hb.out) Hb.out.size hlen rfl) ?_); rintro r w2 ⟨v2, rfl, hown2, hb2⟩; obtain ⟨A2, c2, rfl⟩ := hown2.shape; have Hrow := Lib.hid hown2.rows1.2; have Hkk := Lib.hid (Hkk.out.below hb2 Hkk.out.lt); have x1 := lan_cell Hkk.out k hlt; have Hb := Lib.hid (Hb.out.trans (hb2.mono Hb.out.size)); clear hb2 hown2)
        | (go_at_call 64; (with_reducible refine Calls.mono (refCands_any _ _ _ C (k : Int) _ _ (Hl.out.below Hb.out) Hb.out.size hlen rfl) ?_); rintro r w3 ⟨v3, rfl, hown3, hb3⟩; obtain ⟨A3, c3, rfl, hca3⟩ := OwnC.shape hown3; have Hca := Lib.hid hca3; have Hrow := Lib.hid ((Hrow.out.below hb3).more hb3.size); have Hkk := Lib.hid (Hkk.out.below hb3 Hkk.out.lt); have Hb := Lib.hid (Hb.out.trans (hb3.mono Hb.out.size)); clear hb3 hown3 hca3))
      rcases Hjc.out with ⟨t1, hj⟩ | ⟨t1, t2, hj⟩ | ⟨t1, t2, t3, hj⟩ | ⟨t1, t2, t3, hj⟩
      all_goals
        have Hj := Lib.hid hj
        clear hj
        with_reducible refine Calls.mono (refMay_any _ _ _ (candsOf C (k : Int)) _ _ _ Hca.out (Nat.le_refl _) (Hcl.out _) rfl t1) ?_
        rintro r w4 ⟨rfl, hb4⟩
        have Hrow := Lib.hid ((Hrow.out.below hb4).more hb4.size)
        have Hkk := Lib.hid (Hkk.out.below hb4 Hkk.out.lt)
        have Hb := Lib.hid (Hb.out.trans (hb4.mono Hb.out.size))
        have T1 := Lib.hid t1
        clear hb4 t1
      · go_wp2
        go_roundw
        case measure => simp [intOf]; omega
        case rel => exact ⟨k + 1, hlt, by go_num, by rw [Hsucc.out, Hno.out, Hj.out]; rfl, Hkk.out, Hb.out⟩
      · have T2 := Lib.hid t2
        clear t2
        go_wp2_with fail
        with_reducible refine Calls.mono (has01_any _ _ _ (onOf C (k : Int)) a _ _ Hrow.out (Nat.le_refl _) (by unfold onOf; rw [List.length_map]; exact Hcl.out _) rfl T2.out) ?_
        rintro r w5 ⟨rfl, hb5⟩
        have Hrow := Lib.hid ((Hrow.out.below hb5).more hb5.size)
        have Hkk := Lib.hid (Hkk.out.below hb5 Hkk.out.lt)
        have Hb := Lib.hid (Hb.out.trans (hb5.mono Hb.out.size))
        clear hb5
        go_wp2
        go_roundw
        case measure => simp [intOf]; omega
        case rel => exact ⟨k + 1, hlt, by go_num, by rw [Hsucc.out, Hno.out, Hj.out]; rfl, Hkk.out, Hb.out⟩
      · have T2 := Lib.hid t2
        have T3 := Lib.hid t3
        clear t2 t3
        go_wp2_with fail
        with_reducible refine Calls.mono (has01_any _ _ _ (onOf C (k : Int)) a _ _ Hrow.out (Nat.le_refl _) (by unfold onOf; rw [List.length_map]; exact Hcl.out _) rfl T2.out) ?_
        rintro r w5 ⟨rfl, hb5⟩
        have Hrow := Lib.hid ((Hrow.out.below hb5).more hb5.size)
        have Hkk := Lib.hid (Hkk.out.below hb5 Hkk.out.lt)
        have Hb := Lib.hid (Hb.out.trans (hb5.mono Hb.out.size))
        clear hb5
        go_wp2_with fail
        with_reducible refine Calls.mono (has01_any _ _ _ (onOf C (k : Int)) b _ _ Hrow.out (Nat.le_refl _) (by unfold onOf; rw [List.length_map]; exact Hcl.out _) rfl T3.out) ?_
        rintro r w5 ⟨rfl, hb5⟩
        have Hrow := Lib.hid ((Hrow.out.below hb5).more hb5.size)
        have Hkk := Lib.hid (Hkk.out.below hb5 Hkk.out.lt)
        have Hb := Lib.hid (Hb.out.trans (hb5.mono Hb.out.size))
        clear hb5
        go_wp2
        go_roundw
        case measure => simp [intOf]; omega
        case rel => exact ⟨k + 1, hlt, by go_num, by rw [Hsucc.out, Hno.out, Hj.out]; rfl, Hkk.out, Hb.out⟩
      · have T2 := Lib.hid t2
        have T3 := Lib.hid t3
        clear t2 t3
        go_wp2_with fail
        with_reducible refine Calls.mono (has01_any _ _ _ (onOf C (k : Int)) a _ _ Hrow.out (Nat.le_refl _) (by unfold onOf; rw [List.length_map]; exact Hcl.out _) rfl T2.out) ?_
        rintro r w5 ⟨rfl, hb5⟩
        have Hrow := Lib.hid ((Hrow.out.below hb5).more hb5.size)
        have Hkk := Lib.hid (Hkk.out.below hb5 Hkk.out.lt)
        have Hb := Lib.hid (Hb.out.trans (hb5.mono Hb.out.size))
        clear hb5
        go_wp2_with fail
        with_reducible refine Calls.mono (has01_any _ _ _ (onOf C (k : Int)) b _ _ Hrow.out (Nat.le_refl _) (by unfold onOf; rw [List.length_map]; exact Hcl.out _) rfl T3.out) ?_
        rintro r w5 ⟨rfl, hb5⟩
        have Hrow := Lib.hid ((Hrow.out.below hb5).more hb5.size)
        have Hkk := Lib.hid (Hkk.out.below hb5 Hkk.out.lt)
        have Hb := Lib.hid (Hb.out.trans (hb5.mono Hb.out.size))
        clear hb5
        go_wp2
        go_ret
        refine ⟨?_, Hb.out⟩
        have h4 : joinB C a b 4 = true := by
          unfold joinB
          rw [List.any_eq_true]
          exact ⟨k, List.mem_range.2 hlt, Hj.out⟩
        rw [← Hx.out, h4]; rfl
    · have hk4 : k = 4 := by omega
      subst hk4
      have Hno := Lib.hid hno
      have Hb := Lib.hid hb
      clear hno hkk hb
      go_wp2
      go_ret
      exact ⟨by rw [← Hx.out, Hno.out]; rfl, Hb.out⟩

end Go.Proofs.Ytfhikkmgclkcdaa
