/-
  Which descriptions are right: the program's answer.
-/
import Derived.Test.YtpnbibokddhheaaHdDec
import Derived.Test.YtpnbibokddhheaaMem
import Derived.Test.YtpnbibokddhheaaGrown
namespace Go.Proofs.Ytpnbibokddhheaa
open Go.RowKit

def inB (n a b : Int) : Bool := decide (a ≤ n) && decide (n ≤ b)
def headB (h : Hd) : Bool := inB h.age 0 60 && inB h.kind 1 2 && inB h.adv 1 15 && inB h.seq (-2147483647) 2147483647
def linkB (x : Lnk) : Bool := inB x.kind 2 3 && inB x.id 0 63 && inB x.data 0 63 && inB x.cost 1 100
def linksB (l : List Lnk) : Bool := l.all linkB && decide (l.length ≤ 4)
def memC : Int → List Int → Bool
  | _, [] => true
  | last, x :: l => inB x (last + 1) 15 && memC x l
def membersB (l : List Int) : Bool := memC 0 l && decide (0 < l.length)
def rightB (x : Lsa) : Bool := headB x.head && if x.head.kind = 1 then decide (x.head.id = x.head.adv) && decide (x.members.length = 0) && linksB x.links else inB x.head.id 0 63 && decide (x.links.length = 0) && membersB x.members
theorem in_cases (n a b : Int) : (decide (a ≤ n) = false ∧ inB n a b = false) ∨ (decide (a ≤ n) = true ∧ decide (n ≤ b) = inB n a b) := by
  unfold inB
  cases h : decide (a ≤ n) <;> simp
theorem inB_iff {n a b : Int} : inB n a b = true ↔ a ≤ n ∧ n ≤ b := by simp [inB]

theorem bool4 (a b c d : Bool) : a = false ∨ (a = true ∧ b = false) ∨ (a = true ∧ b = true ∧ c = false) ∨ (a = true ∧ b = true ∧ c = true ∧ d = false) ∨ (a = true ∧ b = true ∧ c = true ∧ d = true) := by
  cases a <;> cases b <;> cases c <;> cases d <;> simp
theorem bool4n (a b c d : Bool) : ((a && b && c && d) = false ∧ (a = false ∨ (a = true ∧ b = false) ∨ (a = true ∧ b = true ∧ c = false) ∨ (a = true ∧ b = true ∧ c = true ∧ d = false))) ∨ ((a && b && c && d) = true ∧ a = true ∧ b = true ∧ c = true ∧ d = true) := by
  cases a <;> cases b <;> cases c <;> cases d <;> simp
set_option maxHeartbeats 1000000 in
theorem in_v (n a b : Int) (w : World) {t : Bool} (ht : inB n a b = t) : Calls Try.prog 77 #[.int .i64 n, .int .i64 a, .int .i64 b] w fun r w' => r = .returned (.bool t) ∧ w = w' := by
  rcases in_cases n a b with ⟨h1, h2⟩ | ⟨h1, h2⟩
  · rw [h2] at ht
    subst ht
    clear h2
    go_enter Try.func77, Try.ntmps77
    go_wp2
    go_ret
    exact ⟨rfl, rfl⟩
  · rw [ht] at h2
    clear ht
    go_enter Try.func77, Try.ntmps77
    go_wp2
    go_ret
    exact ⟨rfl, rfl⟩

set_option maxHeartbeats 2000000 in
set_option maxRecDepth 100000 in
theorem lsaHead_any (a1 a2 a3 a4 a5 a6 a7 : Int) (w : World) {t : Bool} (ht : headB ⟨a1, a2, a3, a4, a5, a6, a7⟩ = t) : Calls Try.prog 75 #[.agg #[.int .i64 a1, .int .i64 a2, .int .i64 a3, .int .i64 a4, .int .i64 a5, .int .i64 a6, .int .i64 a7]] w fun r w' => r = .returned (.bool t) ∧ Below w.heap.size w w' := by
  unfold headB at ht
  simp only at ht
  obtain ⟨t1, h1⟩ : ∃ t1, inB a1 0 60 = t1 := ⟨_, rfl⟩
  obtain ⟨t2, h2⟩ : ∃ t2, inB a2 1 2 = t2 := ⟨_, rfl⟩
  obtain ⟨t3, h3⟩ : ∃ t3, inB a4 1 15 = t3 := ⟨_, rfl⟩
  obtain ⟨t4, h4⟩ : ∃ t4, inB a5 (-2147483647) 2147483647 = t4 := ⟨_, rfl⟩
  rw [h1, h2, h3, h4] at ht
  have H1 := Lib.hid h1
  have H2 := Lib.hid h2
  have H3 := Lib.hid h3
  have H4 := Lib.hid h4
  clear h1 h2 h3 h4
  have Hb := Lib.hid ((Below.refl w.heap.size w).alloc (Nat.le_refl _) (.cells #[.int .i64 a1, .int .i64 a2, .int .i64 a3, .int .i64 a4, .int .i64 a5, .int .i64 a6, .int .i64 a7] 34))
  rcases bool4 t1 t2 t3 t4 with rfl | ⟨rfl, rfl⟩ | ⟨rfl, rfl, rfl⟩ | ⟨rfl, rfl, rfl, rfl⟩ | ⟨rfl, rfl, rfl, rfl⟩
  all_goals
    simp only [Bool.false_and, Bool.and_false, Bool.and_true] at ht
    subst ht
    go_enter Try.func75, Try.ntmps75
    go_wp2_with (first
      | (go_at_call 77; (with_reducible refine Calls.mono (in_v a1 0 60 _ H1.out) ?_); rintro r w2 ⟨rfl, rfl⟩)
      | (go_at_call 77; (with_reducible refine Calls.mono (in_v a2 1 2 _ H2.out) ?_); rintro r w2 ⟨rfl, rfl⟩)
      | (go_at_call 77; (with_reducible refine Calls.mono (in_v a4 1 15 _ H3.out) ?_); rintro r w2 ⟨rfl, rfl⟩)
      | (go_at_call 77; (with_reducible refine Calls.mono (in_v a5 (-2147483647) 2147483647 _ H4.out) ?_); rintro r w2 ⟨rfl, rfl⟩))
    go_ret
    exact ⟨rfl, Hb.out⟩

theorem row_lnk {w : World} {B : Nat} {A : Option Addr} {l : List Lnk} (h : RowsAt 4 Lnk.cells w B A l) (k : Nat) (hk : k < l.length) :
    ∃ b o, A = some ⟨b, o, none⟩ ∧ b < B ∧ w.cell? ⟨b, o + k * 4, none⟩ = some (.int .i64 l[k].kind) ∧ w.cell? ⟨b, o + k * 4 + 1, none⟩ = some (.int .i64 l[k].id) ∧ w.cell? ⟨b, o + k * 4 + 2, none⟩ = some (.int .i64 l[k].data) ∧ w.cell? ⟨b, o + k * 4 + 3, none⟩ = some (.int .i64 l[k].cost) := by
  obtain ⟨b, o, e, hb, hc⟩ := h (by omega)
  exact ⟨b, o, e, hb, by simpa using hc k hk 0 _ (by omega) rfl, hc k hk 1 _ (by omega) rfl, hc k hk 2 _ (by omega) rfl, hc k hk 3 _ (by omega) rfl⟩
theorem row_int {w : World} {B : Nat} {A : Option Addr} {l : List Int} (h : RowsAt 1 icell w B A l) (k : Nat) (hk : k < l.length) :
    ∃ b o, A = some ⟨b, o, none⟩ ∧ b < B ∧ w.cell? ⟨b, o + k, none⟩ = some (.int .i64 l[k]) := by
  obtain ⟨b, o, e, hb, hc⟩ := h (by omega)
  exact ⟨b, o, e, hb, by simpa using hc k hk 0 _ (by omega) rfl⟩

set_option maxHeartbeats 4000000 in
set_option maxRecDepth 100000 in
theorem lsaLinks_any (A : Option Addr) (c : Nat) (l : List Lnk) (w : World) (B : Nat) (h : RowsAt 4 Lnk.cells w B A l) (hB : B ≤ w.heap.size) (hm : l.length ≤ maxLen) {t : Bool} (ht : linksB l = t) (n : Nat) (hn : n = l.length) :
    Calls Try.prog 76 #[.slice A n c] w fun r w' => r = .returned (.bool t) ∧ Below w.heap.size w w' := by
  subst hn
  unfold maxLen at hm
  have H := Lib.hid (h.more hB)
  have Ht := Lib.hid ht
  clear h hB ht
  go_enter Try.func76, Try.ntmps76
  go_wp2
  go_loopw [7] (fun i wr => ∃ k : Nat, i = .int .i64 k ∧ k ≤ l.length ∧ (l.take k).all linkB = true ∧ Below w.heap.size w wr) (fun i _ => l.length - (intOf i).toNat)
  case atStart => exact ⟨0, rfl, Nat.zero_le _, by simp, Below.refl _ _⟩
  case round =>
    obtain ⟨k, rfl, hk, hall, hb⟩ := hrel
    have Hb := Lib.hid hb
    by_cases hlt : k < l.length
    · obtain ⟨g, o, rfl, -, z0, z1, z2, z3⟩ := row_lnk (H.out.below hb) k hlt
      have hkl : (k : Int) < (l.length : Int) := by omega
      have hno : linkB l[k] = false → linksB l = false := fun h => by
        unfold linksB
        have : l.all linkB = false := by
          rw [List.all_eq_false]
          exact ⟨l[k], List.getElem_mem hlt, by simp [h]⟩
        rw [this]; rfl
      have hyes : linkB l[k] = true → (l.take (k + 1)).all linkB = true := fun h => by
        rw [List.take_succ_eq_append_getElem hlt, List.all_append, hall]
        simp [h]
      have Hno := Lib.hid hno
      have Hyes := Lib.hid hyes
      have Hal := Lib.hid (fun o => hb.alloc hb.size o)
      clear hb hno hyes hall
      generalize l[k] = x at *
      obtain ⟨x1, x2, x3, x4⟩ := x
      simp only at z0 z1 z2 z3
      unfold linkB at Hno Hyes
      simp only at Hno Hyes
      obtain ⟨t1, h1⟩ : ∃ t1, inB x1 2 3 = t1 := ⟨_, rfl⟩
      obtain ⟨t2, h2⟩ : ∃ t2, inB x2 0 63 = t2 := ⟨_, rfl⟩
      obtain ⟨t3, h3⟩ : ∃ t3, inB x3 0 63 = t3 := ⟨_, rfl⟩
      obtain ⟨t4, h4⟩ : ∃ t4, inB x4 1 100 = t4 := ⟨_, rfl⟩
      rw [h1, h2, h3, h4] at Hno Hyes
      have H1 := Lib.hid h1
      have H2 := Lib.hid h2
      have H3 := Lib.hid h3
      have H4 := Lib.hid h4
      clear h1 h2 h3 h4
      rcases bool4n t1 t2 t3 t4 with ⟨hv, hd⟩ | ⟨hv, rfl, rfl, rfl, rfl⟩
      · have ht2 : t = false := by rw [← Ht.out]; exact Hno.out hv
        subst ht2
        clear Hyes Hno hv
        rcases hd with rfl | ⟨rfl, rfl⟩ | ⟨rfl, rfl, rfl⟩ | ⟨rfl, rfl, rfl, rfl⟩
        all_goals
          go_wp2_with (first
            | (go_at_call 77; (with_reducible refine Calls.mono (in_v x1 2 3 _ H1.out) ?_); rintro r w2 ⟨rfl, rfl⟩)
            | (go_at_call 77; (with_reducible refine Calls.mono (in_v x4 1 100 _ H4.out) ?_); rintro r w2 ⟨rfl, rfl⟩)
            | (go_at_call 77; (with_reducible refine Calls.mono (in_v x2 0 63 _ H2.out) ?_); rintro r w2 ⟨rfl, rfl⟩)
            | (go_at_call 77; (with_reducible refine Calls.mono (in_v x3 0 63 _ H3.out) ?_); rintro r w2 ⟨rfl, rfl⟩))
          go_ret
          exact ⟨rfl, Hal.out _⟩
      · have Hy := Lib.hid (Hyes.out hv)
        clear Hno Hyes hv
        go_wp2_with (first
          | (go_at_call 77; (with_reducible refine Calls.mono (in_v x1 2 3 _ H1.out) ?_); rintro r w2 ⟨rfl, rfl⟩)
          | (go_at_call 77; (with_reducible refine Calls.mono (in_v x4 1 100 _ H4.out) ?_); rintro r w2 ⟨rfl, rfl⟩)
          | (go_at_call 77; (with_reducible refine Calls.mono (in_v x2 0 63 _ H2.out) ?_); rintro r w2 ⟨rfl, rfl⟩)
          | (go_at_call 77; (with_reducible refine Calls.mono (in_v x3 0 63 _ H3.out) ?_); rintro r w2 ⟨rfl, rfl⟩))
        go_roundw
        case measure => simp [intOf]; omega
        case rel => exact ⟨k + 1, by go_num, hlt, Hy.out, Hal.out _⟩
    · have hkk : k = l.length := by omega
      subst hkk
      rw [List.take_length] at hall
      have ht2 : decide ((l.length : Int) ≤ 4) = t := by
        rw [← Ht.out]
        unfold linksB
        rw [hall, Bool.true_and]
        simp only [decide_eq_decide]
        omega
      clear hb hall
      go_wp2
      go_ret
      exact ⟨rfl, Hb.out⟩

theorem memC_take {last : Int} {l : List Int} {k : Nat} (hk : k < l.length) (h : memC last (l.take k) = true) :
    memC last (l.take (k + 1)) = inB l[k] (((last :: l.take k).getLast (by simp)) + 1) 15 ∧ (inB l[k] (((last :: l.take k).getLast (by simp)) + 1) 15 = false → memC last l = false) := by
  induction l generalizing last k with
  | nil => simp at hk
  | cons x l ih =>
    cases k with
    | zero =>
      simp only [List.take_zero, List.take_succ_cons, memC, List.getElem_cons_zero, Bool.and_true, List.getLast_singleton, true_and]
      intro h2
      rw [h2]; rfl
    | succ k =>
      simp only [List.take_succ_cons, memC, Bool.and_eq_true] at h
      obtain ⟨h1, h2⟩ := ih (last := x) (k := k) (by simpa using hk) h.2
      simp only [List.take_succ_cons, memC, List.getElem_cons_succ, h.1, Bool.true_and]
      rw [List.getLast_cons (by simp)]
      exact ⟨h1, h2⟩

set_option maxHeartbeats 4000000 in
set_option maxRecDepth 100000 in
theorem lsaMembers_any (A : Option Addr) (c : Nat) (l : List Int) (w : World) (B : Nat) (h : RowsAt 1 icell w B A l) (hB : B ≤ w.heap.size) (hm : l.length ≤ maxLen) {t : Bool} (ht : membersB l = t) (n : Nat) (hn : n = l.length) :
    Calls Try.prog 78 #[.slice A n c] w fun r w' => r = .returned (.bool t) ∧ Below w.heap.size w w' := by
  subst hn
  unfold maxLen at hm
  have H := Lib.hid (h.more hB)
  have Ht := Lib.hid ht
  clear h hB ht
  go_enter Try.func78, Try.ntmps78
  go_wp2
  go_loopw [3, 8] (fun la i wr => ∃ (k : Nat) (z : Int), i = .int .i64 k ∧ la = .int .i64 z ∧ k ≤ l.length ∧ memC 0 (l.take k) = true ∧ (((0 : Int) :: l.take k).getLast (by simp)) = z ∧ 0 ≤ z ∧ z ≤ 15 ∧ wr = w) (fun _ i _ => l.length - (intOf i).toNat)
  case atStart => exact ⟨0, 0, rfl, rfl, Nat.zero_le _, rfl, rfl, by omega, by omega, rfl⟩
  case round =>
    obtain ⟨k, z, rfl, rfl, hk, hmem, hz, hz0, hz15, rfl⟩ := hrel
    by_cases hlt : k < l.length
    · obtain ⟨g, o, rfl, -, z0⟩ := row_int H.out k hlt
      have hkl : (k : Int) < (l.length : Int) := by omega
      obtain ⟨m1, m2⟩ := memC_take hlt hmem
      rw [hz] at m1 m2
      have hlast : (((0 : Int) :: l.take (k + 1)).getLast (by simp)) = l[k] := by
        have : (0 : Int) :: l.take (k + 1) = ((0 : Int) :: l.take k) ++ [l[k]] := by rw [List.take_succ_eq_append_getElem hlt]; rfl
        simp only [this, List.getLast_append, List.getLast_singleton]
        simp
      generalize l[k] = x at *
      obtain ⟨t1, h1⟩ : ∃ t1, inB x (z + 1) 15 = t1 := ⟨_, rfl⟩
      rw [h1] at m1 m2
      have H1 := Lib.hid h1
      have Hlast := Lib.hid hlast
      have M1 := Lib.hid m1
      cases t1
      · have ht2 : t = false := by rw [← Ht.out]; unfold membersB; rw [m2 rfl]; rfl
        subst ht2
        clear h1 m1 m2 hlast hmem hz
        go_wp2_with (go_at_call 77; (with_reducible refine Calls.mono (in_v x (z + 1) 15 _ H1.out) ?_); rintro r w2 ⟨rfl, rfl⟩)
        go_ret
        exact ⟨rfl, Below.refl _ _⟩
      · have hx := inB_iff.1 h1
        clear h1 m1 m2 hlast hmem hz
        go_wp2_with (go_at_call 77; (with_reducible refine Calls.mono (in_v x (z + 1) 15 _ H1.out) ?_); rintro r w2 ⟨rfl, rfl⟩)
        go_roundw
        case measure => simp [intOf]; omega
        case rel => exact ⟨k + 1, x, by go_num, rfl, hlt, M1.out, Hlast.out, by omega, by omega, trivial⟩
    · have hkk : k = l.length := by omega
      subst hkk
      have ht2 : decide (0 < l.length) = t := by
        rw [← Ht.out]
        unfold membersB
        rw [List.take_length] at hmem
        rw [hmem, Bool.true_and]
      clear hmem hz
      go_wp2
      go_ret
      exact ⟨rfl, Below.refl _ _⟩

def Lsa.val (x : Lsa) : Value := .agg x.cells.toArray
theorem right_cases (x : Lsa) : (headB x.head = false ∧ rightB x = false) ∨
    (headB x.head = true ∧ (x.head.kind == 1) = true ∧ decide (x.head.id = x.head.adv) = false ∧ rightB x = false) ∨
    (headB x.head = true ∧ (x.head.kind == 1) = true ∧ decide (x.head.id = x.head.adv) = true ∧ x.members.length ≠ 0 ∧ rightB x = false) ∨
    (headB x.head = true ∧ (x.head.kind == 1) = true ∧ decide (x.head.id = x.head.adv) = true ∧ x.members.length = 0 ∧ rightB x = linksB x.links) ∨
    (headB x.head = true ∧ (x.head.kind == 1) = false ∧ inB x.head.id 0 63 = false ∧ rightB x = false) ∨
    (headB x.head = true ∧ (x.head.kind == 1) = false ∧ inB x.head.id 0 63 = true ∧ x.links.length ≠ 0 ∧ rightB x = false) ∨
    (headB x.head = true ∧ (x.head.kind == 1) = false ∧ inB x.head.id 0 63 = true ∧ x.links.length = 0 ∧ rightB x = membersB x.members) := by
  unfold rightB
  by_cases hk : x.head.kind = 1
  · rw [if_pos hk]
    cases headB x.head <;> by_cases h1 : x.head.id = x.head.adv <;> by_cases h2 : x.members.length = 0 <;> simp [hk, h1, h2]
  · rw [if_neg hk]
    cases headB x.head <;> cases inB x.head.id 0 63 <;> by_cases h2 : x.links.length = 0 <;> simp [hk, h2]
theorem blk9 {w : World} {g : Nat} {t : TypeId} {a b c d e f x y z : Value} (h : Blk w g t #[a, b, c, d, e, f, x, y, z]) : w.cell? ⟨g, 0, none⟩ = some a ∧ w.cell? ⟨g, 1, none⟩ = some b ∧ w.cell? ⟨g, 2, none⟩ = some c ∧ w.cell? ⟨g, 3, none⟩ = some d ∧ w.cell? ⟨g, 4, none⟩ = some e ∧ w.cell? ⟨g, 5, none⟩ = some f ∧ w.cell? ⟨g, 6, none⟩ = some x ∧ w.cell? ⟨g, 7, none⟩ = some y ∧ w.cell? ⟨g, 8, none⟩ = some z ∧ ∀ i, w.frozen? ⟨g, i, none⟩ = false :=
  ⟨h.cell 0, h.cell 1, h.cell 2, h.cell 3, h.cell 4, h.cell 5, h.cell 6, h.cell 7, h.cell 8, fun i => h.frozen i⟩
set_option maxHeartbeats 4000000 in
set_option maxRecDepth 100000 in
theorem lsaRight_any (a1 a2 a3 a4 a5 a6 a7 : Int) (ka : Option Addr) (kc : Nat) (ls : List Lnk) (ma : Option Addr) (mc : Nat) (ms : List Int) (w : World) (B : Nat) (hl : RowsAt 4 Lnk.cells w B ka ls) (hm : RowsAt 1 icell w B ma ms) (hB : B ≤ w.heap.size) (hlm : ls.length ≤ maxLen) (hmm : ms.length ≤ maxLen) (nl nm : Nat) (hnl : nl = ls.length) (hnm : nm = ms.length) {t : Bool} (ht : rightB ⟨⟨a1, a2, a3, a4, a5, a6, a7⟩, ka, kc, ls, ma, mc, ms⟩ = t) :
    Calls Try.prog 50 #[.agg #[.int .i64 a1, .int .i64 a2, .int .i64 a3, .int .i64 a4, .int .i64 a5, .int .i64 a6, .int .i64 a7, .slice ka nl kc, .slice ma nm mc]] w fun r w' => r = .returned (.bool t) ∧ Below w.heap.size w w' := by
  have hcs := right_cases ⟨⟨a1, a2, a3, a4, a5, a6, a7⟩, ka, kc, ls, ma, mc, ms⟩
  simp only at hcs
  rw [← hnl, ← hnm] at hcs
  obtain ⟨w0, hW0⟩ : ∃ w0, w.alloc (.cells #[.int .i64 a1, .int .i64 a2, .int .i64 a3, .int .i64 a4, .int .i64 a5, .int .i64 a6, .int .i64 a7, .slice ka nl kc, .slice ma nm mc] 38) = w0 := ⟨_, rfl⟩
  have hk0 := Blk.new w 38 #[.int .i64 a1, .int .i64 a2, .int .i64 a3, .int .i64 a4, .int .i64 a5, .int .i64 a6, .int .i64 a7, .slice ka nl kc, .slice ma nm mc]
  have hb0 := (Below.refl w.heap.size w).alloc (Nat.le_refl _) (.cells #[.int .i64 a1, .int .i64 a2, .int .i64 a3, .int .i64 a4, .int .i64 a5, .int .i64 a6, .int .i64 a7, .slice ka nl kc, .slice ma nm mc] 38)
  rw [hW0] at hk0 hb0
  have Hk0 := Lib.hid hk0
  have Hb0 := Lib.hid hb0
  have Hl := Lib.hid (hl.more hB)
  have Hm := Lib.hid (hm.more hB)
  obtain ⟨z0, z1, z2, z3, z4, z5, z6, z7, z8, -⟩ := blk9 hk0
  clear hl hm hB hk0 hb0
  obtain ⟨th, hth⟩ : ∃ th, headB ⟨a1, a2, a3, a4, a5, a6, a7⟩ = th := ⟨_, rfl⟩
  obtain ⟨tl, htl⟩ : ∃ tl, linksB ls = tl := ⟨_, rfl⟩
  obtain ⟨tm, htm⟩ : ∃ tm, membersB ms = tm := ⟨_, rfl⟩
  obtain ⟨ti, hti⟩ : ∃ ti, inB a3 0 63 = ti := ⟨_, rfl⟩
  rw [hth, htl, htm, hti, ht] at hcs
  have Hth := Lib.hid hth
  have Htl := Lib.hid htl
  have Htm := Lib.hid htm
  have Hti := Lib.hid hti
  clear ht hth htl htm hti
  have HC := Lib.hid (fun W (hW : Below w.heap.size w W) => lsaHead_any a1 a2 a3 a4 a5 a6 a7 W Hth.out)
  have HL := Lib.hid (fun W (hW : Below w.heap.size w W) => lsaLinks_any ka kc ls W w.heap.size (Hl.out.below hW) hW.size hlm Htl.out nl hnl)
  have HM := Lib.hid (fun W (hW : Below w.heap.size w W) => lsaMembers_any ma mc ms W w.heap.size (Hm.out.below hW) hW.size hmm Htm.out nm hnm)
  clear hnl hnm
  rcases hcs with ⟨h1, rfl⟩ | ⟨h1, h2, h3, rfl⟩ | ⟨h1, h2, h3, h4, rfl⟩ | ⟨h1, h2, h3, rfl, rfl⟩ | ⟨h1, h2, h3, rfl⟩ | ⟨h1, h2, h3, h4, rfl⟩ | ⟨h1, h2, h3, rfl, rfl⟩
  all_goals
    subst h1
    go_enter Try.func50, Try.ntmps50
    go_wp2_with fail
    with_reducible refine Calls.mono (HC.out _ Hb0.out) ?_
    rintro r w2 ⟨rfl, hb2⟩
    obtain ⟨y0, y1, y2, y3, y4, y5, y6, y7, y8, -⟩ := blk9 (Hk0.out.below hb2 Hk0.out.lt)
    have Hb2 := Lib.hid (Hb0.out.trans (hb2.mono Hb0.out.size))
    clear z0 z1 z2 z3 z4 z5 z6 z7 z8 hb2
  · go_wp2
    go_ret
    exact ⟨rfl, Hb2.out⟩
  · have g1 := of_decide_eq_false h3
    go_wp2
    go_ret
    exact ⟨rfl, Hb2.out⟩
  · have g1 := of_decide_eq_true h3
    have g2 : ¬(nm : Int) = 0 := by omega
    subst g1
    go_wp2
    go_ret
    exact ⟨rfl, Hb2.out⟩
  · have g1 := of_decide_eq_true h3
    subst g1
    go_wp2_with fail
    with_reducible refine Calls.mono (HL.out _ Hb2.out) ?_
    rintro r w3 ⟨rfl, hb3⟩
    have Hb3 := Lib.hid (Hb2.out.trans (hb3.mono Hb2.out.size))
    clear hb3
    go_wp2
    go_ret
    exact ⟨rfl, Hb3.out⟩
  · subst h3
    go_wp2_with (go_at_call 77; (with_reducible refine Calls.mono (in_v a3 0 63 _ Hti.out) ?_); rintro r w3 ⟨rfl, rfl⟩)
    go_ret
    exact ⟨rfl, Hb2.out⟩
  · subst h3
    have g2 : ¬(nl : Int) = 0 := by omega
    go_wp2_with (go_at_call 77; (with_reducible refine Calls.mono (in_v a3 0 63 _ Hti.out) ?_); rintro r w3 ⟨rfl, rfl⟩)
    go_ret
    exact ⟨rfl, Hb2.out⟩
  · subst h3
    go_wp2_with (first
      | (go_at_call 77; (with_reducible refine Calls.mono (in_v a3 0 63 _ Hti.out) ?_); rintro r w3 ⟨rfl, rfl⟩)
      | (go_at_call 78; (with_reducible refine Calls.mono (HM.out _ Hb2.out) ?_); rintro r w3 ⟨rfl, hb3⟩; have Hb3 := Lib.hid (Hb2.out.trans (hb3.mono Hb2.out.size)); clear hb3))
    go_ret
    exact ⟨rfl, Hb3.out⟩

end Go.Proofs.Ytpnbibokddhheaa
