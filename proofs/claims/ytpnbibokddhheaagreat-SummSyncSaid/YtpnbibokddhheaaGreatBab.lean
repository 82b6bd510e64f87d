/-
  What grew, and what was kept: worlds one behind the other; rows of keys.
-/
import Derived.StillTail
import Derived.Deep.QuietTactic
import Derived.Lib.QuietBelow
import Derived.OrdersHeld
import Derived.Deep.Quiet
import Derived.StillTailTactics
import Derived.Sort.Grow
import Derived.Test.YtpnbibokddhheaaGreatBaa
namespace Go.Proofs.YtpnbibokddhheaaGreat
open Go.RowKit

/-- what grew behind draws -/
theorem grown_drewN {w w' : World} {n : Nat} {row : Option Nat} (h : (w.drewN n).grownBy w' row) : w.grownBy w' row := ⟨h.os, h.tape, h.output, h.size, h.block⟩
theorem grown_alloc {w w' : World} {o : Obj} {row : Option Nat} (h : (w.alloc o).grownBy w' row) : w.grownBy w' row :=
  ⟨h.os, h.tape, h.output, by have := h.size; simp at this; omega, fun i hi hne => (h.block i (by simp; omega) hne).trans (Below.heap_alloc w o i hi)⟩
theorem grown_below {w w' w'' : World} {row : Option Nat} (h : w.grownBy w' row) (hb : Below w'.heap.size w' w'') : w.grownBy w'' row := only_below h hb h.size
theorem below_grown {w w' w'' : World} {row : Option Nat} (hb : Below w.heap.size w w') (h : w'.grownBy w'' row) : w.grownBy w'' row :=
  ⟨h.os.trans hb.os, h.tape.trans hb.tape, h.output.trans hb.output, Nat.le_trans hb.size h.size, fun i hi hne => (h.block i (Nat.lt_of_lt_of_le hi hb.size) hne).trans (hb.block i hi)⟩
theorem grown_trans {a c d : World} {row : Option Nat} (h : a.grownBy c row) (k : c.grownBy d row) : a.grownBy d row :=
  ⟨k.os.trans h.os, k.tape.trans h.tape, k.output.trans h.output, Nat.le_trans h.size k.size, fun i hi hne => (k.block i (Nat.lt_of_lt_of_le hi h.size) hne).trans (h.block i hi hne)⟩

theorem row_k3 {w : World} {B : Nat} {A : Option Addr} {l : List K3} (h : RowsAt 3 K3.cells w B A l) (k : Nat) (hk : k < l.length) :
    ∃ b o, A = some ⟨b, o, none⟩ ∧ w.cell? ⟨b, o + k * 3, none⟩ = some (.int .i64 l[k].kind) ∧ w.cell? ⟨b, o + k * 3 + 1, none⟩ = some (.int .i64 l[k].id) ∧ w.cell? ⟨b, o + k * 3 + 2, none⟩ = some (.int .i64 l[k].adv) := by
  obtain ⟨b, o, e, _, hc⟩ := h (by omega)
  exact ⟨b, o, e, by simpa using hc k hk 0 _ (by omega) rfl, hc k hk 1 _ (by omega) rfl, hc k hk 2 _ (by omega) rfl⟩

theorem row_k3_at {w : World} {B g o : Nat} {l : List K3} (h : RowsAt 3 K3.cells w B (some ⟨g, o, none⟩) l) (k : Nat) (hk : k < l.length) :
    w.cell? ⟨g, o + k * 3, none⟩ = some (.int .i64 l[k].kind) ∧ w.cell? ⟨g, o + k * 3 + 1, none⟩ = some (.int .i64 l[k].id) ∧ w.cell? ⟨g, o + k * 3 + 2, none⟩ = some (.int .i64 l[k].adv) := by
  obtain ⟨b0, o0, e, h1⟩ := row_k3 h k hk
  injection e with e
  injection e with e1 e2
  subst e1 e2
  exact h1
theorem rows_grown {α : Type} {C : Nat} {cells : α → List Value} {w : World} {B b : Nat} {A : Option Addr} {M : List α} (h : RowsAt C cells w B A M) (hB : B ≤ w.heap.size) (hne : ∀ g o, A = some ⟨g, o, none⟩ → g < B → g ≠ b) : ∀ W, w.grownBy W (some b) → RowsAt C cells W B A M := by
  intro W hg h0
  obtain ⟨b1, o1, e, hb1, hc⟩ := h h0
  refine ⟨b1, o1, e, hb1, fun k hk i u hi hu => ?_⟩
  have := hg.block b1 (by omega) (fun e2 => hne b1 o1 e hb1 (by injection e2))
  rw [← hc k hk i u hi hu]
  simp [World.cell?, this]

/-- nothing old has turned but the pointer's block and a row -/
structure Kept2 (w w' : World) (q : Nat) (row : Option Nat) : Prop where
  os : w'.os = w.os
  tape : w'.tape = w.tape
  output : w'.output = w.output
  size : w.heap.size ≤ w'.heap.size
  block : ∀ i, i < w.heap.size → i ≠ q → some i ≠ row → w'.heap[i]? = w.heap[i]?
section
variable {w w' w'' : World} {q : Nat} {row : Option Nat}
theorem Kept2.refl (w : World) (q : Nat) (row : Option Nat) : Kept2 w w q row := ⟨rfl, rfl, rfl, Nat.le_refl _, fun _ _ _ _ => rfl⟩
theorem Kept2.keep (h : Kept2 w w' q row) (hb : Below w'.heap.size w' w'') : Kept2 w w'' q row :=
  ⟨hb.os.trans h.os, hb.tape.trans h.tape, hb.output.trans h.output, Nat.le_trans h.size hb.size, fun i hi h1 h2 => (hb.block i (Nat.lt_of_lt_of_le hi h.size)).trans (h.block i hi h1 h2)⟩
theorem Kept2.grown {r2 : Option Nat} (h : Kept2 w w' q row) (hg : w'.grownBy w'' r2) (hr : ∀ g, r2 = some g → row = some g ∨ w.heap.size ≤ g) : Kept2 w w'' q row :=
  ⟨hg.os.trans h.os, hg.tape.trans h.tape, hg.output.trans h.output, Nat.le_trans h.size hg.size, fun i hi h1 h2 => (hg.block i (Nat.lt_of_lt_of_le hi h.size) (fun e => by
    rcases hr i e.symm with h3 | h3
    · exact h2 h3.symm
    · omega)).trans (h.block i hi h1 h2)⟩
theorem Kept2.set_ (h : Kept2 w w' q row) {p : Addr} (hp : p.block = q) (u : Value) : Kept2 w (w'.setCell p u) q row :=
  ⟨h.os, h.tape, h.output, by simpa [World.setCell] using h.size, fun i hi h1 h2 => (Below.heap_setCell w' p u i (by rintro rfl; exact h1 hp)).trans (h.block i hi h1 h2)⟩
theorem Kept2.rows {α : Type} {C : Nat} {cells : α → List Value} {B : Nat} {A : Option Addr} {M : List α} (h : RowsAt C cells w B A M) (hB : B ≤ w.heap.size) (hne : ∀ g o, A = some ⟨g, o, none⟩ → g ≠ q ∧ some g ≠ row) (hk : Kept2 w w' q row) : RowsAt C cells w' B A M := by
  intro h0
  obtain ⟨b1, o1, e, hb1, hc⟩ := h h0
  refine ⟨b1, o1, e, hb1, fun k hk' i u hi hu => ?_⟩
  have := hk.block b1 (by omega) (hne b1 o1 e).1 (hne b1 o1 e).2
  rw [← hc k hk' i u hi hu]
  simp [World.cell?, this]
end
theorem row_k3b {w : World} {B : Nat} {A : Option Addr} {l : List K3} (h : RowsAt 3 K3.cells w B A l) (k : Nat) (hk : k < l.length) :
    ∃ b o, A = some ⟨b, o, none⟩ ∧ b < B ∧ w.cell? ⟨b, o + k * 3, none⟩ = some (.int .i64 l[k].kind) ∧ w.cell? ⟨b, o + k * 3 + 1, none⟩ = some (.int .i64 l[k].id) ∧ w.cell? ⟨b, o + k * 3 + 2, none⟩ = some (.int .i64 l[k].adv) := by
  obtain ⟨b, o, e, hb, hc⟩ := h (by omega)
  exact ⟨b, o, e, hb, by simpa using hc k hk 0 _ (by omega) rfl, hc k hk 1 _ (by omega) rfl, hc k hk 2 _ (by omega) rfl⟩
theorem OwnR.shape2 {α : Type} {e : TypeId} {C : Nat} {cells : α → List Value} {w : World} {B : Nat} {v : Value} {L : List α} (h : OwnR e C cells w B v L) : (v = .slice none 0 0 ∧ L = []) ∨ ∃ g cap, v = .slice (some ⟨g, 0, none⟩) L.length cap ∧ L.length ≤ cap := by
  rcases h.2 with ⟨rfl, hn⟩ | ⟨g, cap, cur, rfl, _, _, hnc, _⟩
  · exact .inl ⟨rfl, List.eq_nil_of_length_eq_zero hn⟩
  · exact .inr ⟨g, cap, rfl, hnc⟩

end Go.Proofs.YtpnbibokddhheaaGreat

/-
  Which descriptions are right: the program's answer.
-/
namespace Go.Proofs.YtpnbibokddhheaaGreat
open Go.RowKit

def inB (n a b : Int) : Bool := decide (a ≤ n) && decide (n ≤ b)
def headB (h : Hd) : Bool := inB h.age 0 60 && inB h.kind 1 2 && inB h.adv 1 15 && inB h.seq (-2147483647) 2147483647
def linkB (x : Lnk) : Bool := inB x.kind 2 3 && inB x.id 0 63 && inB x.data 0 63 && inB x.cost 1 100
def linksB (l : List Lnk) : Bool := l.all linkB && decide (l.length ≤ 4)
def memC : Int → List Int → Bool
  | _, [] => true
  | last, x :: l => inB x (last + 1) 15 && memC x l
def membersB (l : List Int) : Bool := memC 0 l && decide (0 < l.length)
def rightB (x : Lsa) : Bool := headB x.head && if x.head.kind = 1 then decide (x.head.id = x.head.adv) && decide (x.members.length = 0) && linksB x.links else inB x.head.id 0 63 && decide (x.links.length = 0) && membersB x.members
theorem in_cases (n a b : Int) : (decide (a ≤ n) = false ∧ inB n a b = false) ∨ (decide (a ≤ n) = true ∧ decide (n ≤ b) = inB n a b) := by
  unfold inB
  cases h : decide (a ≤ n) <;> simp
theorem inB_iff {n a b : Int} : inB n a b = true ↔ a ≤ n ∧ n ≤ b := by simp [inB]

theorem bool4 (a b c d : Bool) : a = false ∨ (a = true ∧ b = false) ∨ (a = true ∧ b = true ∧ c = false) ∨ (a = true ∧ b = true ∧ c = true ∧ d = false) ∨ (a = true ∧ b = true ∧ c = true ∧ d = true) := by
  cases a <;> cases b <;> cases c <;> cases d <;> simp
theorem bool4n (a b c d : Bool) : ((a && b && c && d) = false ∧ (a = false ∨ (a = true ∧ b = false) ∨ (a = true ∧ b = true ∧ c = false) ∨ (a = true ∧ b = true ∧ c = true ∧ d = false))) ∨ ((a && b && c && d) = true ∧ a = true ∧ b = true ∧ c = true ∧ d = true) := by
  cases a <;> cases b <;> cases c <;> cases d <;> simp
set_option maxHeartbeats 1000000 in
theorem in_v (n a b : Int) (w : World) {t : Bool} (ht : inB n a b = t) : Calls Tryz.prog 88 #[.int .i64 n, .int .i64 a, .int .i64 b] w fun r w' => r = .returned (.bool t) ∧ w = w' := by
  rcases in_cases n a b with ⟨h1, h2⟩ | ⟨h1, h2⟩
  · rw [h2] at ht
    subst ht
    clear h2
    go_enter Tryz.func88, Tryz.ntmps88
    go_wp2
    go_ret
    exact ⟨rfl, rfl⟩
  · rw [ht] at h2
    clear ht
    go_enter Tryz.func88, Tryz.ntmps88
    go_wp2
    go_ret
    exact ⟨rfl, rfl⟩

set_option maxHeartbeats 2000000 in
set_option maxRecDepth 100000 in
theorem lsaHead_any (a1 a2 a3 a4 a5 a6 a7 : Int) (w : World) {t : Bool} (ht : headB ⟨a1, a2, a3, a4, a5, a6, a7⟩ = t) : Calls Tryz.prog 86 #[.agg #[.int .i64 a1, .int .i64 a2, .int .i64 a3, .int .i64 a4, .int .i64 a5, .int .i64 a6, .int .i64 a7]] w fun r w' => r = .returned (.bool t) ∧ Below w.heap.size w w' := by
  unfold headB at ht
  simp only at ht
  obtain ⟨t1, h1⟩ : ∃ t1, inB a1 0 60 = t1 := ⟨_, rfl⟩
  obtain ⟨t2, h2⟩ : ∃ t2, inB a2 1 2 = t2 := ⟨_, rfl⟩
  obtain ⟨t3, h3⟩ : ∃ t3, inB a4 1 15 = t3 := ⟨_, rfl⟩
  obtain ⟨t4, h4⟩ : ∃ t4, inB a5 (-2147483647) 2147483647 = t4 := ⟨_, rfl⟩
  rw [h1, h2, h3, h4] at ht
  have H1 := Lib.hid h1
  have H2 := Lib.hid h2
  have H3 := Lib.hid h3
  have H4 := Lib.hid h4
  clear h1 h2 h3 h4
  have Hb := Lib.hid ((Below.refl w.heap.size w).alloc (Nat.le_refl _) (.cells #[.int .i64 a1, .int .i64 a2, .int .i64 a3, .int .i64 a4, .int .i64 a5, .int .i64 a6, .int .i64 a7] 27))
  rcases bool4 t1 t2 t3 t4 with rfl | ⟨rfl, rfl⟩ | ⟨rfl, rfl, rfl⟩ | ⟨rfl, rfl, rfl, rfl⟩ | ⟨rfl, rfl, rfl, rfl⟩
  all_goals
    simp only [Bool.false_and, Bool.and_false, Bool.and_true] at ht
    subst ht
    go_enter Tryz.func86, Tryz.ntmps86
    go_wp2_with (first
      | (go_at_call 88; (with_reducible refine Calls.mono (in_v a1 0 60 _ H1.out) ?_); rintro r w2 ⟨rfl, rfl⟩)
      | (go_at_call 88; (with_reducible refine Calls.mono (in_v a2 1 2 _ H2.out) ?_); rintro r w2 ⟨rfl, rfl⟩)
      | (go_at_call 88; (with_reducible refine Calls.mono (in_v a4 1 15 _ H3.out) ?_); rintro r w2 ⟨rfl, rfl⟩)
      | (go_at_call 88; (with_reducible refine Calls.mono (in_v a5 (-2147483647) 2147483647 _ H4.out) ?_); rintro r w2 ⟨rfl, rfl⟩))
    go_ret
    exact ⟨rfl, Hb.out⟩

theorem row_lnk {w : World} {B : Nat} {A : Option Addr} {l : List Lnk} (h : RowsAt 4 Lnk.cells w B A l) (k : Nat) (hk : k < l.length) :
    ∃ b o, A = some ⟨b, o, none⟩ ∧ b < B ∧ w.cell? ⟨b, o + k * 4, none⟩ = some (.int .i64 l[k].kind) ∧ w.cell? ⟨b, o + k * 4 + 1, none⟩ = some (.int .i64 l[k].id) ∧ w.cell? ⟨b, o + k * 4 + 2, none⟩ = some (.int .i64 l[k].data) ∧ w.cell? ⟨b, o + k * 4 + 3, none⟩ = some (.int .i64 l[k].cost) := by
  obtain ⟨b, o, e, hb, hc⟩ := h (by omega)
  exact ⟨b, o, e, hb, by simpa using hc k hk 0 _ (by omega) rfl, hc k hk 1 _ (by omega) rfl, hc k hk 2 _ (by omega) rfl, hc k hk 3 _ (by omega) rfl⟩
theorem row_int {w : World} {B : Nat} {A : Option Addr} {l : List Int} (h : RowsAt 1 icell w B A l) (k : Nat) (hk : k < l.length) :
    ∃ b o, A = some ⟨b, o, none⟩ ∧ b < B ∧ w.cell? ⟨b, o + k, none⟩ = some (.int .i64 l[k]) := by
  obtain ⟨b, o, e, hb, hc⟩ := h (by omega)
  exact ⟨b, o, e, hb, by simpa using hc k hk 0 _ (by omega) rfl⟩

set_option maxHeartbeats 4000000 in
set_option maxRecDepth 100000 in
theorem lsaLinks_any (A : Option Addr) (c : Nat) (l : List Lnk) (w : World) (B : Nat) (h : RowsAt 4 Lnk.cells w B A l) (hB : B ≤ w.heap.size) (hm : l.length ≤ maxLen) {t : Bool} (ht : linksB l = t) (n : Nat) (hn : n = l.length) :
    Calls Tryz.prog 87 #[.slice A n c] w fun r w' => r = .returned (.bool t) ∧ Below w.heap.size w w' := by
  subst hn
  unfold maxLen at hm
  have H := Lib.hid (h.more hB)
  have Ht := Lib.hid ht
  clear h hB ht
  go_enter Tryz.func87, Tryz.ntmps87
  go_wp2
  go_loopw [7] (fun i wr => ∃ k : Nat, i = .int .i64 k ∧ k ≤ l.length ∧ (l.take k).all linkB = true ∧ Below w.heap.size w wr) (fun i _ => l.length - (intOf i).toNat)
  case atStart => exact ⟨0, rfl, Nat.zero_le _, by simp, Below.refl _ _⟩
  case round =>
    obtain ⟨k, rfl, hk, hall, hb⟩ := hrel
    have Hb := Lib.hid hb
    by_cases hlt : k < l.length
    · obtain ⟨g, o, rfl, -, z0, z1, z2, z3⟩ := row_lnk (H.out.below hb) k hlt
      have hkl : (k : Int) < (l.length : Int) := by omega
      have hno : linkB l[k] = false → linksB l = false := fun h => by
        unfold linksB
        have : l.all linkB = false := by
          rw [List.all_eq_false]
          exact ⟨l[k], List.getElem_mem hlt, by simp [h]⟩
        rw [this]; rfl
      have hyes : linkB l[k] = true → (l.take (k + 1)).all linkB = true := fun h => by
        rw [List.take_succ_eq_append_getElem hlt, List.all_append, hall]
        simp [h]
      have Hno := Lib.hid hno
      have Hyes := Lib.hid hyes
      have Hal := Lib.hid (fun o => hb.alloc hb.size o)
      clear hb hno hyes hall
      generalize l[k] = x at *
      obtain ⟨x1, x2, x3, x4⟩ := x
      simp only at z0 z1 z2 z3
      unfold linkB at Hno Hyes
      simp only at Hno Hyes
      obtain ⟨t1, h1⟩ : ∃ t1, inB x1 2 3 = t1 := ⟨_, rfl⟩
      obtain ⟨t2, h2⟩ : ∃ t2, inB x2 0 63 = t2 := ⟨_, rfl⟩
      obtain ⟨t3, h3⟩ : ∃ t3, inB x3 0 63 = t3 := ⟨_, rfl⟩
      obtain ⟨t4, h4⟩ : ∃ t4, inB x4 1 100 = t4 := ⟨_, rfl⟩
      rw [h1, h2, h3, h4] at Hno Hyes
      have H1 := Lib.hid h1
      have H2 := Lib.hid h2
      have H3 := Lib.hid h3
      have H4 := Lib.hid h4
      clear h1 h2 h3 h4
      rcases bool4n t1 t2 t3 t4 with ⟨hv, hd⟩ | ⟨hv, rfl, rfl, rfl, rfl⟩
      · have ht2 : t = false := by rw [← Ht.out]; exact Hno.out hv
        subst ht2
        clear Hyes Hno hv
        rcases hd with rfl | ⟨rfl, rfl⟩ | ⟨rfl, rfl, rfl⟩ | ⟨rfl, rfl, rfl, rfl⟩
        all_goals
          go_wp2_with (first
            | (go_at_call 88; (with_reducible refine Calls.mono (in_v x1 2 3 _ H1.out) ?_); rintro r w2 ⟨rfl, rfl⟩)
            | (go_at_call 88; (with_reducible refine Calls.mono (in_v x4 1 100 _ H4.out) ?_); rintro r w2 ⟨rfl, rfl⟩)
            | (go_at_call 88; (with_reducible refine Calls.mono (in_v x2 0 63 _ H2.out) ?_); rintro r w2 ⟨rfl, rfl⟩)
            | (go_at_call 88; (with_reducible refine Calls.mono (in_v x3 0 63 _ H3.out) ?_); rintro r w2 ⟨rfl, rfl⟩))
          go_ret
          exact ⟨rfl, Hal.out _⟩
      · have Hy := Lib.hid (Hyes.out hv)
        clear Hno Hyes hv
        go_wp2_with (first
          | (go_at_call 88; (with_reducible refine Calls.mono (in_v x1 2 3 _ H1.out) ?_); rintro r w2 ⟨rfl, rfl⟩)
          | (go_at_call 88; (with_reducible refine Calls.mono (in_v x4 1 100 _ H4.out) ?_); rintro r w2 ⟨rfl, rfl⟩)
          | (go_at_call 88; (with_reducible refine Calls.mono (in_v x2 0 63 _ H2.out) ?_); rintro r w2 ⟨rfl, rfl⟩)
          | (go_at_call 88; (with_reducible refine Calls.mono (in_v x3 0 63 _ H3.out) ?_); rintro r w2 ⟨rfl, rfl⟩))
        go_roundw
        case measure => simp [intOf]; omega
        case rel => exact ⟨k + 1, by go_num, hlt, Hy.out, Hal.out _⟩
    · have hkk : k = l.length := by omega
      subst hkk
      rw [List.take_length] at hall
      have ht2 : decide ((l.length : Int) ≤ 4) = t := by
        rw [← Ht.out]
        unfold linksB
        rw [hall, Bool.true_and]
        simp only [decide_eq_decide]
        omega
      clear hb hall
      go_wp2
      go_ret
      exact ⟨rfl, Hb.out⟩

theorem memC_take {last : Int} {l : List Int} {k : Nat} (hk : k < l.length) (h : memC last (l.take k) = true) :
    memC last (l.take (k + 1)) = inB l[k] (((last :: l.take k).getLast (by simp)) + 1) 15 ∧ (inB l[k] (((last :: l.take k).getLast (by simp)) + 1) 15 = false → memC last l = false) := by
  induction l generalizing last k with
  | nil => simp at hk
  | cons x l ih =>
    cases k with
    | zero =>
      simp only [List.take_zero, List.take_succ_cons, memC, List.getElem_cons_zero, Bool.and_true, List.getLast_singleton, true_and]
      intro h2
      rw [h2]; rfl
    | succ k =>
      simp only [List.take_succ_cons, memC, Bool.and_eq_true] at h
      obtain ⟨h1, h2⟩ := ih (last := x) (k := k) (by simpa using hk) h.2
      simp only [List.take_succ_cons, memC, List.getElem_cons_succ, h.1, Bool.true_and]
      rw [List.getLast_cons (by simp)]
      exact ⟨h1, h2⟩

set_option maxHeartbeats 4000000 in
set_option maxRecDepth 100000 in
theorem lsaMembers_any (A : Option Addr) (c : Nat) (l : List Int) (w : World) (B : Nat) (h : RowsAt 1 icell w B A l) (hB : B ≤ w.heap.size) (hm : l.length ≤ maxLen) {t : Bool} (ht : membersB l = t) (n : Nat) (hn : n = l.length) :
    Calls Tryz.prog 89 #[.slice A n c] w fun r w' => r = .returned (.bool t) ∧ Below w.heap.size w w' := by
  subst hn
  unfold maxLen at hm
  have H := Lib.hid (h.more hB)
  have Ht := Lib.hid ht
  clear h hB ht
  go_enter Tryz.func89, Tryz.ntmps89
  go_wp2
  go_loopw [3, 8] (fun la i wr => ∃ (k : Nat) (z : Int), i = .int .i64 k ∧ la = .int .i64 z ∧ k ≤ l.length ∧ memC 0 (l.take k) = true ∧ (((0 : Int) :: l.take k).getLast (by simp)) = z ∧ 0 ≤ z ∧ z ≤ 15 ∧ wr = w) (fun _ i _ => l.length - (intOf i).toNat)
  case atStart => exact ⟨0, 0, rfl, rfl, Nat.zero_le _, rfl, rfl, by omega, by omega, rfl⟩
  case round =>
    obtain ⟨k, z, rfl, rfl, hk, hmem, hz, hz0, hz15, rfl⟩ := hrel
    by_cases hlt : k < l.length
    · obtain ⟨g, o, rfl, -, z0⟩ := row_int H.out k hlt
      have hkl : (k : Int) < (l.length : Int) := by omega
      obtain ⟨m1, m2⟩ := memC_take hlt hmem
      rw [hz] at m1 m2
      have hlast : (((0 : Int) :: l.take (k + 1)).getLast (by simp)) = l[k] := by
        have : (0 : Int) :: l.take (k + 1) = ((0 : Int) :: l.take k) ++ [l[k]] := by rw [List.take_succ_eq_append_getElem hlt]; rfl
        simp only [this, List.getLast_append, List.getLast_singleton]
        simp
      generalize l[k] = x at *
      obtain ⟨t1, h1⟩ : ∃ t1, inB x (z + 1) 15 = t1 := ⟨_, rfl⟩
      rw [h1] at m1 m2
      have H1 := Lib.hid h1
      have Hlast := Lib.hid hlast
      have M1 := Lib.hid m1
      cases t1
      · have ht2 : t = false := by rw [← Ht.out]; unfold membersB; rw [m2 rfl]; rfl
        subst ht2
        clear h1 m1 m2 hlast hmem hz
        go_wp2_with (go_at_call 88; (with_reducible refine Calls.mono (in_v x (z + 1) 15 _ H1.out) ?_); rintro r w2 ⟨rfl, rfl⟩)
        go_ret
        exact ⟨rfl, Below.refl _ _⟩
      · have hx := inB_iff.1 h1
        clear h1 m1 m2 hlast hmem hz
        go_wp2_with (go_at_call 88; (with_reducible refine Calls.mono (in_v x (z + 1) 15 _ H1.out) ?_); rintro r w2 ⟨rfl, rfl⟩)
        go_roundw
        case measure => simp [intOf]; omega
        case rel => exact ⟨k + 1, x, by go_num, rfl, hlt, M1.out, Hlast.out, by omega, by omega, trivial⟩
    · have hkk : k = l.length := by omega
      subst hkk
      have ht2 : decide (0 < l.length) = t := by
        rw [← Ht.out]
        unfold membersB
        rw [List.take_length] at hmem
        rw [hmem, Bool.true_and]
      clear hmem hz
      go_wp2
      go_ret
      exact ⟨rfl, Below.refl _ _⟩

def Lsa.val (x : Lsa) : Value := .agg x.cells.toArray
theorem right_cases (x : Lsa) : (headB x.head = false ∧ rightB x = false) ∨
    (headB x.head = true ∧ (x.head.kind == 1) = true ∧ decide (x.head.id = x.head.adv) = false ∧ rightB x = false) ∨
    (headB x.head = true ∧ (x.head.kind == 1) = true ∧ decide (x.head.id = x.head.adv) = true ∧ x.members.length ≠ 0 ∧ rightB x = false) ∨
    (headB x.head = true ∧ (x.head.kind == 1) = true ∧ decide (x.head.id = x.head.adv) = true ∧ x.members.length = 0 ∧ rightB x = linksB x.links) ∨
    (headB x.head = true ∧ (x.head.kind == 1) = false ∧ inB x.head.id 0 63 = false ∧ rightB x = false) ∨
    (headB x.head = true ∧ (x.head.kind == 1) = false ∧ inB x.head.id 0 63 = true ∧ x.links.length ≠ 0 ∧ rightB x = false) ∨
    (headB x.head = true ∧ (x.head.kind == 1) = false ∧ inB x.head.id 0 63 = true ∧ x.links.length = 0 ∧ rightB x = membersB x.members) := by
  unfold rightB
  by_cases hk : x.head.kind = 1
  · rw [if_pos hk]
    cases headB x.head <;> by_cases h1 : x.head.id = x.head.adv <;> by_cases h2 : x.members.length = 0 <;> simp [hk, h1, h2]
  · rw [if_neg hk]
    cases headB x.head <;> cases inB x.head.id 0 63 <;> by_cases h2 : x.links.length = 0 <;> simp [hk, h2]
theorem blk9 {w : World} {g : Nat} {t : TypeId} {a b c d e f x y z : Value} (h : Blk w g t #[a, b, c, d, e, f, x, y, z]) : w.cell? ⟨g, 0, none⟩ = some a ∧ w.cell? ⟨g, 1, none⟩ = some b ∧ w.cell? ⟨g, 2, none⟩ = some c ∧ w.cell? ⟨g, 3, none⟩ = some d ∧ w.cell? ⟨g, 4, none⟩ = some e ∧ w.cell? ⟨g, 5, none⟩ = some f ∧ w.cell? ⟨g, 6, none⟩ = some x ∧ w.cell? ⟨g, 7, none⟩ = some y ∧ w.cell? ⟨g, 8, none⟩ = some z ∧ ∀ i, w.frozen? ⟨g, i, none⟩ = false :=
  ⟨h.cell 0, h.cell 1, h.cell 2, h.cell 3, h.cell 4, h.cell 5, h.cell 6, h.cell 7, h.cell 8, fun i => h.frozen i⟩
set_option maxHeartbeats 4000000 in
set_option maxRecDepth 100000 in
theorem lsaRight_any (a1 a2 a3 a4 a5 a6 a7 : Int) (ka : Option Addr) (kc : Nat) (ls : List Lnk) (ma : Option Addr) (mc : Nat) (ms : List Int) (w : World) (B : Nat) (hl : RowsAt 4 Lnk.cells w B ka ls) (hm : RowsAt 1 icell w B ma ms) (hB : B ≤ w.heap.size) (hlm : ls.length ≤ maxLen) (hmm : ms.length ≤ maxLen) (nl nm : Nat) (hnl : nl = ls.length) (hnm : nm = ms.length) {t : Bool} (ht : rightB ⟨⟨a1, a2, a3, a4, a5, a6, a7⟩, ka, kc, ls, ma, mc, ms⟩ = t) :
    Calls Tryz.prog 50 #[.agg #[.int .i64 a1, .int .i64 a2, .int .i64 a3, .int .i64 a4, .int .i64 a5, .int .i64 a6, .int .i64 a7, .slice ka nl kc, .slice ma nm mc]] w fun r w' => r = .returned (.bool t) ∧ Below w.heap.size w w' := by
  have hcs := right_cases ⟨⟨a1, a2, a3, a4, a5, a6, a7⟩, ka, kc, ls, ma, mc, ms⟩
  simp only at hcs
  rw [← hnl, ← hnm] at hcs
  obtain ⟨w0, hW0⟩ : ∃ w0, w.alloc (.cells #[.int .i64 a1, .int .i64 a2, .int .i64 a3, .int .i64 a4, .int .i64 a5, .int .i64 a6, .int .i64 a7, .slice ka nl kc, .slice ma nm mc] 31) = w0 := ⟨_, rfl⟩
  have hk0 := Blk.new w 31 #[.int .i64 a1, .int .i64 a2, .int .i64 a3, .int .i64 a4, .int .i64 a5, .int .i64 a6, .int .i64 a7, .slice ka nl kc, .slice ma nm mc]
  have hb0 := (Below.refl w.heap.size w).alloc (Nat.le_refl _) (.cells #[.int .i64 a1, .int .i64 a2, .int .i64 a3, .int .i64 a4, .int .i64 a5, .int .i64 a6, .int .i64 a7, .slice ka nl kc, .slice ma nm mc] 31)
  rw [hW0] at hk0 hb0
  have Hk0 := Lib.hid hk0
  have Hb0 := Lib.hid hb0
  have Hl := Lib.hid (hl.more hB)
  have Hm := Lib.hid (hm.more hB)
  obtain ⟨z0, z1, z2, z3, z4, z5, z6, z7, z8, -⟩ := blk9 hk0
  clear hl hm hB hk0 hb0
  obtain ⟨th, hth⟩ : ∃ th, headB ⟨a1, a2, a3, a4, a5, a6, a7⟩ = th := ⟨_, rfl⟩
  obtain ⟨tl, htl⟩ : ∃ tl, linksB ls = tl := ⟨_, rfl⟩
  obtain ⟨tm, htm⟩ : ∃ tm, membersB ms = tm := ⟨_, rfl⟩
  obtain ⟨ti, hti⟩ : ∃ ti, inB a3 0 63 = ti := ⟨_, rfl⟩
  rw [hth, htl, htm, hti, ht] at hcs
  have Hth := Lib.hid hth
  have Htl := Lib.hid htl
  have Htm := Lib.hid htm
  have Hti := Lib.hid hti
  clear ht hth htl htm hti
  have HC := Lib.hid (fun W (hW : Below w.heap.size w W) => lsaHead_any a1 a2 a3 a4 a5 a6 a7 W Hth.out)
  have HL := Lib.hid (fun W (hW : Below w.heap.size w W) => lsaLinks_any ka kc ls W w.heap.size (Hl.out.below hW) hW.size hlm Htl.out nl hnl)
  have HM := Lib.hid (fun W (hW : Below w.heap.size w W) => lsaMembers_any ma mc ms W w.heap.size (Hm.out.below hW) hW.size hmm Htm.out nm hnm)
  clear hnl hnm
  rcases hcs with ⟨h1, rfl⟩ | ⟨h1, h2, h3, rfl⟩ | ⟨h1, h2, h3, h4, rfl⟩ | ⟨h1, h2, h3, rfl, rfl⟩ | ⟨h1, h2, h3, rfl⟩ | ⟨h1, h2, h3, h4, rfl⟩ | ⟨h1, h2, h3, rfl, rfl⟩
  all_goals
    subst h1
    go_enter Tryz.func50, Tryz.ntmps50
    go_wp2_with fail
    with_reducible refine Calls.mono (HC.out _ Hb0.out) ?_
    rintro r w2 ⟨rfl, hb2⟩
    obtain ⟨y0, y1, y2, y3, y4, y5, y6, y7, y8, -⟩ := blk9 (Hk0.out.below hb2 Hk0.out.lt)
    have Hb2 := Lib.hid (Hb0.out.trans (hb2.mono Hb0.out.size))
    clear z0 z1 z2 z3 z4 z5 z6 z7 z8 hb2
  · go_wp2
    go_ret
    exact ⟨rfl, Hb2.out⟩
  · have g1 := of_decide_eq_false h3
    go_wp2
    go_ret
    exact ⟨rfl, Hb2.out⟩
  · have g1 := of_decide_eq_true h3
    have g2 : ¬(nm : Int) = 0 := by omega
    subst g1
    go_wp2
    go_ret
    exact ⟨rfl, Hb2.out⟩
  · have g1 := of_decide_eq_true h3
    subst g1
    go_wp2_with fail
    with_reducible refine Calls.mono (HL.out _ Hb2.out) ?_
    rintro r w3 ⟨rfl, hb3⟩
    have Hb3 := Lib.hid (Hb2.out.trans (hb3.mono Hb2.out.size))
    clear hb3
    go_wp2
    go_ret
    exact ⟨rfl, Hb3.out⟩
  · subst h3
    go_wp2_with (go_at_call 88; (with_reducible refine Calls.mono (in_v a3 0 63 _ Hti.out) ?_); rintro r w3 ⟨rfl, rfl⟩)
    go_ret
    exact ⟨rfl, Hb2.out⟩
  · subst h3
    have g2 : ¬(nl : Int) = 0 := by omega
    go_wp2_with (go_at_call 88; (with_reducible refine Calls.mono (in_v a3 0 63 _ Hti.out) ?_); rintro r w3 ⟨rfl, rfl⟩)
    go_ret
    exact ⟨rfl, Hb2.out⟩
  · subst h3
    go_wp2_with (first
      | (go_at_call 88; (with_reducible refine Calls.mono (in_v a3 0 63 _ Hti.out) ?_); rintro r w3 ⟨rfl, rfl⟩)
      | (go_at_call 89; (with_reducible refine Calls.mono (HM.out _ Hb2.out) ?_); rintro r w3 ⟨rfl, hb3⟩; have Hb3 := Lib.hid (Hb2.out.trans (hb3.mono Hb2.out.size)); clear hb3))
    go_ret
    exact ⟨rfl, Hb3.out⟩

end Go.Proofs.YtpnbibokddhheaaGreat

/-
  A region that draws its order: operations that are quiet in a class of worlds, in whatever order, and behind them a forced tail: one walk.
-/
namespace Go.Proofs.YtpnbibokddhheaaGreat
open Go Go.Sort

section
variable {P : Program} {ops : Array Oper} {C : World → Prop}

/-- The head's operations, whichever comes up, and then L. -/
def headQ (P : Program) (ops : Array Oper) (C : World → Prop) (n : Nat) (L : Array Bool → Act → Prop) : Nat → Array Bool → Act → Prop
  | 0, s, a => L s a
  | f + 1, s, a => Region.ready .any ops s ≠ [] ∧ ∀ i, i ∈ Region.ready .any ops s → i < n ∧ qOp P ops C i (headQ P ops C n L f (s.setIfInBounds i true)) a

theorem headQ_any {n g : Nat} {L : Array Bool → Act → Prop} {Q : Exit → Act → World → Prop} (hL : ∀ s a w, C w → L s a → wpAny P .any ops Q g s a w) (f : Nat) :
    ∀ s a w, C w → headQ P ops C n L f s a → wpAny P .any ops Q (f + g) s a w := by
  induction f with
  | zero => intro s a w hw h; rw [Nat.zero_add]; exact hL s a w hw h
  | succ f ih =>
    intro s a w hw h
    rw [Nat.succ_add]
    exact ⟨fun h0 => absurd h0 h.1, fun i hi => wpOp_of_qOp hw (fun a' w' hw' h' => ih _ a' w' hw' h') (h.2 i hi).2⟩

theorem headQ_take {n i : Nat} {oi : Oper} {v : Value} {L : Array Bool → Act → Prop} (hi : ops[i]? = some oi) (hsel : ∀ (j : Nat) (o : Oper) cs b, ops[j]? = some o → o.op ≠ .select cs b)
    (hs : Region.sinkB .any ops n = true) (hc : Region.chainB .any ops n = true) (hn : n < ops.size) (hin : i < n) (hdone : ∀ s a, L s a → ∀ j, j ∈ Region.ready .any ops s → n ≤ j) (f : Nat) :
    ∀ s a, HeadInv .any ops n s → (∀ j oj, ops[j]? = some oj → j ≠ i → s.getD j true = false → (∀ e, e ∈ oj.after → Region.binds .any e = true → e.on ≠ i) → oi.apart ops oj = true) →
      i ∈ Region.ready .any ops s → YieldsIn P ops C oi v a → headQ P ops C n L f (s.setIfInBounds i true) (a.put oi.dst v) → headQ P ops C n L (f + 1) s a := by
  induction f with
  | zero =>
    intro s a inv _ hr hy H
    have hun := (mem_ready.1 hr).1
    refine ⟨fun h0 => by rw [h0] at hr; exact absurd hr List.not_mem_nil, fun j hj => ?_⟩
    have hjn : j < n := Nat.lt_of_not_le fun h => tail_waits hs hc hn inv _ i rfl hin hun j h hj
    refine ⟨hjn, ?_⟩
    by_cases hji : j = i
    · subst hji; exact hy.qOp hi H
    · exact absurd (hdone _ _ H j (ready_mono hj hji)) (by omega)
  | succ f ih =>
    intro s a inv hfree hr hy H
    have hun := (mem_ready.1 hr).1
    refine ⟨fun h0 => by rw [h0] at hr; exact absurd hr List.not_mem_nil, fun j hj => ?_⟩
    have hjn : j < n := Nat.lt_of_not_le fun h => tail_waits hs hc hn inv _ i rfl hin hun j h hj
    refine ⟨hjn, ?_⟩
    by_cases hji : j = i
    · subst hji; exact hy.qOp hi H
    · obtain ⟨hjun, oj, hoj, hall⟩ := mem_ready.1 hj
      have hno : ∀ e, e ∈ oj.after → Region.binds .any e = true → e.on ≠ i := by
        intro e he hb heq
        have h1 := hall e he hb
        rw [heq, getD_both hun] at h1
        exact Bool.noConfusion h1
      refine qOp_mono (fun a' h3 => ih (s.setIfInBounds j true) a' (inv.set hj hjn) ?_ (ready_mono hr (Ne.symm hji)) h3.1 ?_)
        (qOp_put hoj (hfree j oj hoj hji hjun hno) (fun cs b => hsel i oi cs b hi) (fun cs b => hsel j oj cs b hoj) hy (H.2 j (ready_mono hj hji)).2)
      · intro k ok hk hki hku hkn
        refine hfree k ok hk hki ?_ hkn
        by_cases hjk : j = k
        · subst hjk; exact hjun
        · rwa [getD_set_ne true hjk] at hku
      · rw [Array.setIfInBounds_comm _ _ hji]; exact h3.2

theorem headQ_text {n g : Nat} {R : Act → Prop} (hsel : Region.noSelect ops = true) (hs : Region.sinkB .any ops n = true) (hc : Region.chainB .any ops n = true) (hn : n < ops.size) (l : List Oper) :
    ∀ (k : Nat) (s : Array Bool) (a : Act), (∀ j, j < l.length → l[j]? = ops[k + j]?) → k + l.length = n → HeadInv .any ops n s → Region.lexHead .any ops g l.length k s = true → wpQuiet P ops C R l a →
      headQ P ops C n (fun s' a' => Region.seqB .any ops g n s' = true ∧ R a') l.length s a := by
  induction l with
  | nil =>
    intro k s a _ hk _ hB h
    obtain rfl : k = n := by simpa using hk
    exact ⟨by simpa [Region.lexHead] using hB, h⟩
  | cons o l ih =>
    intro k s a hl hk inv hB h
    have h0 : ops[k]? = some o := by have := hl 0 (by simp); simpa using this.symm
    simp only [List.length_cons, Region.lexHead, Bool.and_eq_true] at hB
    have hkn : k < n := by simp only [List.length_cons] at hk; omega
    have hr : k ∈ Region.ready .any ops s := by simpa using hB.1.1
    have hq : qOp P ops C k (wpQuiet P ops C R l) a := by unfold qOp; simp only [h0]; exact h
    obtain ⟨v, hy, hK⟩ := yieldsIn_of_qOp h0 hq
    refine headQ_take h0 (Region.noSelect_spec hsel) hs hc hn hkn (fun s' a' hL => seqB_ready hL.1) l.length s a inv (Region.free_spec h0 hB.1.2) hr hy ?_
    refine ih (k + 1) _ _ (fun j hj => ?_) (by simp only [List.length_cons] at hk; omega) (inv.set hr hkn) hB.2 hK
    have := hl (j + 1) (by simp; omega)
    simpa [Nat.add_assoc, Nat.add_comm 1 j] using this

theorem wp_quiet_tail {id : Nat} {Q : Exit → Act → World → Prop} {a : Act} {w : World} {l : List Oper} (n : Nat) (hm : P.follows .mixedOrders = true) (hB : Region.lexTailB .any l.toArray n = true) (hC : C { w with drawn := w.drawn + 1 })
    (h : wpQuiet P l.toArray C (fun a' => ∀ w', C w' → wpList P l.toArray Q (l.drop n) a' w') (l.take n) a) : (Code.region id l.toArray true).wp P Q a w := by
  simp only [Region.lexTailB, Bool.and_eq_true, decide_eq_true_eq] at hB
  obtain ⟨⟨⟨⟨hsel, hn⟩, hs⟩, hc⟩, hlex⟩ := hB
  have hn' : n < l.length := by simpa using hn
  have htl : (l.take n).length = n := by simp; omega
  have inv : HeadInv .any l.toArray n (Array.replicate l.toArray.size false) :=
    ⟨by simp, fun j oj _ hl => (by rw [getD_replicate_false] at hl; exact Bool.noConfusion hl), fun t _ ht => getD_in (by simpa using ht) (getD_replicate_false _ _)⟩
  have H := headQ_text (g := l.toArray.size - n) hsel hs hc hn (l.take n) 0 _ a (fun j hj => by
    rw [htl] at hj
    simp [hj]) (by simpa using htl) inv (by rw [htl]; exact hlex) h
  refine wp_region_any hm ?_
  have := headQ_any (Q := Q) (g := l.toArray.size - n) (fun s a' w' hw' hL => by
    have := wpAny_of_seq (md := .any) (Q' := Q) (l.drop n) n s a' w' (fun j => by simp [List.getElem?_drop]) (by simpa using hL.1) (hL.2 w' hw')
    simpa using this) _ _ _ _ hC H
  rw [htl, show n + (l.toArray.size - n) = l.toArray.size by omega] at this
  exact this
end

/-- At the class of the worlds in which nothing old has turned. -/
theorem wp_below_tail {P : Program} {id : Nat} {Q : Exit → Act → World → Prop} {a : Act} {w : World} {l : List Oper} (n : Nat) (hm : P.follows .mixedOrders = true) (hB : Region.lexTailB .any l.toArray n = true)
    (h : wpQuiet P l.toArray (fun w' => ∃ p : Regrown, w' = grow (redrawn w p.d) p.os) (fun a' => ∀ w', (∃ p : Regrown, w' = grow (redrawn w p.d) p.os) → wpList P l.toArray Q (l.drop n) a' w') (l.take n) a) : (Code.region id l.toArray true).wp P Q a w :=
  wp_quiet_tail (C := fun w' => ∃ p : Regrown, w' = grow (redrawn w p.d) p.os) n hm hB ⟨⟨w.drawn + 1, #[]⟩, by rw [grow_empty]; rfl⟩ h

end Go.Proofs.YtpnbibokddhheaaGreat

/-
  A region that draws its order, in a class of worlds: operations whose value hangs on the class alone are taken first, calls too; of another one whatever it yields.
-/
namespace Go.Proofs.YtpnbibokddhheaaGreat
open Go

section
variable {P : Program} {ops : Array Oper} {md : Region.Mode} {C : World → Prop} {Q : Exit → Act → World → Prop}

def kOp (P : Program) (ops : Array Oper) (C : World → Prop) (Q : Exit → Act → World → Prop) (i : Nat) (K : Act → Prop) (a : Act) : Prop := ∀ w, C w → wpOp P ops Q i (fun a' w' => C w' ∧ K a') a w
def wpAnyK (P : Program) (md : Region.Mode) (ops : Array Oper) (C : World → Prop) (Q : Exit → Act → World → Prop) : Nat → Array Bool → Act → Prop
  | 0, s, a => Region.ready md ops s = [] ∧ ∀ w, C w → Q .normal a w
  | f + 1, s, a => (Region.ready md ops s = [] → ∀ w, C w → Q .normal a w) ∧ ∀ i ∈ Region.ready md ops s, kOp P ops C Q i (wpAnyK P md ops C Q f (s.setIfInBounds i true)) a

theorem kOp_mono {i : Nat} {K K' : Act → Prop} {a : Act} (h : ∀ a, K a → K' a) (hk : kOp P ops C Q i K a) : kOp P ops C Q i K' a := fun w hw => wpOp_mono (fun _ _ ⟨h1, h2⟩ => ⟨h1, h _ h2⟩) (hk w hw)
theorem wpAny_of_K : ∀ (f : Nat) (s : Array Bool) (a : Act) (w : World), C w → wpAnyK P md ops C Q f s a → wpAny P md ops Q f s a w
  | 0, _, _, w, hw, h => ⟨h.1, h.2 w hw⟩
  | f + 1, _, _, w, hw, h => ⟨fun h0 => h.1 h0 w hw, fun i hi => wpOp_mono (fun a' w' ⟨h1, h2⟩ => wpAny_of_K f _ a' w' h1 h2) (h.2 i hi w hw)⟩

/-- what an operation that lies apart leaves as it was -/
theorem wpOp_put_inv {j : Nat} {oi oj : Oper} {v : Value} {I : Act → Prop} (hj : ops[j]? = some oj) (hap : oi.apart ops oj = true) (hsj : ∀ cs b, oj.op ≠ .select cs b)
    (hQ : ∀ c a w, Q (.panic c) (a.put oi.dst v) w → Q (.panic c) a w) (keep : ∀ a, I a → ∀ u, I (a.put oj.dst u)) (keepD : ∀ a, I a → ∀ d, I { a with defers := d :: a.defers })
    {K : Act → World → Prop} {a : Act} {w : World} (hI : I a) (h : wpOp P ops Q j K (a.put oi.dst v) w) : wpOp P ops Q j (fun a' w' => I a' ∧ K (a'.put oi.dst v) w') a w := by
  obtain ⟨h1, h2, h3⟩ := Oper.apart_spec hap
  unfold wpOp at *
  simp only [hj] at *
  rw [wanted_put oj a oi.dst v h1] at h
  by_cases hw : Region.wanted oj (yielded ops a.tmps) = true
  · simp only [hw, if_true] at h ⊢
    rcases h with h | ⟨hasks, hlets⟩
    · left
      unfold Oper.wp at *
      rw [execOp_put oj hsj a oi.dst v h1] at h
      rcases hr : (execOp a.eval oj).run P w with ⟨n, w'⟩ | ⟨x, w'⟩
      · rw [hr] at h
        cases n <;> simp only [Oper.upon] at h ⊢
        case value u => exact ⟨keep a hI u, by rw [← Act.put_comm a v u h2]; exact h⟩
        case skip => exact ⟨keep a hI _, by rw [← Act.put_comm a v undef h2]; exact h⟩
        case defer d => exact ⟨keep _ (keepD a hI d) _, by rw [← Act.put_comm _ v undef h2, ← Act.put_defers]; exact h⟩
        case enter f args =>
          refine Calls.mono h fun e w'' he => ?_
          cases e with
          | returned u => exact ⟨keep a hI u, by rw [← Act.put_comm a v u h2]; exact he⟩
          | panicked c => exact hQ _ _ _ he
          | outgrown => exact he
        case row row args => exact Rows.mono h fun u w'' he => ⟨keep a hI u, by rw [← Act.put_comm a v u h2]; exact he⟩
      · rw [hr] at h
        cases x <;> simp only [Oper.upon] at h ⊢
        exact hQ _ _ _ h
    · right
      refine ⟨?_, hlets⟩
      unfold Oper.asks at *
      rw [execOp_put oj hsj a oi.dst v h1] at hasks
      exact hasks
  · simp only [hw, Bool.false_eq_true, if_false] at h ⊢
    exact ⟨keep a hI _, by rw [← Act.put_comm a v undef h2]; exact h⟩
theorem kOp_put {j : Nat} {oi oj : Oper} {v : Value} (hj : ops[j]? = some oj) (hap : oi.apart ops oj = true) (hsi : ∀ cs b, oi.op ≠ .select cs b) (hsj : ∀ cs b, oj.op ≠ .select cs b)
    (hQ : ∀ c a w, Q (.panic c) (a.put oi.dst v) w → Q (.panic c) a w) {K : Act → Prop} {a : Act} (hy : YieldsIn P ops C oi v a) (h : kOp P ops C Q j K (a.put oi.dst v)) :
    kOp P ops C Q j (fun a' => YieldsIn P ops C oi v a' ∧ K (a'.put oi.dst v)) a := fun w hw => by
  obtain ⟨h1, h2, h3⟩ := Oper.apart_spec hap
  have := wpOp_put_inv (I := fun a => YieldsIn P ops C oi v a) hj hap hsj hQ (fun a hy u => hy.of_same (execOp_put oi hsi a oj.dst u h3) (wanted_put oi a oj.dst u h3)) (fun a hy d => hy.of_same rfl rfl) hy (h w hw)
  exact wpOp_mono (fun a' w' ⟨x1, x2, x3⟩ => ⟨x2, x1, x3⟩) this
theorem kOp_of_yields {i : Nat} {oi : Oper} {v : Value} {a : Act} {K : Act → Prop} (hi : ops[i]? = some oi) (hy : YieldsIn P ops C oi v a) (h : K (a.put oi.dst v)) : kOp P ops C Q i K a := fun w hw => by
  have hq : qOp P ops C i K a := hy.qOp hi h
  exact wpOp_of_qOp hw (fun a' w' hw' hk => ⟨hw', hk⟩) hq

theorem wpAnyK_first {i : Nat} {oi : Oper} {v : Value} (hi : ops[i]? = some oi) (hsel : ∀ (j : Nat) (o : Oper) cs b, ops[j]? = some o → o.op ≠ .select cs b)
    (hQ : ∀ c a w, Q (.panic c) (a.put oi.dst v) w → Q (.panic c) a w) :
    ∀ (f : Nat) (s : Array Bool) (a : Act), (∀ j oj, ops[j]? = some oj → j ≠ i → s.getD j true = false → (∀ e ∈ oj.after, Region.binds md e = true → e.on ≠ i) → oi.apart ops oj = true) →
      i ∈ Region.ready md ops s → YieldsIn P ops C oi v a → wpAnyK P md ops C Q f (s.setIfInBounds i true) (a.put oi.dst v) → wpAnyK P md ops C Q (f + 1) s a := by
  intro f
  induction f with
  | zero =>
    intro s a _ hr hy H
    refine ⟨fun h => (by rw [h] at hr; cases hr), fun j hj => ?_⟩
    by_cases hji : j = i
    · subst hji; exact kOp_of_yields hi hy H
    · have := ready_mono hj hji
      rw [H.1] at this
      cases this
  | succ f ih =>
    intro s a hfree hr hy H
    refine ⟨fun h => (by rw [h] at hr; cases hr), fun j hj => ?_⟩
    by_cases hji : j = i
    · subst hji; exact kOp_of_yields hi hy H
    · have h1 := H.2 j (ready_mono hj hji)
      obtain ⟨hjun, oj, hoj, hall⟩ := mem_ready.1 hj
      have hun := (mem_ready.1 hr).1
      have hnot : ∀ e ∈ oj.after, Region.binds md e = true → e.on ≠ i := fun e he hb heq => by
        have h1 := hall e he hb
        rw [heq, getD_both hun] at h1
        exact Bool.noConfusion h1
      have h2 := kOp_put hoj (hfree j oj hoj hji hjun hnot) (fun cs b => hsel i oi cs b hi) (fun cs b => hsel j oj cs b hoj) hQ hy h1
      have hfree' : ∀ k ok, ops[k]? = some ok → k ≠ i → (s.setIfInBounds j true).getD k true = false → (∀ e ∈ ok.after, Region.binds md e = true → e.on ≠ i) → oi.apart ops ok = true := fun k ok hk hki hun hno => by
        refine hfree k ok hk hki ?_ hno
        by_cases hjk : j = k
        · subst hjk; exact hjun
        · rw [getD_set_ne true hjk] at hun; exact hun
      refine kOp_mono (fun a' h3 => ih (s.setIfInBounds j true) a' hfree' (ready_mono hr (Ne.symm hji)) h3.1 ?_) h2
      rw [Array.setIfInBounds_comm _ _ hji]
      exact h3.2

/-- Take number i first. -/
theorem K_take {i : Nat} {oi : Oper} {v : Value} {f : Nat} {s : Array Bool} {a : Act} (hi : ops[i]? = some oi) (hs : Region.noSelect ops = true) (hf : Region.free md ops s i = true) (hr : (Region.ready md ops s).contains i = true)
    (hQ : ∀ c a w, Q (.panic c) (a.put oi.dst v) w → Q (.panic c) a w) (hy : YieldsIn P ops C oi v a) (h : wpAnyK P md ops C Q f (s.setIfInBounds i true) (a.put oi.dst v)) : wpAnyK P md ops C Q (f + 1) s a :=
  wpAnyK_first hi (Region.noSelect_spec hs) hQ f s a (Region.free_spec hi hf) (by simpa using hr) hy h
/-- Only number i may come up: whatever it yields. -/
theorem K_one {i : Nat} {f : Nat} {s : Array Bool} {a : Act} (hr : Region.ready md ops s = [i]) (h : kOp P ops C Q i (wpAnyK P md ops C Q f (s.setIfInBounds i true)) a) : wpAnyK P md ops C Q (f + 1) s a :=
  ⟨fun h0 => (by rw [hr] at h0; cases h0), fun j hj => by rw [hr, List.mem_singleton] at hj; subst hj; exact h⟩
/-- .. what has come up written out -/
theorem K_takeL {i : Nat} {oi : Oper} {v : Value} {d : Option Nat} {f : Nat} {s s' : Array Bool} {a : Act} (hs' : s.setIfInBounds i true = s') (hi : ops[i]? = some oi) (hd : oi.dst = d) (hs : Region.noSelect ops = true) (hf : Region.free md ops s i = true) (hr : (Region.ready md ops s).contains i = true)
    (hQ : ∀ c a w, Q (.panic c) (a.put oi.dst v) w → Q (.panic c) a w) (hy : YieldsIn P ops C oi v a) (h : wpAnyK P md ops C Q f s' (a.put d v)) : wpAnyK P md ops C Q (f + 1) s a :=
  K_take hi hs hf hr hQ hy (by rw [hd, hs']; exact h)
theorem K_oneL {i : Nat} {f : Nat} {s s' : Array Bool} {a : Act} (hs' : s.setIfInBounds i true = s') (hr : Region.ready md ops s = [i]) (h : kOp P ops C Q i (wpAnyK P md ops C Q f s') a) : wpAnyK P md ops C Q (f + 1) s a :=
  K_one hr (hs' ▸ h)
theorem wpOp_valueL {i : Nat} {o : Oper} {v : Value} {d : Option Nat} {a : Act} {w w' : World} {K : Act → World → Prop} (hi : ops[i]? = some o) (hd : o.dst = d) (hg : Region.wanted o (yielded ops a.tmps) = true)
    (hx : (execOp a.eval o).run P w = .ok (.value v) w') (hK : K (a.put d v) w') : wpOp P ops Q i K a w := by
  subst hd
  unfold wpOp
  simp only [hi, hg, if_true, Oper.wp, hx, Oper.upon]
  exact .inl hK
theorem K_done {s : Array Bool} {a : Act} (hr : Region.ready md ops s = []) (h : ∀ w, C w → Q .normal a w) : ∀ f, wpAnyK P md ops C Q f s a
  | 0 => ⟨hr, h⟩
  | _ + 1 => ⟨fun _ => h, by rw [hr]; simp⟩
theorem wp_region_K {id : Nat} {a : Act} {w : World} (hm : P.follows .mixedOrders = true) (hC : C { w with drawn := w.drawn + 1 })
    (h : wpAnyK P .any ops C Q ops.size (Array.replicate ops.size false) a) : (Code.region id ops true).wp P Q a w :=
  wp_region_any hm (wpAny_of_K _ _ _ _ hC h)
theorem wp_region_KL {id : Nat} {a : Act} {w : World} {s : Array Bool} {n : Nat} (hm : P.follows .mixedOrders = true) (hC : C { w with drawn := w.drawn + 1 }) (hn : ops.size = n) (hs : Array.replicate n false = s)
    (h : wpAnyK P .any ops C Q n s a) : (Code.region id ops true).wp P Q a w := by
  subst hn hs
  exact wp_region_K hm hC h
end

end Go.Proofs.YtpnbibokddhheaaGreat

/-
  Operations of a region that draws its order, one by one: calls, values, cells that stay.
-/
namespace Go.Proofs.YtpnbibokddhheaaGreat
open Go.RowKit

theorem cellIn {w W : World} {p : Addr} {v : Value} (h : w.cell? p = some v) (hW : Below w.heap.size w W) : W.cell? p = some v := (hW.cell (World.block_lt_of_cell? w _ h)).trans h
theorem wpOp_enter {P : Program} {ops : Array Oper} {Q : Exit → Act → World → Prop} {i : Nat} {o : Oper} {f : FuncId} {args : Array Value} {a : Act} {w : World} {K : Act → World → Prop} (hi : ops[i]? = some o) (hg : Region.wanted o (yielded ops a.tmps) = true)
    (hx : (execOp a.eval o).run P w = .ok (.enter f args) w) (hc : Calls P f args w fun e w'' => ∃ v, e = .returned v ∧ K (a.put o.dst v) w'') : wpOp P ops Q i K a w := by
  unfold wpOp
  simp only [hi, hg, if_true, Oper.wp, hx, Oper.upon]
  exact .inl (hc.mono fun e w'' ⟨v, he, hk⟩ => by subst he; exact hk)

theorem wpOp_value {P : Program} {ops : Array Oper} {Q : Exit → Act → World → Prop} {i : Nat} {o : Oper} {v : Value} {a : Act} {w w' : World} {K : Act → World → Prop} (hi : ops[i]? = some o) (hg : Region.wanted o (yielded ops a.tmps) = true)
    (hx : (execOp a.eval o).run P w = .ok (.value v) w') (hK : K (a.put o.dst v) w') : wpOp P ops Q i K a w := by
  unfold wpOp
  simp only [hi, hg, if_true, Oper.wp, hx, Oper.upon]
  exact .inl hK

theorem wpOp_wp {P : Program} {ops : Array Oper} {Q : Exit → Act → World → Prop} {i : Nat} {o : Oper} {a : Act} {w : World} {K : Act → World → Prop} (hi : ops[i]? = some o) (hg : Region.wanted o (yielded ops a.tmps) = true) (h : o.wp P a w K Q) : wpOp P ops Q i K a w := by
  unfold wpOp
  simp only [hi, hg, if_true]
  exact .inl h
theorem wpOp_skip {P : Program} {ops : Array Oper} {Q : Exit → Act → World → Prop} {i : Nat} {o : Oper} {a : Act} {w w' : World} {K : Act → World → Prop} (hi : ops[i]? = some o) (hg : Region.wanted o (yielded ops a.tmps) = true)
    (hx : (execOp a.eval o).run P w = .ok .skip w') (hK : K (a.put o.dst undef) w') : wpOp P ops Q i K a w := by
  unfold wpOp
  simp only [hi, hg, if_true, Oper.wp, hx, Oper.upon]
  exact .inl hK
theorem wp_append_run {P : Program} {o : Oper} {a : Act} {K : Act → World → Prop} {Q : Exit → Act → World → Prop} {w w' : World} {s x : Operand} {t : TypeId} {v : Value}
    (ho : o.op = .call { callee := .builtin .append, args := #[s, x], argTypes := #[t, t] }) (hr : (Builtin.append_ #[t, t] o.type #[a.eval s, a.eval x]).run P w = .ok v w') (h : K (a.put o.dst v) w') : o.wp P a w K Q := by
  unfold Oper.wp execOp
  simp only [ho, resolve, invoke, builtin, Sem.run_bind, Sem.run_pure, Result.andThen_ok, List.map_toArray, List.map_cons, List.map_nil, hr]
  exact h
theorem cell_new {w : World} {g i : Nat} {u : Value} (h : w.cell? ⟨g, i, none⟩ = some u) (o : Obj) : (w.alloc o).cell? ⟨g, i, none⟩ = some u := cellIn h ((Below.refl _ _).alloc (Nat.le_refl _) o)
theorem cell_only {w w6 : World} {o : Obj} {fv : Value} {g i : Nat} {u : Value} (h : w.cell? ⟨g, i, none⟩ = some u) (hg : (w.alloc o).grownBy w6 fv.ownBlock) (hne : some g ≠ fv.ownBlock) : w6.cell? ⟨g, i, none⟩ = some u := by
  have hlt : g < w.heap.size := World.block_lt_of_cell? w _ h
  have e : w6.heap[g]? = w.heap[g]? := (hg.block g (by simp; omega) hne).trans (Below.heap_alloc w o g hlt)
  rw [← h]
  simp [World.cell?, e]
end Go.Proofs.YtpnbibokddhheaaGreat

/-
  A region that draws its order, and whose last operation turns what the others read: they are taken first under what holds till then.
-/
namespace Go.Proofs.YtpnbibokddhheaaGreat
open Go Go.RowKit

section
variable {P : Program} {ops : Array Oper} {md : Region.Mode} {F : World → Prop} {n : Nat} {Q : Exit → Act → World → Prop}

/-- F holds behind every operation ahead of number n. -/
def wpAnyF (P : Program) (md : Region.Mode) (ops : Array Oper) (Q : Exit → Act → World → Prop) (F : World → Prop) (n : Nat) : Nat → Array Bool → Act → World → Prop
  | 0, s, a, w => Region.ready md ops s = [] ∧ Q .normal a w
  | f + 1, s, a, w => (Region.ready md ops s = [] → Q .normal a w) ∧ ∀ i ∈ Region.ready md ops s, wpOp P ops Q i (fun a' w' => (i < n → F w') ∧ wpAnyF P md ops Q F n f (s.setIfInBounds i true) a' w') a w
theorem wpAny_of_F : ∀ (f : Nat) (s : Array Bool) (a : Act) (w : World), wpAnyF P md ops Q F n f s a w → wpAny P md ops Q f s a w
  | 0, _, _, _, h => h
  | f + 1, _, _, _, h => ⟨h.1, fun i hi => wpOp_mono (fun a' w' h' => wpAny_of_F f _ a' w' h'.2) (h.2 i hi)⟩
/-- what has come up came up behind what it waits for -/
def Closed (md : Region.Mode) (ops : Array Oper) (s : Array Bool) : Prop := ∀ j oj, ops[j]? = some oj → s.getD j false = true → ∀ e ∈ oj.after, Region.binds md e = true → s.getD e.on false = true
def closedB (md : Region.Mode) (ops : Array Oper) (s : Array Bool) : Bool := (List.range ops.size).all fun j => match ops[j]? with
  | some o => !s.getD j false || o.after.toList.all fun e => !Region.binds md e || s.getD e.on false
  | none => true
theorem closed_of {s : Array Bool} (h : closedB md ops s = true) : Closed md ops s := by
  intro j oj hj hl e he hb
  have hjs : j < ops.size := (Array.getElem?_eq_some_iff.1 hj).1
  have h1 := List.all_eq_true.1 h j (List.mem_range.2 hjs)
  rw [hj] at h1
  simp only [hl, Bool.not_true, Bool.false_or] at h1
  have h2 := List.all_eq_true.1 h1 e (by simpa using he)
  rw [hb] at h2
  simpa using h2
theorem Closed.set {s : Array Bool} {i : Nat} (h : Closed md ops s) (hi : i ∈ Region.ready md ops s) : Closed md ops (s.setIfInBounds i true) := by
  obtain ⟨_, oi, hoi, hall⟩ := mem_ready.1 hi
  intro j oj hj hl e he hb
  by_cases hij : i = j
  · subst hij
    rw [hoi] at hj
    injection hj with hj
    subst hj
    exact getD_set_true (hall e he hb)
  · rw [getD_set_ne false hij] at hl
    exact getD_set_true (h j oj hj hl e he hb)
/-- j waits for i, over others too -/
def waitsB (md : Region.Mode) (ops : Array Oper) : Nat → Nat → Nat → Bool
  | 0, _, _ => false
  | f + 1, i, j => match ops[j]? with
    | some o => o.after.toList.any fun e => Region.binds md e && (e.on == i || waitsB md ops f i e.on)
    | none => false
theorem waits_listed {s : Array Bool} (hc : Closed md ops s) {i : Nat} : ∀ (f j : Nat), waitsB md ops f i j = true → (∀ oj, ops[j]? = some oj → ∀ e ∈ oj.after, Region.binds md e = true → s.getD e.on false = true) → s.getD i false = true
  | 0, _, h, _ => by simp [waitsB] at h
  | f + 1, j, h, hd => by
    unfold waitsB at h
    cases hj : ops[j]? with
    | none => rw [hj] at h; cases h
    | some oj =>
      rw [hj] at h
      obtain ⟨e, he, h1⟩ := List.any_eq_true.1 h
      rw [Bool.and_eq_true, Bool.or_eq_true, beq_iff_eq] at h1
      have he' : e ∈ oj.after := by simpa using he
      have hl := hd oj hj e he' h1.1
      rcases h1.2 with h2 | h2
      · rw [← h2]; exact hl
      · exact waits_listed hc f e.on h2 (fun ok hk e2 he2 hb2 => hc e.on ok hk hl e2 he2 hb2)
/-- number n is the last one, and waits for all others -/
def lastB (md : Region.Mode) (ops : Array Oper) (n : Nat) : Bool := ops.size == n + 1 && (List.range n).all fun i => waitsB md ops (n + 1) i n
theorem last_waits (hl : lastB md ops n = true) {s : Array Bool} (hc : Closed md ops s) {i j : Nat} (hi : i < n) (hun : s.getD i true = false) (hj : j ∈ Region.ready md ops s) : j < n := by
  unfold lastB at hl
  rw [Bool.and_eq_true, beq_iff_eq] at hl
  obtain ⟨-, oj, hoj, hall⟩ := mem_ready.1 hj
  have hjs : j < ops.size := (Array.getElem?_eq_some_iff.1 hoj).1
  by_cases hjn : j = n
  · subst hjn
    have h1 := List.all_eq_true.1 hl.2 i (List.mem_range.2 hi)
    have h3 := waits_listed hc _ _ h1 (fun ok hk e he hb => by rw [hoj] at hk; injection hk with hk; subst hk; exact hall e he hb)
    rw [getD_both hun] at h3
    exact Bool.noConfusion h3
  · omega
theorem wpAnyF_first (hl : lastB md ops n = true) {i : Nat} {oi : Oper} {v : Value} (hin : i < n) (hi : ops[i]? = some oi) (hsel : ∀ (j : Nat) (o : Oper) cs b, ops[j]? = some o → o.op ≠ .select cs b)
    (hQ : ∀ c a w, Q (.panic c) (a.put oi.dst v) w → Q (.panic c) a w) :
    ∀ (f : Nat) (s : Array Bool) (a : Act) (w : World), Closed md ops s → (∀ j oj, ops[j]? = some oj → j ≠ i → s.getD j true = false → (∀ e ∈ oj.after, Region.binds md e = true → e.on ≠ i) → oi.apart ops oj = true) →
      i ∈ Region.ready md ops s → YieldsIf P ops F oi v a → F w → wpAnyF P md ops Q F n f (s.setIfInBounds i true) (a.put oi.dst v) w → wpAnyF P md ops Q F n (f + 1) s a w := by
  intro f
  induction f with
  | zero =>
    intro s a w _ _ hr hy hF H
    refine ⟨fun h => (by rw [h] at hr; cases hr), fun j hj => ?_⟩
    by_cases hji : j = i
    · subst hji; exact hy.wpOp hi hF ⟨fun _ => hF, H⟩
    · have := ready_mono hj hji
      rw [H.1] at this
      cases this
  | succ f ih =>
    intro s a w hcl hfree hr hy hF H
    refine ⟨fun h => (by rw [h] at hr; cases hr), fun j hj => ?_⟩
    by_cases hji : j = i
    · subst hji; exact hy.wpOp hi hF ⟨fun _ => hF, H⟩
    · have hun := (mem_ready.1 hr).1
      have hjn : j < n := last_waits hl hcl hin hun hj
      have h1 := H.2 j (ready_mono hj hji)
      obtain ⟨hjun, oj, hoj, hall⟩ := mem_ready.1 hj
      have hnot : ∀ e ∈ oj.after, Region.binds md e = true → e.on ≠ i := fun e he hb heq => by
        have h1 := hall e he hb
        rw [heq, getD_both hun] at h1
        exact Bool.noConfusion h1
      have h2 := wpOp_putIf hoj (hfree j oj hoj hji hjun hnot) (fun cs b => hsel i oi cs b hi) (fun cs b => hsel j oj cs b hoj) hQ hy h1
      have hfree' : ∀ k ok, ops[k]? = some ok → k ≠ i → (s.setIfInBounds j true).getD k true = false → (∀ e ∈ ok.after, Region.binds md e = true → e.on ≠ i) → oi.apart ops ok = true := fun k ok hk hki hun hno => by
        refine hfree k ok hk hki ?_ hno
        by_cases hjk : j = k
        · subst hjk; exact hjun
        · rw [getD_set_ne true hjk] at hun; exact hun
      refine wpOp_mono (fun a' w' h3 => ⟨fun _ => h3.2.1 hjn, ih (s.setIfInBounds j true) a' w' (hcl.set hj) hfree' (ready_mono hr (Ne.symm hji)) h3.1 (h3.2.1 hjn) ?_⟩) h2
      rw [Array.setIfInBounds_comm _ _ hji]
      exact h3.2.2

theorem F_take {i : Nat} {oi : Oper} {v : Value} {d : Option Nat} {f : Nat} {s s' : Array Bool} {a : Act} {w : World} (hl : lastB md ops n = true) (hc : closedB md ops s = true) (hin : i < n) (hs' : s.setIfInBounds i true = s') (hi : ops[i]? = some oi) (hd : oi.dst = d) (hs : Region.noSelect ops = true)
    (hf : Region.free md ops s i = true) (hr : (Region.ready md ops s).contains i = true) (hQ : ∀ c a w, Q (.panic c) (a.put oi.dst v) w → Q (.panic c) a w) (hy : YieldsIf P ops F oi v a) (hF : F w)
    (h : wpAnyF P md ops Q F n f s' (a.put d v) w) : wpAnyF P md ops Q F n (f + 1) s a w :=
  wpAnyF_first hl hin hi (Region.noSelect_spec hs) hQ f s a w (closed_of hc) (Region.free_spec hi hf) (by simpa using hr) hy hF (by rw [hd, hs']; exact h)
theorem F_one {i : Nat} {f : Nat} {s s' : Array Bool} {a : Act} {w : World} (hs' : s.setIfInBounds i true = s') (hr : Region.ready md ops s = [i]) (h : wpOp P ops Q i (fun a' w' => (i < n → F w') ∧ wpAnyF P md ops Q F n f s' a' w') a w) : wpAnyF P md ops Q F n (f + 1) s a w :=
  ⟨fun h0 => (by rw [hr] at h0; cases h0), fun j hj => by rw [hr, List.mem_singleton] at hj; subst hj; rw [hs']; exact h⟩
theorem F_done {s : Array Bool} {a : Act} {w : World} (hr : Region.ready md ops s = []) (h : Q .normal a w) : ∀ f, wpAnyF P md ops Q F n f s a w
  | 0 => ⟨hr, h⟩
  | _ + 1 => ⟨fun _ => h, by rw [hr]; simp⟩
theorem wp_region_F {id : Nat} {a : Act} {w : World} {s : Array Bool} {m : Nat} (hm : P.follows .mixedOrders = true) (hn : ops.size = m) (hs : Array.replicate m false = s)
    (h : ∀ w1 : World, Hid (w1 = w.drew) → wpAnyF P .any ops Q F n m s a w1) : (Code.region id ops true).wp P Q a w := by
  subst hn hs
  exact wp_region_any hm (wpAny_of_F _ _ _ _ (h _ rfl))
theorem wpOp_appendL {i : Nat} {o : Oper} {t : TypeId} {sv xv v : Value} {x y : Operand} {d : Option Nat} {a : Act} {w w' : World} {K : Act → World → Prop} (hi : ops[i]? = some o) (hd : o.dst = d) (ht : o.type = t) (hg : Region.wanted o (yielded ops a.tmps) = true)
    (ho : o.op = .call { callee := .builtin .append, args := #[x, y], argTypes := #[t, t] }) (hs : a.eval x = sv) (hx : a.eval y = xv) (hr : (Builtin.append_ #[t, t] t #[sv, xv]).run P w = .ok v w') (hK : K (a.put d v) w') : wpOp P ops Q i K a w := by
  subst hd ht hs hx
  exact wpOp_wp hi hg (wp_append_run ho hr hK)
theorem wpOp_skipL {i : Nat} {o : Oper} {a : Act} {w w' : World} {K : Act → World → Prop} (hi : ops[i]? = some o) (hd : o.dst = none) (hg : Region.wanted o (yielded ops a.tmps) = true)
    (hx : (execOp a.eval o).run P w = .ok .skip w') (hK : K (a.put none undef) w') : wpOp P ops Q i K a w := by
  unfold wpOp
  simp only [hi, hg, if_true, Oper.wp, hx, Oper.upon, hd]
  exact .inl hK
end

end Go.Proofs.YtpnbibokddhheaaGreat

/-
  A region that draws its order, of which several operations may come up that make memory: each way.
-/
namespace Go.Proofs.YtpnbibokddhheaaGreat
open Go Go.RowKit

section
variable {P : Program} {ops : Array Oper} {md : Region.Mode} {F : World → Prop} {n : Nat} {Q : Exit → Act → World → Prop}
theorem F_two {i j : Nat} {f : Nat} {s si sj : Array Bool} {a : Act} {w : World} (hr : Region.ready md ops s = [i, j]) (hsi : s.setIfInBounds i true = si) (hsj : s.setIfInBounds j true = sj)
    (hi : wpOp P ops Q i (fun a' w' => (i < n → F w') ∧ wpAnyF P md ops Q F n f si a' w') a w) (hj : wpOp P ops Q j (fun a' w' => (j < n → F w') ∧ wpAnyF P md ops Q F n f sj a' w') a w) : wpAnyF P md ops Q F n (f + 1) s a w :=
  ⟨fun h0 => (by rw [hr] at h0; cases h0), fun k hk => by
    rw [hr, List.mem_cons, List.mem_singleton] at hk
    rcases hk with rfl | rfl
    · rw [hsi]; exact hi
    · rw [hsj]; exact hj⟩
theorem F_three {i j l : Nat} {f : Nat} {s si sj sl : Array Bool} {a : Act} {w : World} (hr : Region.ready md ops s = [i, j, l]) (hsi : s.setIfInBounds i true = si) (hsj : s.setIfInBounds j true = sj) (hsl : s.setIfInBounds l true = sl)
    (hi : wpOp P ops Q i (fun a' w' => (i < n → F w') ∧ wpAnyF P md ops Q F n f si a' w') a w) (hj : wpOp P ops Q j (fun a' w' => (j < n → F w') ∧ wpAnyF P md ops Q F n f sj a' w') a w)
    (hl : wpOp P ops Q l (fun a' w' => (l < n → F w') ∧ wpAnyF P md ops Q F n f sl a' w') a w) : wpAnyF P md ops Q F n (f + 1) s a w :=
  ⟨fun h0 => (by rw [hr] at h0; cases h0), fun k hk => by
    rw [hr, List.mem_cons, List.mem_cons, List.mem_singleton] at hk
    rcases hk with rfl | rfl | rfl
    · rw [hsi]; exact hi
    · rw [hsj]; exact hj
    · rw [hsl]; exact hl⟩
theorem wpOp_enterL {i : Nat} {o : Oper} {d : Option Nat} {f : FuncId} {args : Array Value} {a : Act} {w : World} {K : Act → World → Prop} (hi : ops[i]? = some o) (hd : o.dst = d) (hg : Region.wanted o (yielded ops a.tmps) = true)
    (hx : (execOp a.eval o).run P w = .ok (.enter f args) w) (hc : Calls P f args w fun e w'' => ∃ v, e = .returned v ∧ K (a.put d v) w'') : wpOp P ops Q i K a w := by
  subst hd
  exact wpOp_enter hi hg hx hc
end
theorem rows_keep {α : Type} {C : Nat} {cells : α → List Value} {W W' : World} {A : Option Addr} {R : List α} (h : RowsAt C cells W W.heap.size A R) (hb : Below W.heap.size W W') : RowsAt C cells W' W'.heap.size A R := (h.below hb).more hb.size
theorem rows_new {α : Type} {C : Nat} {cells : α → List Value} (hC : ∀ x, (cells x).length = C) (W : World) (t : TypeId) (R : List α) (cs : Array Value) (hcs : cs.toList = R.flatMap cells) (hflat : ∀ k (hk : k < R.length) i u, i < C → (cells R[k])[i]? = some u → cs[k * C + i]? = some u) : RowsAt C cells (W.alloc (.cells cs t)) (W.alloc (.cells cs t)).heap.size (some ⟨W.heap.size, 0, none⟩) R := by
  intro _
  have := hC
  have := hcs
  refine ⟨W.heap.size, 0, rfl, by simp, fun k hk i u hi hu => ?_⟩
  rw [show 0 + k * C + i = k * C + i by omega]
  rw [(Blk.new W t cs).cell]
  exact hflat k hk i u hi hu
theorem below_new (W : World) (o : Obj) : Below W.heap.size W (W.alloc o) := (Below.refl _ _).alloc (Nat.le_refl _) o

theorem below_trans {B : Nat} {w W W' : World} (h : Below B w W) (hB : B ≤ W.heap.size) (hb : Below W.heap.size W W') : Below B w W' := h.trans (hb.mono hB)
theorem ints_new (W : World) (t : TypeId) (xs : List Int) : RowsAt 1 icell (W.alloc (.cells (xs.map (Value.int .i64)).toArray t)) (W.alloc (.cells (xs.map (Value.int .i64)).toArray t)).heap.size (some ⟨W.heap.size, 0, none⟩) xs := by
  intro _
  refine ⟨W.heap.size, 0, rfl, by simp, fun k hk i u hi hu => ?_⟩
  obtain rfl : i = 0 := by omega
  rw [show 0 + k * 1 + 0 = k by omega, (Blk.new W t _).cell]
  simp only [icell, List.getElem?_cons_zero, Option.some.injEq] at hu
  subst hu
  simp [hk]

end Go.Proofs.YtpnbibokddhheaaGreat

/-
  cmp.Compare and cmp.Or at ints, in plain words and walked.
-/
namespace Go.Proofs.YtpnbibokddhheaaGreat
open Go.RowKit Go.Sort

def cmpI (a b : Int) : Int := if a < b then -1 else if b < a then 1 else 0
theorem cmpI_cases (a b : Int) : (a < b ∧ cmpI a b = -1) ∨ (¬a < b ∧ b < a ∧ cmpI a b = 1) ∨ (¬a < b ∧ ¬b < a ∧ cmpI a b = 0) := by
  unfold cmpI
  by_cases h1 : a < b
  · exact .inl ⟨h1, by simp [h1]⟩
  · by_cases h2 : b < a
    · exact .inr (.inl ⟨h1, h2, by simp [h1, h2]⟩)
    · exact .inr (.inr ⟨h1, h2, by simp [h1, h2]⟩)
set_option maxHeartbeats 400000 in
theorem isNaN_any (a : Int) (w : World) : Calls Tryz.prog 100 #[.int .i64 a] w fun r w' => r = .returned (.bool false) ∧ Below w.heap.size w w' := by
  go_enter Tryz.func100, Tryz.ntmps100
  go_wp2
  go_ret
  exact ⟨by simp, Below.refl _ _⟩
set_option maxHeartbeats 1000000 in
theorem cmp_any (a b : Int) (w : World) : Calls Tryz.prog 60 #[.int .i64 a, .int .i64 b] w fun r w' => r = .returned (.int .i64 (cmpI a b)) ∧ Below w.heap.size w w' := by
  rcases cmpI_cases a b with ⟨h1, e⟩ | ⟨h1, h2, e⟩ | ⟨h1, h2, e⟩
  all_goals
    rw [e]
    clear e
    go_enter Tryz.func60, Tryz.ntmps60
    go_wp2_with (first
      | (have _ := Hb1.out; go_at_call 100; (with_reducible refine Calls.mono (isNaN_any _ _) ?_); rintro r w2 ⟨rfl, hb2⟩; have Hb2 := Lib.hid (Hb1.out.trans (hb2.mono Hb1.out.size)); clear hb2)
      | (go_at_call 100; (with_reducible refine Calls.mono (isNaN_any _ _) ?_); rintro r w1 ⟨rfl, hb1⟩; have Hb1 := Lib.hid hb1; clear hb1))
    go_ret
    exact ⟨rfl, Hb2.out⟩
def orL : List Int → Int
  | [] => 0
  | x :: l => if x = 0 then orL l else x
theorem orL_at : ∀ (l : List Int) (k : Nat) (hk : k < l.length), (∀ j, (hj : j < k) → l[j] = 0) → l[k] ≠ 0 → orL l = l[k]
  | x :: l, 0, _, _, h => by
    simp only [List.getElem_cons_zero] at h ⊢
    simp only [orL, if_neg h]
  | x :: l, k + 1, hk, h0, h => by
    have hx : x = 0 := h0 0 (by omega)
    simp only [orL, hx, if_true]
    exact orL_at l k (by simpa using hk) (fun j hj => h0 (j + 1) (by omega)) h
theorem orL_zero : ∀ (l : List Int), (∀ j, (hj : j < l.length) → l[j] = 0) → orL l = 0
  | [], _ => rfl
  | x :: l, h => by
    have hx : x = 0 := h 0 (by simp)
    simp only [orL, hx, if_true]
    exact orL_zero l (fun j hj => h (j + 1) (by simpa using hj))
set_option maxHeartbeats 1000000 in
theorem or_any (l : List Int) (hlen : l.length ≤ 1000) (g cap : Nat) (w : World) (hl : ∀ k, (hk : k < l.length) → w.cell? ⟨g, k, none⟩ = some (.int .i64 l[k])) (hg : g < w.heap.size) (n : Nat) (hn : n = l.length) {x : Int} (hx : orL l = x) :
    Calls Tryz.prog 59 #[.slice (some ⟨g, 0, none⟩) n cap] w fun r w' => r = .returned (.int .i64 x) ∧ Below w.heap.size w w' := by
  subst hn
  have Hl := Lib.hid hl
  have Hx := Lib.hid hx
  clear hl hx
  go_enter Tryz.func59, Tryz.ntmps59
  go_wp2
  go_loopw [8] (fun i wr => ∃ k : Nat, k ≤ l.length ∧ i = .int .i64 k ∧ (∀ j, (hj : j < k) → (hjl : j < l.length) → l[j] = 0) ∧ Below w.heap.size w wr) (fun i _ => l.length - (intOf i).toNat)
  case atStart => exact ⟨0, Nat.zero_le _, rfl, fun j hj => absurd hj (by omega), Below.refl _ _⟩
  case round =>
    obtain ⟨k, hk, rfl, h0, hb⟩ := hrel
    have H0 := Lib.hid h0
    have Hb := Lib.hid hb
    by_cases hlt : k < l.length
    · have e0 : wr.cell? ⟨g, k, none⟩ = some (.int .i64 l[k]) := (hb.cell hg).trans (Hl.out k hlt)
      have hat := fun h => orL_at l k hlt (fun j hj => h0 j hj (by omega)) h
      clear h0 hb
      by_cases hz : l[k] = 0
      · have Hz := Lib.hid hz
        rw [hz] at e0
        clear hz hat
        go_wp2
        go_roundw
        case measure => simp [intOf]; omega
        case rel =>
          refine ⟨k + 1, hlt, by go_num, fun j hj hjl => ?_, Hb.out⟩
          by_cases hjk : j = k
          · subst hjk; exact Hz.out
          · exact H0.out j (by omega) hjl
      · have hat := hat hz
        rw [Hx.out] at hat
        rw [← hat] at e0 hz
        have hz' : (x != 0) = true := by simpa using hz
        clear hat hz
        go_wp2
        go_ret
        exact ⟨rfl, Hb.out⟩
    · have : k = l.length := by omega
      subst this
      have hz : x = 0 := by rw [← Hx.out]; exact orL_zero l (fun j hj => h0 j hj hj)
      subst hz
      clear h0 hb
      go_wp2
      go_ret
      exact ⟨rfl, Hb.out⟩

end Go.Proofs.YtpnbibokddhheaaGreat

/-
  cmp.Compare and cmp.Or at ints: they leave the world as it is.
-/
namespace Go.Proofs.YtpnbibokddhheaaGreat
open Go.RowKit Go.Sort

set_option maxHeartbeats 400000 in
theorem isNaN_s (a : Int) (w : World) : Calls Tryz.prog 100 #[.int .i64 a] w fun r w' => r = .returned (.bool false) ∧ w = w' := by
  go_enter Tryz.func100, Tryz.ntmps100
  go_wp2
  go_ret
  exact ⟨by simp, rfl⟩
set_option maxHeartbeats 1000000 in
theorem cmp_s (a b : Int) (w : World) : Calls Tryz.prog 60 #[.int .i64 a, .int .i64 b] w fun r w' => r = .returned (.int .i64 (cmpI a b)) ∧ w = w' := by
  rcases cmpI_cases a b with ⟨h1, e⟩ | ⟨h1, h2, e⟩ | ⟨h1, h2, e⟩
  all_goals
    rw [e]
    clear e
    go_enter Tryz.func60, Tryz.ntmps60
    go_wp2_with (go_at_call 100; (with_reducible refine Calls.mono (isNaN_s _ _) ?_); rintro r w2 ⟨rfl, rfl⟩)
    go_ret
    exact ⟨rfl, rfl⟩
set_option maxHeartbeats 1000000 in
theorem or_s (l : List Int) (hlen : l.length ≤ 1000) (g cap : Nat) (w : World) (hl : ∀ k, (hk : k < l.length) → w.cell? ⟨g, k, none⟩ = some (.int .i64 l[k])) (n : Nat) (hn : n = l.length) {x : Int} (hx : orL l = x) :
    Calls Tryz.prog 59 #[.slice (some ⟨g, 0, none⟩) n cap] w fun r w' => r = .returned (.int .i64 x) ∧ w = w' := by
  subst hn
  have Hl := Lib.hid hl
  have Hx := Lib.hid hx
  clear hl hx
  go_enter Tryz.func59, Tryz.ntmps59
  go_wp2
  go_loop [8] (fun i => ∃ k : Nat, k ≤ l.length ∧ i = .int .i64 k ∧ (∀ j, (hj : j < k) → (hjl : j < l.length) → l[j] = 0)) (fun i => l.length - (intOf i).toNat)
  case atStart => exact ⟨0, Nat.zero_le _, rfl, fun j hj => absurd hj (by omega)⟩
  case round =>
    obtain ⟨k, hk, rfl, h0⟩ := hrel
    have H0 := Lib.hid h0
    by_cases hlt : k < l.length
    · have e0 : w.cell? ⟨g, k, none⟩ = some (.int .i64 l[k]) := Hl.out k hlt
      have hat := fun h => orL_at l k hlt (fun j hj => h0 j hj (by omega)) h
      clear h0
      by_cases hz : l[k] = 0
      · have Hz := Lib.hid hz
        rw [hz] at e0
        clear hz hat
        go_wp2
        go_round
        case measure => simp [intOf]; omega
        case rel =>
          refine ⟨k + 1, hlt, by go_num, fun j hj hjl => ?_⟩
          by_cases hjk : j = k
          · subst hjk; exact Hz.out
          · exact H0.out j (by omega) hjl
      · have hat := hat hz
        rw [Hx.out] at hat
        rw [← hat] at e0 hz
        have hz' : (x != 0) = true := by simpa using hz
        clear hat hz
        go_wp2
        go_ret
        exact ⟨rfl, rfl⟩
    · have : k = l.length := by omega
      subst this
      have hz : x = 0 := by rw [← Hx.out]; exact orL_zero l (fun j hj => h0 j hj hj)
      subst hz
      clear h0
      go_wp2
      go_ret
      exact ⟨rfl, rfl⟩

end Go.Proofs.YtpnbibokddhheaaGreat

/-
  A region that draws its order: operations that only read, or call what only reads, and behind them a forced tail: one walk, in a world that is the first one but for draws.
-/
namespace Go.Proofs.YtpnbibokddhheaaGreat
open Go.RowKit Go.Sort

theorem wp_drew_tail {P : Program} {id : Nat} {Q : Exit → Act → World → Prop} {a : Act} {w : World} {l : List Oper} (n : Nat) (hm : P.follows .mixedOrders = true) (hB : Region.lexTailB .any l.toArray n = true)
    (h : wpQuiet P l.toArray (fun w' => ∃ q, w' = w.drewN q) (fun a' => ∀ w', (∃ q, w' = w.drewN q) → wpList P l.toArray Q (l.drop n) a' w') (l.take n) a) : (Code.region id l.toArray true).wp P Q a w :=
  wp_quiet_tail (C := fun w' => ∃ q, w' = w.drewN q) n hm hB ⟨1, rfl⟩ h
/-- a function that is there is entered -/
theorem callOf {P : Program} {f : FuncId} {fn : Func} (h : P.funcs[f]? = some fn) (hb : fn.body.isNone = false) (hn : (fn.name == "runtime.NumGoroutine") = false) (xs : Array Value) (w : World) :
    (callFunc f xs).run P w = .ok (.enter f xs) w := by
  have hn' : fn.name ≠ "runtime.NumGoroutine" := by simpa using hn
  have hb' : fn.body ≠ none := by intro e; rw [e] at hb; cases hb
  simp [callFunc, go_sem, h, hb', hn']
theorem lit3 (w : World) (x0 x1 x2 : Int) (t : TypeId) : ∀ k, (hk : k < [x0, x1, x2].length) → (w.alloc (.cells #[.int .i64 x0, .int .i64 x1, .int .i64 x2] t)).cell? ⟨w.heap.size, k, none⟩ = some (.int .i64 [x0, x1, x2][k]) := by
  intro k hk
  rw [(Blk.new w t _).cell k]
  match k, hk with
  | 0, _ => rfl
  | 1, _ => rfl
  | 2, _ => rfl
theorem or3_s (a b c : Int) (W : World) : Calls Tryz.prog 59 #[.slice (some ⟨W.heap.size, 0, none⟩) 3 3] (W.alloc (.cells #[.int .i64 a, .int .i64 b, .int .i64 c] 3)) fun r w' => r = .returned (.int .i64 (orL [a, b, c])) ∧ W.alloc (.cells #[.int .i64 a, .int .i64 b, .int .i64 c] 3) = w' :=
  or_s [a, b, c] (by simp) W.heap.size 3 _ (lit3 _ _ _ _ _) 3 (by simp) rfl
theorem cmp_q (a b : Int) (W : World) (n : Nat) : Calls Tryz.prog 60 #[.int .i64 a, .int .i64 b] (W.drewN n) fun r w' => r = .returned (.int .i64 (cmpI a b)) ∧ ∃ q, w' = W.drewN q :=
  (cmp_s a b _).mono fun _ _ ⟨h1, h2⟩ => ⟨h1, n, h2.symm⟩

def cmp3 (a1 a2 a3 b1 b2 b3 : Int) : Int := orL [cmpI a1 b1, cmpI a2 b2, cmpI a3 b3]
/-- less by three numbers, the first one first -/
def less3 (a1 a2 a3 b1 b2 b3 : Int) : Bool := decide (a1 < b1) || (a1 == b1) && (decide (a2 < b2) || (a2 == b2) && decide (a3 < b3))
theorem cmp3_less (a1 a2 a3 b1 b2 b3 : Int) : decide (cmp3 a1 a2 a3 b1 b2 b3 < 0) = less3 a1 a2 a3 b1 b2 b3 := by
  unfold cmp3 less3
  rcases cmpI_cases a1 b1 with ⟨h, e⟩ | ⟨h, h', e⟩ | ⟨h, h', e⟩ <;> rw [e] <;> rcases cmpI_cases a2 b2 with ⟨g, e2⟩ | ⟨g, g', e2⟩ | ⟨g, g', e2⟩ <;> rw [e2] <;> rcases cmpI_cases a3 b3 with ⟨k, e3⟩ | ⟨k, k', e3⟩ | ⟨k, k', e3⟩ <;> rw [e3] <;> simp [orL] <;> omega

end Go.Proofs.YtpnbibokddhheaaGreat

/-
  Worlds that are a first one but for draws and new blocks: regions that draw their order walk in that class.
-/
namespace Go.Proofs.YtpnbibokddhheaaGreat
open Go.RowKit Go.Sort

structure GD where
  q : Nat
  os : Array Obj
instance : Nonempty GD := ⟨⟨0, #[]⟩⟩
theorem gd_gd (w : World) (q q' : Nat) (os os' : Array Obj) : grow ((grow (w.drewN q) os).drewN q') os' = grow (w.drewN (q + q')) (os ++ os') := by
  simp [grow, World.drewN, Nat.add_assoc]
theorem gd_drew (w : World) (q : Nat) (os : Array Obj) : (grow (w.drewN q) os).drew = grow (w.drewN (q + 1)) os := rfl
theorem gd_alloc (w : World) (q : Nat) (os : Array Obj) (o : Obj) : (grow (w.drewN q) os).alloc o = grow (w.drewN q) (os.push o) := by
  rw [alloc_eq_grow, grow_grow]; rfl
theorem gd_zero (w : World) : w = grow (w.drewN 0) #[] := by simp [World.drewN]
theorem cell_gd {w : World} {p : Addr} {v : Value} (h : w.cell? p = some v) : ∀ q os, (grow (w.drewN q) os).cell? p = some v := fun q os => by
  have hb := World.block_lt_of_cell? w _ h
  rw [cell?_grow (w.drewN q) os p (by exact hb)]
  exact h
theorem below_gd (w : World) (q : Nat) (os : Array Obj) : Below w.heap.size w (grow (w.drewN q) os) :=
  ⟨rfl, rfl, rfl, by simp [grow, World.drewN], fun k hk => by rw [heap_grow_old _ _ (by exact hk)]; rfl⟩
/-- A contract whose world is known but for draws and new blocks, from any world of the class. -/
theorem gd_of {f : FuncId} {args : Array Value} {w : World} {q : Nat} {os : Array Obj} {R : Ending → Prop} (h : Calls Tryz.prog f args (grow (w.drewN q) os) fun r w' => R r ∧ ∃ q' os', w' = grow ((grow (w.drewN q) os).drewN q') os') :
    Calls Tryz.prog f args (grow (w.drewN q) os) fun r w' => R r ∧ ∃ p : GD, w' = grow (w.drewN p.q) p.os :=
  h.mono fun r w' ⟨h1, q', os', h2⟩ => ⟨h1, ⟨q + q', os ++ os'⟩, by rw [h2, gd_gd]⟩
theorem wp_gd_tail {P : Program} {id : Nat} {Q : Exit → Act → World → Prop} {a : Act} {w : World} {l : List Oper} (n : Nat) (hm : P.follows .mixedOrders = true) (hB : Region.lexTailB .any l.toArray n = true)
    (h : wpQuiet P l.toArray (fun w' => ∃ p : GD, w' = grow (w.drewN p.q) p.os) (fun a' => ∀ w', (∃ p : GD, w' = grow (w.drewN p.q) p.os) → wpList P l.toArray Q (l.drop n) a' w') (l.take n) a) : (Code.region id l.toArray true).wp P Q a w :=
  wp_quiet_tail (C := fun w' => ∃ p : GD, w' = grow (w.drewN p.q) p.os) n hm hB ⟨⟨1, #[]⟩, by rw [grow_empty]; rfl⟩ h

end Go.Proofs.YtpnbibokddhheaaGreat

/-
  Keys in order, in plain words.
-/
namespace Go.Proofs.YtpnbibokddhheaaGreat

def cmpK (a b : K3) : Int := cmp3 a.kind a.id a.adv b.kind b.id b.adv
def lessK (a b : K3) : Bool := less3 a.kind a.id a.adv b.kind b.id b.adv
theorem cmpK_less (a b : K3) : decide (cmpK a b < 0) = lessK a b := cmp3_less _ _ _ _ _ _
def sortK (L : List K3) : List K3 := L.mergeSort fun x y => !lessK y x
theorem lessK_iff (a b : K3) : lessK a b = true ↔ a.kind < b.kind ∨ (a.kind = b.kind ∧ (a.id < b.id ∨ (a.id = b.id ∧ a.adv < b.adv))) := by
  simp [lessK, less3]
theorem lessK_irr (a : K3) : lessK a a = false := by
  rw [Bool.eq_false_iff]; intro h; rw [lessK_iff] at h; omega
theorem lessK_tot {a b : K3} (h1 : lessK a b = false) (h2 : lessK b a = false) : a = b := by
  rw [Bool.eq_false_iff, ne_eq, lessK_iff] at h1 h2
  obtain ⟨a1, a2, a3⟩ := a
  obtain ⟨b1, b2, b3⟩ := b
  simp only at h1 h2
  simp only [K3.mk.injEq]
  omega
theorem lessK_trans {a b c : K3} (h1 : lessK a b = true) (h2 : lessK b c = true) : lessK a c = true := by
  rw [lessK_iff] at *; omega
theorem lessK_ntrans {a b c : K3} (h1 : lessK a b = false) (h2 : lessK b c = false) : lessK a c = false := by
  rw [Bool.eq_false_iff, ne_eq, lessK_iff] at *; omega
theorem sortK_perm (L : List K3) : (sortK L).Perm L := List.mergeSort_perm _ _
theorem sortK_len (L : List K3) : (sortK L).length = L.length := (sortK_perm L).length_eq
theorem sortK_sorted (L : List K3) : (sortK L).Pairwise fun x y => lessK y x = false := by
  have := List.pairwise_mergeSort (le := fun x y => !lessK y x) (fun a b c h1 h2 => by
    simp only [Bool.not_eq_true'] at *
    exact lessK_ntrans h2 h1) (fun a b => by
    cases h : lessK b a
    · simp
    · cases h' : lessK a b
      · simp
      · exact absurd (lessK_trans h h') (by rw [lessK_irr]; simp)) L
  exact this.imp fun {a b} h => by simpa using h
/-- two lists of the same keys, both in order, are one -/
theorem sorted_one : ∀ {L M : List K3}, L.Perm M → (L.Pairwise fun x y => lessK y x = false) → (M.Pairwise fun x y => lessK y x = false) → L = M
  | [], M, hp, _, _ => by simpa using hp.symm.eq_nil
  | x :: L, [], hp, _, _ => by simpa using hp.eq_nil
  | x :: L, y :: M, hp, h1, h2 => by
    rw [List.pairwise_cons] at h1 h2
    have hxy : x = y := by
      have hx : x ∈ y :: M := hp.subset (by simp)
      have hy : y ∈ x :: L := hp.symm.subset (by simp)
      rcases List.mem_cons.1 hx with e | hx
      · exact e
      · rcases List.mem_cons.1 hy with e | hy
        · exact e.symm
        · exact lessK_tot (h2.1 x hx) (h1.1 y hy)
    subst hxy
    rw [sorted_one (List.Perm.cons_inv hp) h1.2 h2.2]
theorem sortK_of_perm {L M : List K3} (h : L.Perm M) : sortK L = sortK M := sorted_one (((sortK_perm L).trans h).trans (sortK_perm M).symm) (sortK_sorted L) (sortK_sorted M)
theorem sortK_of_sorted {L : List K3} (h : L.Pairwise fun x y => lessK y x = false) : sortK L = L := sorted_one (sortK_perm L) (sortK_sorted L) h

end Go.Proofs.YtpnbibokddhheaaGreat

/-
  Layer 15: what is wanted, in plain words: heads by their keys.
-/
namespace Go.Proofs.YtpnbibokddhheaaGreat

def keyH (h : Hd) : K3 := ⟨h.kind, h.id, h.adv⟩
def aggH (h : Hd) : Value := .agg h.cells.toArray
def waL (M : List Hd) : List (K3 × Value) := M.map fun h => (keyH h, aggH h)
def getH (k : K3) : List Hd → Option Hd
  | [] => none
  | x :: M => if keyH x = k then some x else getH k M
def setH (h : Hd) : List Hd → List Hd
  | [] => [h]
  | x :: M => if keyH x = keyH h then h :: M else x :: setH h M
def dropH (k : K3) (M : List Hd) : List Hd := M.filter fun x => decide (keyH x ≠ k)
theorem getL_wa (k : K3) : ∀ M : List Hd, getL k (waL M) = (getH k M).map aggH
  | [] => rfl
  | x :: M => by
    have ih := getL_wa k M
    unfold waL at ih ⊢
    by_cases hx : keyH x = k
    · simp [getL, getH, hx]
    · simp [getL, getH, hx, ih]
theorem setL_wa (h : Hd) : ∀ M : List Hd, setL (keyH h) (aggH h) (waL M) = waL (setH h M)
  | [] => rfl
  | x :: M => by
    have ih := setL_wa h M
    unfold waL at ih ⊢
    by_cases hx : keyH x = keyH h
    · simp [setL, setH, hx]
    · simp [setL, setH, hx, ih]
theorem dropL_wa (k : K3) (M : List Hd) : dropL k (waL M) = waL (dropH k M) := by
  unfold dropL waL dropH
  rw [List.filter_map]
  rfl
theorem fst_wa (M : List Hd) : (waL M).map (·.1) = M.map keyH := by simp [waL, Function.comp_def]

/-- the document's list is in order -/
def sortedH (L : List Hd) : Prop := L.Pairwise fun x y => lessK (keyH x) (keyH y) = true
theorem sortedH.keys {L : List Hd} (h : sortedH L) : (L.map keyH).Nodup := by
  unfold sortedH at h
  rw [List.Nodup, List.pairwise_map]
  exact h.imp fun {a b} hab e => by rw [e, lessK_irr] at hab; cases hab
theorem getH_mem {k : K3} : ∀ {M : List Hd} {x : Hd}, getH k M = some x → x ∈ M ∧ keyH x = k
  | y :: M, x, h => by
    unfold getH at h
    by_cases hy : keyH y = k
    · rw [if_pos hy] at h
      injection h with h
      subst h
      exact ⟨by simp, hy⟩
    · rw [if_neg hy] at h
      have := getH_mem h
      exact ⟨by simp [this.1], this.2⟩
theorem getH_none {k : K3} : ∀ {M : List Hd}, getH k M = none ↔ ∀ x ∈ M, keyH x ≠ k
  | [] => by simp [getH]
  | y :: M => by
    unfold getH
    by_cases hy : keyH y = k
    · simp [hy]
    · simp [hy, getH_none (M := M)]
theorem getH_of {M : List Hd} (hn : (M.map keyH).Nodup) {x : Hd} (hx : x ∈ M) : getH (keyH x) M = some x := by
  induction M with
  | nil => simp at hx
  | cons y M ih =>
    simp only [List.map_cons, List.nodup_cons] at hn
    unfold getH
    by_cases hy : keyH y = keyH x
    · rw [if_pos hy]
      rcases List.mem_cons.1 hx with e | hx
      · rw [e]
      · exact absurd (by rw [hy]; exact List.mem_map_of_mem hx) hn.1
    · rw [if_neg hy]
      rcases List.mem_cons.1 hx with e | hx
      · exact absurd (by rw [e]) hy
      · exact ih hn.2 hx
theorem getH_perm {M L : List Hd} (hp : M.Perm L) (hn : (M.map keyH).Nodup) (k : K3) : getH k M = getH k L := by
  have hn' : (L.map keyH).Nodup := (hp.map keyH).nodup_iff.1 hn
  cases h : getH k L with
  | none => rw [getH_none] at h ⊢; exact fun x hx => h x (hp.subset hx)
  | some x =>
    obtain ⟨h1, h2⟩ := getH_mem h
    subst h2
    exact getH_of hn (hp.symm.subset h1)
theorem setH_perm (h : Hd) : ∀ {M : List Hd}, (M.map keyH).Nodup → (setH h M).Perm (h :: dropH (keyH h) M)
  | [], _ => by simp [setH, dropH]
  | x :: M, hn => by
    simp only [List.map_cons, List.nodup_cons] at hn
    unfold setH
    by_cases hx : keyH x = keyH h
    · rw [if_pos hx]
      have : dropH (keyH h) (x :: M) = M := by
        unfold dropH
        rw [List.filter_cons_of_neg (by simp [hx])]
        exact List.filter_eq_self.2 fun y hy => by simpa using fun e => hn.1 (by rw [hx, ← e]; exact List.mem_map_of_mem hy)
      rw [this]
    · rw [if_neg hx]
      have : dropH (keyH h) (x :: M) = x :: dropH (keyH h) M := by unfold dropH; rw [List.filter_cons_of_pos (by simp [hx])]
      rw [this]
      exact ((setH_perm h hn.2).cons x).trans (List.Perm.swap _ _ _)
theorem setH_keys {h : Hd} : ∀ {L : List Hd}, (∃ x ∈ L, keyH x = keyH h) → (setH h L).map keyH = L.map keyH
  | [], hx => by obtain ⟨x, hx, _⟩ := hx; simp at hx
  | y :: L, hx => by
    unfold setH
    by_cases hy : keyH y = keyH h
    · rw [if_pos hy]; simp [hy]
    · rw [if_neg hy]
      obtain ⟨x, hx1, hx2⟩ := hx
      rcases List.mem_cons.1 hx1 with e | hx1
      · exact absurd (by rw [← e]; exact hx2) hy
      · simp [setH_keys (L := L) ⟨x, hx1, hx2⟩]
theorem sorted_keys {L L' : List Hd} (h : sortedH L) (e : L'.map keyH = L.map keyH) : sortedH L' := by
  unfold sortedH at *
  have h1 : (L.map keyH).Pairwise fun x y => lessK x y = true := by rw [List.pairwise_map]; exact h
  rw [← e, List.pairwise_map] at h1
  exact h1
def insH (h : Hd) : List Hd → List Hd
  | [] => [h]
  | x :: L => if lessK (keyH h) (keyH x) = true then h :: x :: L else x :: insH h L
theorem insH_perm (h : Hd) : ∀ L : List Hd, (insH h L).Perm (h :: L)
  | [] => List.Perm.refl _
  | x :: L => by
    unfold insH
    split
    · exact List.Perm.refl _
    · exact ((insH_perm h L).cons x).trans (List.Perm.swap _ _ _)
theorem insH_sorted {h : Hd} : ∀ {L : List Hd}, sortedH L → (∀ x ∈ L, keyH x ≠ keyH h) → sortedH (insH h L)
  | [], _, _ => by simp [insH, sortedH]
  | x :: L, hs, hne => by
    unfold sortedH at hs
    rw [List.pairwise_cons] at hs
    unfold insH
    by_cases hl : lessK (keyH h) (keyH x) = true
    · rw [if_pos hl]
      unfold sortedH
      rw [List.pairwise_cons, List.pairwise_cons]
      refine ⟨fun y hy => ?_, hs⟩
      rcases List.mem_cons.1 hy with e | hy
      · rw [e]; exact hl
      · exact lessK_trans hl (hs.1 y hy)
    · rw [if_neg hl]
      unfold sortedH
      rw [List.pairwise_cons]
      refine ⟨fun y hy => ?_, insH_sorted hs.2 fun z hz => hne z (by simp [hz])⟩
      have hy' := (insH_perm h L).subset hy
      rcases List.mem_cons.1 hy' with e | hy'
      · rw [e]
        cases hx : lessK (keyH x) (keyH h) with
        | true => rfl
        | false => exact absurd (lessK_tot hx (by simpa using hl)) (hne x (by simp))
      · exact hs.1 y hy'
theorem sortedH_one : ∀ {L M : List Hd}, L.Perm M → sortedH L → sortedH M → L = M
  | [], M, hp, _, _ => by simpa using hp.symm.eq_nil
  | x :: L, [], hp, _, _ => by simpa using hp.eq_nil
  | x :: L, y :: M, hp, h1, h2 => by
    unfold sortedH at h1 h2
    rw [List.pairwise_cons] at h1 h2
    have hxy : x = y := by
      rcases List.mem_cons.1 (hp.subset (List.mem_cons_self (a := x) (l := L))) with e | hx
      · exact e
      · rcases List.mem_cons.1 (hp.symm.subset (List.mem_cons_self (a := y) (l := M))) with e | hy
        · exact e.symm
        · have h3 := lessK_trans (h2.1 x hx) (h1.1 y hy)
          rw [lessK_irr] at h3
          cases h3
    subst hxy
    rw [sortedH_one (List.Perm.cons_inv hp) h1.2 h2.2]

/-- the map's heads and the document's list -/
structure WEq (M L : List Hd) : Prop where
  perm : M.Perm L
  sorted : sortedH L
section
variable {M L : List Hd}
theorem WEq.nil : WEq [] [] := ⟨List.Perm.refl _, by simp [sortedH]⟩
theorem WEq.keys (h : WEq M L) : (M.map keyH).Nodup := (h.perm.map keyH).nodup_iff.2 h.sorted.keys
theorem WEq.get (h : WEq M L) (k : K3) : getH k M = getH k L := getH_perm h.perm h.keys k
theorem WEq.len (h : WEq M L) : M.length = L.length := h.perm.length_eq
theorem WEq.drop (h : WEq M L) (k : K3) : WEq (dropH k M) (dropH k L) := ⟨h.perm.filter _, h.sorted.sublist List.filter_sublist⟩
theorem WEq.set (h : WEq M L) {x : Hd} {y : Hd} (hx : getH (keyH y) L = some x) : WEq (setH y M) (setH y L) := by
  obtain ⟨h1, h2⟩ := getH_mem hx
  exact ⟨((setH_perm y h.keys).trans ((h.perm.filter _).cons y)).trans (setH_perm y h.sorted.keys).symm, sorted_keys h.sorted (setH_keys ⟨x, h1, h2⟩)⟩
theorem WEq.ins (h : WEq M L) {y : Hd} (hy : getH (keyH y) L = none) : WEq (setH y M) (insH y L) := by
  rw [getH_none] at hy
  refine ⟨(setH_perm y h.keys).trans (List.Perm.trans ?_ (insH_perm y L).symm), insH_sorted h.sorted hy⟩
  have : dropH (keyH y) L = L := List.filter_eq_self.2 fun z hz => by simpa using hy z hz
  have h3 := h.perm.filter (fun x => decide (keyH x ≠ keyH y))
  unfold dropH at this ⊢
  rw [this] at h3
  exact h3.cons y
end

/-- one head is added: on either side -/
def addM (nw : Hd → Hd → Int) (M : List Hd) (h : Hd) : List Hd := match getH (keyH h) M with
  | some x => if 0 < nw h x then setH h M else M
  | none => setH h M
def addD (nw : Hd → Hd → Int) (L : List Hd) (h : Hd) : List Hd := match getH (keyH h) L with
  | some x => if 0 < nw h x then setH h L else L
  | none => insH h L
theorem WEq.add {M L : List Hd} (h : WEq M L) (nw : Hd → Hd → Int) (y : Hd) : WEq (addM nw M y) (addD nw L y) := by
  unfold addM addD
  rw [h.get]
  cases hx : getH (keyH y) L with
  | none => exact h.ins hx
  | some x =>
    simp only
    by_cases h1 : 0 < nw y x
    · rw [if_pos h1, if_pos h1]; exact h.set hx
    · rw [if_neg h1, if_neg h1]; exact h

end Go.Proofs.YtpnbibokddhheaaGreat
