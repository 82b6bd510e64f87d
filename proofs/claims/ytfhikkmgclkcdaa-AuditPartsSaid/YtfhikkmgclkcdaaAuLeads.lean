/-
  Layer 27: whether one of candidates may be elected (audit.leads).
-/
import Derived.Test.YtfhikkmgclkcdaaAuCands
import Derived.Test.YtfhikkmgclkcdaaElStable
namespace Go.Proofs.Ytfhikkmgclkcdaa
open Go.RowKit

set_option maxHeartbeats 1000000 in
set_option maxRecDepth 100000 in
/-- slices.IndexFunc at candidates, whatever is asked -/
theorem idxf_any (f : Nat) (lb : Array Value) (hcall : ∀ (xs : Array Value) (w : World), (callFunc f xs).run Try.prog w = .ok (.enter f xs) w) (q : Cand → Bool) (A : Option Addr) (cap : Nat) (l : List Cand) (w : World) (B : Nat) (hl : CandsAt w B A l) (hB : B ≤ w.heap.size) (hn : l.length ≤ maxLen)
    (hf : ∀ W, Below w.heap.size w W → ∀ a b c d : Int, Calls Try.prog f (#[.agg #[.int .i64 a, .int .i64 b, .int .i64 c, .int .i64 d]] ++ lb) W fun e w' => e = .returned (.bool (q ⟨a, b, c, d⟩)) ∧ Below W.heap.size W w') :
    Calls Try.prog 132 #[.slice A l.length cap, .func (.func f) #[] lb] w
      fun e w' => ∃ z : Int, e = .returned (.int .i64 z) ∧ decide (0 ≤ z) = l.any q ∧ Below w.heap.size w w' := by
  unfold maxLen at hn
  have Hl := Lib.hid (hl.more hB)
  have Hf := Lib.hid hf
  clear hl hB hf
  go_enter Try.func132, Try.ntmps132
  go_wp2
  go_loopw [8] (fun i wr => ∃ k : Nat, k ≤ l.length ∧ i = .int .i64 k ∧ (l.take k).any q = false ∧ Below w.heap.size w wr) (fun i _ => l.length - (intOf i).toNat)
  case atStart => exact ⟨0, Nat.zero_le _, rfl, by simp, Below.refl _ _⟩
  case round =>
    obtain ⟨k, hk, rfl, hno, hb⟩ := hrel
    by_cases hlt : k < l.length
    · obtain ⟨b, o, rfl, -, e0, e1, e2, e3⟩ := CandsAt.at_ (CandsAt.below Hl.out hb) k hlt
      have hsucc := any_take_succ q l k hlt
      have htrue := fun h => any_true (f := q) hlt h
      have hkl : (k : Int) < (l.length : Int) := by omega
      generalize l[k] = c at *
      rcases c with ⟨a1, a2, a3, a4⟩
      have Hno := Lib.hid hno
      have Hb := Lib.hid hb
      have Hsucc := Lib.hid hsucc
      have Htrue := Lib.hid htrue
      clear hno hb hsucc htrue
      cases hq : q ⟨a1, a2, a3, a4⟩
      all_goals
        have Hq := Lib.hid hq
        clear hq
        go_wp2_with ((with_reducible refine Calls.mono (Hf.out _ Hb.out a1 a2 a3 a4) ?_); rw [Hq.out]; rintro r w2 ⟨rfl, hb2⟩; have Hb2 := Lib.hid (Hb.out.trans (hb2.mono Hb.out.size)); clear hb2)
      · go_roundw
        case measure => simp [intOf]; omega
        case rel => exact ⟨k + 1, hlt, by go_num, by rw [Hsucc.out, Hno.out, Hq.out]; rfl, Hb2.out⟩
      · go_ret
        exact ⟨_, rfl, by rw [Htrue.out Hq.out]; simp, Hb2.out⟩
    · have hkk : k = l.length := by omega
      subst hkk
      rw [List.take_length] at hno
      have Hno := Lib.hid hno
      have Hb := Lib.hid hb
      clear hno hb
      go_wp2
      go_ret
      exact ⟨_, rfl, by rw [Hno.out]; rfl, Hb.out⟩

def leadB (id : Int) (c : Cand) : Bool := decide (0 < c.prio) && (id == 0 || c.id == id)
def leadsB (l : List Cand) (id : Int) : Bool := l.any (leadB id)
theorem leadB_cases (id : Int) (c : Cand) : (decide (0 < c.prio) = false ∧ leadB id c = false) ∨ (decide (0 < c.prio) = true ∧ (id == 0) = true ∧ leadB id c = true) ∨ (decide (0 < c.prio) = true ∧ (id == 0) = false ∧ (c.id == id) = false ∧ leadB id c = false) ∨
    (decide (0 < c.prio) = true ∧ (id == 0) = false ∧ (c.id == id) = true ∧ leadB id c = true) := by
  unfold leadB
  cases decide (0 < c.prio) <;> cases (id == 0) <;> cases (c.id == id) <;> simp
theorem call_lead (xs : Array Value) (w : World) : (callFunc 106 xs).run Try.prog w = .ok (.enter 106 xs) w := call_of Try.func106 rfl (by kernel_rfl) xs w
set_option maxHeartbeats 1000000 in
theorem lead1_any (a b c d id : Int) (bs : Nat) (w : World) (hc : w.cell? ⟨bs, 0, none⟩ = some (.int .i64 id)) (hbs : bs < w.heap.size) :
    Calls Try.prog 106 #[.agg #[.int .i64 a, .int .i64 b, .int .i64 c, .int .i64 d], .pointer (some ⟨bs, 0, none⟩)] w fun e w' => e = .returned (.bool (leadB id ⟨a, b, c, d⟩)) ∧ Below w.heap.size w w' := by
  have hc1 : ∀ o, (w.alloc o).cell? ⟨bs, 0, none⟩ = some (.int .i64 id) := fun o => (World.cell?_alloc_lt w o ⟨bs, 0, none⟩ hbs).trans hc
  rcases leadB_cases id ⟨a, b, c, d⟩ with ⟨t1, h⟩ | ⟨t1, t2, h⟩ | ⟨t1, t2, t3, h⟩ | ⟨t1, t2, t3, h⟩
  all_goals
    rw [h]
    clear h
    go_enter Try.func106, Try.ntmps106
    go_wp2
    go_ret
    exact ⟨rfl, (Below.refl _ _).alloc (Nat.le_refl _) _⟩
set_option maxHeartbeats 1000000 in
set_option maxRecDepth 100000 in
theorem containsf_any (f : Nat) (lb : Array Value) (hcall : ∀ (xs : Array Value) (w : World), (callFunc f xs).run Try.prog w = .ok (.enter f xs) w) (q : Cand → Bool) (A : Option Addr) (cap : Nat) (l : List Cand) (w : World) (B : Nat) (hl : CandsAt w B A l) (hB : B ≤ w.heap.size) (hn : l.length ≤ maxLen)
    (hf : ∀ W, Below w.heap.size w W → ∀ a b c d : Int, Calls Try.prog f (#[.agg #[.int .i64 a, .int .i64 b, .int .i64 c, .int .i64 d]] ++ lb) W fun e w' => e = .returned (.bool (q ⟨a, b, c, d⟩)) ∧ Below W.heap.size W w') :
    Calls Try.prog 105 #[.slice A l.length cap, .func (.func f) #[] lb] w
      fun e w' => e = .returned (.bool (l.any q)) ∧ Below w.heap.size w w' := by
  have Hi := Lib.hid (idxf_any f lb hcall q A cap l w B hl hB hn hf)
  clear hl hB hn hf
  go_enter Try.func105, Try.ntmps105
  go_wp2_with (go_at_call 132; (with_reducible refine Calls.mono Hi.out ?_); rintro r w2 ⟨z, rfl, hz, hb2⟩; have Hz := Lib.hid hz; clear hz)
  go_ret
  exact ⟨by rw [← Hz.out]; rfl, hb2⟩
set_option maxHeartbeats 1000000 in
set_option maxRecDepth 100000 in
theorem leads_any (n : Nat) (A : Option Addr) (cap : Nat) (l : List Cand) (id : Int) (w : World) (B : Nat) (hl : CandsAt w B A l) (hB : B ≤ w.heap.size) (hn : l.length ≤ maxLen) (hnl : n = l.length) {x : Bool} (hx : leadsB l id = x) :
    Calls Try.prog 68 #[.slice A n cap, .int .i64 id] w fun e w' => e = .returned (.bool x) ∧ Below w.heap.size w w' := by
  subst hnl hx
  have hb1 : Below w.heap.size w (w.alloc (.cells #[.int .i64 id] 3)) := (Below.refl _ _).alloc (Nat.le_refl _) _
  have hcall := containsf_any 106 #[.pointer (some ⟨w.heap.size, 0, none⟩)] call_lead (leadB id) A cap l (w.alloc (.cells #[.int .i64 id] 3)) w.heap.size ((hl.more hB).below hb1) (by simp) hn (fun W hW a b c d => by
    have hc : W.cell? ⟨w.heap.size, 0, none⟩ = some (.int .i64 id) := ((Blk.new w _ _).below hW (by simp)).cell 0
    exact lead1_any a b c d id w.heap.size W hc (by have := hW.size; simp at this; omega))
  have Hcall := Lib.hid hcall
  have Hb1 := Lib.hid hb1
  clear hcall hl hb1 hB
  unfold leadsB
  go_enter Try.func68, Try.ntmps68
  go_wp2_with (go_at_call 105; (with_reducible refine Calls.mono Hcall.out ?_); rintro r w2 ⟨rfl, hb2⟩)
  go_ret
  exact ⟨rfl, Hb1.out.trans (hb2.mono (by simp))⟩

end Go.Proofs.Ytfhikkmgclkcdaa
