/-
  The walks of elect.Stable and of the example.
-/
import Derived.Test.YtpnbibokddhheaaGreatProg
import Derived.Outline
import Derived.Test.YtpnbibokddhheaaGreatBad
import Derived.Test.YtpnbibokddhheaaGreatBae
import Derived.Test.YtpnbibokddhheaaGreatBag
namespace Go.Proofs.YtpnbibokddhheaaGreat
open Go.RowKit

theorem elect_n (self : Int) (n : Nat) (A : Option Addr) (cap : Nat) (l : List Cand) (w : World) (B : Nat) (hl : CandsAt w B A l) (hB : B ≤ w.heap.size) (hn : l.length ≤ 2 ^ 40) (hnl : n = l.length) :
    Calls Tryz.prog 139 #[.int .i64 self, .slice A n cap] w fun e w' => e = .returned (.tuple #[.int .i64 (elect self l).1, .int .i64 (elect self l).2]) ∧ Below w.heap.size w w' := by
  subst hnl; exact elect_any self A cap l w B hl hB hn

def stOne (l : List Cand) (c : Cand) : Bool := c.dr == (l.headD Cand.zero).dr && c.bdr == (l.headD Cand.zero).bdr && (elect c.id l).1 == c.dr && (elect c.id l).2 == c.bdr
theorem stable_all {l : List Cand} (h : ∀ j, (hj : j < l.length) → stOne l l[j] = true) : stable l = true := by
  unfold stable
  rw [List.all_eq_true]
  intro c hc
  obtain ⟨j, hj, rfl⟩ := List.getElem_of_mem hc
  exact h j hj
theorem stable_not {l : List Cand} {j : Nat} (hj : j < l.length) (h : stOne l l[j] = false) : stable l = false := by
  unfold stable
  rw [List.all_eq_false]
  exact ⟨l[j], List.getElem_mem hj, by rw [Bool.not_eq_true]; exact h⟩
theorem stOne_cases (l : List Cand) (c : Cand) :
    ((c.dr != (l.headD Cand.zero).dr) = true ∧ stOne l c = false) ∨
    ((c.dr != (l.headD Cand.zero).dr) = false ∧ (c.bdr != (l.headD Cand.zero).bdr) = true ∧ stOne l c = false) ∨
    ((c.dr != (l.headD Cand.zero).dr) = false ∧ (c.bdr != (l.headD Cand.zero).bdr) = false ∧ ((elect c.id l).1 != c.dr) = true ∧ stOne l c = false) ∨
    ((c.dr != (l.headD Cand.zero).dr) = false ∧ (c.bdr != (l.headD Cand.zero).bdr) = false ∧ ((elect c.id l).1 != c.dr) = false ∧ ((elect c.id l).2 != c.bdr) = true ∧ stOne l c = false) ∨
    ((c.dr != (l.headD Cand.zero).dr) = false ∧ (c.bdr != (l.headD Cand.zero).bdr) = false ∧ ((elect c.id l).1 != c.dr) = false ∧ ((elect c.id l).2 != c.bdr) = false ∧ stOne l c = true) := by
  unfold stOne
  simp only [bne]
  cases (c.dr == (l.headD Cand.zero).dr) <;> cases (c.bdr == (l.headD Cand.zero).bdr) <;> cases ((elect c.id l).1 == c.dr) <;> cases ((elect c.id l).2 == c.bdr) <;> simp

set_option maxHeartbeats 4000000 in
set_option maxRecDepth 100000 in
theorem stable_any (A : Option Addr) (cap : Nat) (l : List Cand) (w : World) (B : Nat) (hl : CandsAt w B A l) (hB : B ≤ w.heap.size) (hn : l.length ≤ 2 ^ 40) :
    Calls Tryz.prog 95 #[.slice A l.length cap] w fun e w' => e = .returned (.bool (stable l)) ∧ Below w.heap.size w w' := by
  have hl := hl.more hB
  have Hl := Lib.hid hl
  have Hn := Lib.hid hn
  have hn64 : l.length ≤ 1099511627776 := hn
  clear hl hB
  go_enter Tryz.func95, Tryz.ntmps95
  go_wp2
  go_loopw [9] (fun i wr => ∃ k : Nat, k ≤ l.length ∧ i = .int .i64 k ∧ (∀ j, (hj : j < k) → (hjl : j < l.length) → stOne l l[j] = true) ∧ Below w.heap.size w wr) (fun i _ => l.length - (intOf i).toNat)
  case atStart => exact ⟨0, Nat.zero_le _, rfl, fun j hj => absurd hj (Nat.not_lt_zero _), Below.refl _ _⟩
  case round =>
    obtain ⟨k, hk, rfl, hst, hb⟩ := hrel
    have Hst := Lib.hid hst
    clear hst
    by_cases hlt : k < l.length
    · obtain ⟨b, o, rfl, hbB, e0, e1, e2, e3⟩ := CandsAt.at_ (CandsAt.below Hl.out hb) k hlt
      obtain ⟨b', o', hbo, _, d0, d1, d2, d3⟩ := CandsAt.at_ (CandsAt.below Hl.out hb) 0 (by omega)
      cases hbo
      simp only [Nat.zero_mul, Nat.add_zero] at d0 d1 d2 d3
      have hh : l.headD Cand.zero = l[0]'(by omega) := by
        rcases l with _ | ⟨c, l⟩
        · exact absurd hlt (Nat.not_lt_zero _)
        · rfl
      have hcs := stOne_cases l l[k]
      have hnot := fun h => stable_not hlt h
      rw [hh] at hcs
      have hp : (0 : Int) < (l.length : Int) := by omega
      have hck : ∀ c, l[k] = c → ∀ P : Prop, (stOne l c = true → P) → stOne l l[k] = true → P := fun c h P f g => f (h ▸ g)
      generalize hc : l[k] = c at *
      generalize l[0] = z at *
      have Hc := Lib.hid hc
      generalize hel : elect c.id l = el at *
      have Hel := Lib.hid hel
      rcases c with ⟨ci, cpr, cd, cb⟩
      rcases z with ⟨zi, zp, zd, zb⟩
      rcases el with ⟨x, y⟩
      clear hc hck hel hh
      have hbs : ∀ o, Below w.heap.size w (wr.alloc o) := fun o => hb.alloc hb.size o
      have Hbs := Lib.hid hbs
      have hfar : ∀ ob w1, Below (wr.alloc ob).heap.size (wr.alloc ob) w1 → (w1.cell? ⟨b, o, none⟩ = wr.cell? ⟨b, o, none⟩) ∧ ∀ j, w1.cell? ⟨b, o + j, none⟩ = wr.cell? ⟨b, o + j, none⟩ := by
        intro ob w1 h
        have hbw : b < wr.heap.size := Nat.lt_of_lt_of_le hbB hb.size
        exact ⟨(h.cell (by simp; omega)).trans (World.cell?_alloc_lt _ _ _ hbw), fun j => (h.cell (by simp; omega)).trans (World.cell?_alloc_lt _ _ _ hbw)⟩
      have Hfar := Lib.hid hfar
      clear hbs hfar
      rcases hcs with ⟨h1, hx⟩ | ⟨h1, h2, hx⟩ | ⟨h1, h2, h3, hx⟩ | ⟨h1, h2, h3, h4, hx⟩ | ⟨h1, h2, h3, h4, hx⟩
      all_goals
        have Hx := Lib.hid hx
        have Hnot := Lib.hid hnot
        clear hx hnot
        go_wp2_with (go_at_call 139; (with_reducible refine Calls.mono (elect_any ci _ cap l _ _ (CandsAt.of Hl.out (Hbs.out _) (Hbs.out _).size) (Nat.le_refl _) Hn.out) ?_); rw [Hel.out]; rintro e w1 ⟨rfl, hb1⟩; have hT := (Blk.new _ _ _).below hb1 (by simp); obtain ⟨x0, x1, x2, x3, _, _, _, _⟩ := hT.cells4; have Hb1 := Lib.hid ((Hbs.out _).trans (hb1.mono (Hbs.out _).size)); have z2 := ((Hfar.out _ _ hb1).2 2).trans d2; have z3 := ((Hfar.out _ _ hb1).2 3).trans d3; have HT := Lib.hid hT; clear hb1 hT)
        go_quiet (fail)
        go_wp2
      iterate 4
        · go_ret
          exact ⟨by rw [Hnot.out Hx.out]; rfl, below_drewN Hb1.out _⟩
      go_roundw
      case measure => simp [intOf]; omega
      case rel =>
        refine ⟨k + 1, hlt, by go_num, fun j hj hjl => ?_, below_drewN Hb1.out _⟩
        rcases Nat.lt_succ_iff_lt_or_eq.1 hj with h | h
        · exact Hst.out j h hjl
        · subst h; rw [Hc.out]; exact Hx.out
    · have : k = l.length := by omega
      subst this
      have hfin := stable_all (fun j hj => Hst.out j hj hj)
      have Hfin := Lib.hid hfin
      clear hfin
      go_wp2
      go_ret
      exact ⟨by rw [Hfin.out]; rfl, hb⟩
theorem stable_n (n : Nat) (A : Option Addr) (cap : Nat) (l : List Cand) (w : World) (B : Nat) (hl : CandsAt w B A l) (hB : B ≤ w.heap.size) (hn : l.length ≤ 2 ^ 40) (hnl : n = l.length) :
    Calls Tryz.prog 95 #[.slice A n cap] w fun e w' => e = .returned (.bool (stable l)) ∧ Below w.heap.size w w' := by
  subst hnl; exact stable_any A cap l w B hl hB hn

end Go.Proofs.YtpnbibokddhheaaGreat

/-
  Layer 27: whether one of candidates may be elected (audit.leads).
-/
namespace Go.Proofs.YtpnbibokddhheaaGreat
open Go.RowKit

set_option maxHeartbeats 1000000 in
set_option maxRecDepth 100000 in
/-- slices.IndexFunc at candidates, whatever is asked -/
theorem idxf_any (f : Nat) (lb : Array Value) (hcall : ∀ (xs : Array Value) (w : World), (callFunc f xs).run Tryz.prog w = .ok (.enter f xs) w) (q : Cand → Bool) (A : Option Addr) (cap : Nat) (l : List Cand) (w : World) (B : Nat) (hl : CandsAt w B A l) (hB : B ≤ w.heap.size) (hn : l.length ≤ maxLen)
    (hf : ∀ W, Below w.heap.size w W → ∀ a b c d : Int, Calls Tryz.prog f (#[.agg #[.int .i64 a, .int .i64 b, .int .i64 c, .int .i64 d]] ++ lb) W fun e w' => e = .returned (.bool (q ⟨a, b, c, d⟩)) ∧ Below W.heap.size W w') :
    Calls Tryz.prog 191 #[.slice A l.length cap, .func (.func f) #[] lb] w
      fun e w' => ∃ z : Int, e = .returned (.int .i64 z) ∧ decide (0 ≤ z) = l.any q ∧ Below w.heap.size w w' := by
  unfold maxLen at hn
  have Hl := Lib.hid (hl.more hB)
  have Hf := Lib.hid hf
  clear hl hB hf
  go_enter Tryz.func191, Tryz.ntmps191
  go_wp2
  go_loopw [8] (fun i wr => ∃ k : Nat, k ≤ l.length ∧ i = .int .i64 k ∧ (l.take k).any q = false ∧ Below w.heap.size w wr) (fun i _ => l.length - (intOf i).toNat)
  case atStart => exact ⟨0, Nat.zero_le _, rfl, by simp, Below.refl _ _⟩
  case round =>
    obtain ⟨k, hk, rfl, hno, hb⟩ := hrel
    by_cases hlt : k < l.length
    · obtain ⟨b, o, rfl, -, e0, e1, e2, e3⟩ := CandsAt.at_ (CandsAt.below Hl.out hb) k hlt
      have hsucc := any_take_succ q l k hlt
      have htrue := fun h => any_true (f := q) hlt h
      have hkl : (k : Int) < (l.length : Int) := by omega
      generalize l[k] = c at *
      rcases c with ⟨a1, a2, a3, a4⟩
      have Hno := Lib.hid hno
      have Hb := Lib.hid hb
      have Hsucc := Lib.hid hsucc
      have Htrue := Lib.hid htrue
      clear hno hb hsucc htrue
      cases hq : q ⟨a1, a2, a3, a4⟩
      all_goals
        have Hq := Lib.hid hq
        clear hq
        go_wp2_with ((with_reducible refine Calls.mono (Hf.out _ Hb.out a1 a2 a3 a4) ?_); rw [Hq.out]; rintro r w2 ⟨rfl, hb2⟩; have Hb2 := Lib.hid (Hb.out.trans (hb2.mono Hb.out.size)); clear hb2)
      · go_roundw
        case measure => simp [intOf]; omega
        case rel => exact ⟨k + 1, hlt, by go_num, by rw [Hsucc.out, Hno.out, Hq.out]; rfl, Hb2.out⟩
      · go_ret
        exact ⟨_, rfl, by rw [Htrue.out Hq.out]; simp, Hb2.out⟩
    · have hkk : k = l.length := by omega
      subst hkk
      rw [List.take_length] at hno
      have Hno := Lib.hid hno
      have Hb := Lib.hid hb
      clear hno hb
      go_wp2
      go_ret
      exact ⟨_, rfl, by rw [Hno.out]; rfl, Hb.out⟩

def leadB (id : Int) (c : Cand) : Bool := decide (0 < c.prio) && (id == 0 || c.id == id)
def leadsB (l : List Cand) (id : Int) : Bool := l.any (leadB id)
theorem leadB_cases (id : Int) (c : Cand) : (decide (0 < c.prio) = false ∧ leadB id c = false) ∨ (decide (0 < c.prio) = true ∧ (id == 0) = true ∧ leadB id c = true) ∨ (decide (0 < c.prio) = true ∧ (id == 0) = false ∧ (c.id == id) = false ∧ leadB id c = false) ∨
    (decide (0 < c.prio) = true ∧ (id == 0) = false ∧ (c.id == id) = true ∧ leadB id c = true) := by
  unfold leadB
  cases decide (0 < c.prio) <;> cases (id == 0) <;> cases (c.id == id) <;> simp
theorem call_lead (xs : Array Value) (w : World) : (callFunc 138 xs).run Tryz.prog w = .ok (.enter 138 xs) w := call_of Tryz.func138 rfl (by kernel_rfl) xs w
set_option maxHeartbeats 1000000 in
theorem lead1_any (a b c d id : Int) (bs : Nat) (w : World) (hc : w.cell? ⟨bs, 0, none⟩ = some (.int .i64 id)) (hbs : bs < w.heap.size) :
    Calls Tryz.prog 138 #[.agg #[.int .i64 a, .int .i64 b, .int .i64 c, .int .i64 d], .pointer (some ⟨bs, 0, none⟩)] w fun e w' => e = .returned (.bool (leadB id ⟨a, b, c, d⟩)) ∧ Below w.heap.size w w' := by
  have hc1 : ∀ o, (w.alloc o).cell? ⟨bs, 0, none⟩ = some (.int .i64 id) := fun o => (World.cell?_alloc_lt w o ⟨bs, 0, none⟩ hbs).trans hc
  rcases leadB_cases id ⟨a, b, c, d⟩ with ⟨t1, h⟩ | ⟨t1, t2, h⟩ | ⟨t1, t2, t3, h⟩ | ⟨t1, t2, t3, h⟩
  all_goals
    rw [h]
    clear h
    go_enter Tryz.func138, Tryz.ntmps138
    go_wp2
    go_ret
    exact ⟨rfl, (Below.refl _ _).alloc (Nat.le_refl _) _⟩
set_option maxHeartbeats 1000000 in
set_option maxRecDepth 100000 in
theorem containsf_any (f : Nat) (lb : Array Value) (hcall : ∀ (xs : Array Value) (w : World), (callFunc f xs).run Tryz.prog w = .ok (.enter f xs) w) (q : Cand → Bool) (A : Option Addr) (cap : Nat) (l : List Cand) (w : World) (B : Nat) (hl : CandsAt w B A l) (hB : B ≤ w.heap.size) (hn : l.length ≤ maxLen)
    (hf : ∀ W, Below w.heap.size w W → ∀ a b c d : Int, Calls Tryz.prog f (#[.agg #[.int .i64 a, .int .i64 b, .int .i64 c, .int .i64 d]] ++ lb) W fun e w' => e = .returned (.bool (q ⟨a, b, c, d⟩)) ∧ Below W.heap.size W w') :
    Calls Tryz.prog 137 #[.slice A l.length cap, .func (.func f) #[] lb] w
      fun e w' => e = .returned (.bool (l.any q)) ∧ Below w.heap.size w w' := by
  have Hi := Lib.hid (idxf_any f lb hcall q A cap l w B hl hB hn hf)
  clear hl hB hn hf
  go_enter Tryz.func137, Tryz.ntmps137
  go_wp2_with (go_at_call 191; (with_reducible refine Calls.mono Hi.out ?_); rintro r w2 ⟨z, rfl, hz, hb2⟩; have Hz := Lib.hid hz; clear hz)
  go_ret
  exact ⟨by rw [← Hz.out]; rfl, hb2⟩
set_option maxHeartbeats 1000000 in
set_option maxRecDepth 100000 in
theorem leads_any (n : Nat) (A : Option Addr) (cap : Nat) (l : List Cand) (id : Int) (w : World) (B : Nat) (hl : CandsAt w B A l) (hB : B ≤ w.heap.size) (hn : l.length ≤ maxLen) (hnl : n = l.length) {x : Bool} (hx : leadsB l id = x) :
    Calls Tryz.prog 94 #[.slice A n cap, .int .i64 id] w fun e w' => e = .returned (.bool x) ∧ Below w.heap.size w w' := by
  subst hnl hx
  have hb1 : Below w.heap.size w (w.alloc (.cells #[.int .i64 id] 3)) := (Below.refl _ _).alloc (Nat.le_refl _) _
  have hcall := containsf_any 138 #[.pointer (some ⟨w.heap.size, 0, none⟩)] call_lead (leadB id) A cap l (w.alloc (.cells #[.int .i64 id] 3)) w.heap.size ((hl.more hB).below hb1) (by simp) hn (fun W hW a b c d => by
    have hc : W.cell? ⟨w.heap.size, 0, none⟩ = some (.int .i64 id) := ((Blk.new w _ _).below hW (by simp)).cell 0
    exact lead1_any a b c d id w.heap.size W hc (by have := hW.size; simp at this; omega))
  have Hcall := Lib.hid hcall
  have Hb1 := Lib.hid hb1
  clear hcall hl hb1 hB
  unfold leadsB
  go_enter Tryz.func94, Tryz.ntmps94
  go_wp2_with (go_at_call 137; (with_reducible refine Calls.mono Hcall.out ?_); rintro r w2 ⟨rfl, hb2⟩)
  go_ret
  exact ⟨rfl, Hb1.out.trans (hb2.mono (by simp))⟩

end Go.Proofs.YtpnbibokddhheaaGreat

/-
  Layer 27: whether they agree, and on whom (audit.Agreed, audit.On).
-/
namespace Go.Proofs.YtpnbibokddhheaaGreat
open Go.RowKit

/-- whether candidates agree, and on whom -/
def agreedC (c : List Cand) : Int × Int × Bool :=
  if c.length = 0 then (0, 0, true)
  else if ((((c.headD Cand.zero).dr == 0) == leadsB c 0) || ((c.headD Cand.zero).dr != 0 && !leadsB c (c.headD Cand.zero).dr) || ((c.headD Cand.zero).bdr != 0 && !leadsB c (c.headD Cand.zero).bdr) || !stable c) = true then (0, 0, false)
  else ((c.headD Cand.zero).dr, (c.headD Cand.zero).bdr, true)
/-- the ways through the test, one by one -/
theorem agreed_cases {c : List Cand} (h0 : 0 < c.length) {dr bdr : Int} (hd : (c.headD Cand.zero).dr = dr) (hb : (c.headD Cand.zero).bdr = bdr) :
    ∃ (x : Bool) (l0 l1 l2 st : Bool) (r : Int × Int × Bool), agreedC c = r ∧ leadsB c 0 = l0 ∧ leadsB c dr = l1 ∧ leadsB c bdr = l2 ∧ stable c = st ∧ (dr == 0) = x ∧
      ((x = true ∧ l0 = true ∧ r = (0, 0, false)) ∨ (x = false ∧ l0 = false ∧ r = (0, 0, false)) ∨
       (x = false ∧ l0 = true ∧ l1 = false ∧ r = (0, 0, false)) ∨
       (((x = true ∧ l0 = false) ∨ (x = false ∧ l0 = true ∧ l1 = true)) ∧
         (((bdr == 0) = false ∧ l2 = false ∧ r = (0, 0, false)) ∨ (((bdr == 0) = true ∨ ((bdr == 0) = false ∧ l2 = true)) ∧ ((st = false ∧ r = (0, 0, false)) ∨ (st = true ∧ r = (dr, bdr, true))))))) := by
  refine ⟨dr == 0, leadsB c 0, leadsB c dr, leadsB c bdr, stable c, _, rfl, rfl, rfl, rfl, rfl, rfl, ?_⟩
  unfold agreedC
  rw [if_neg (by omega), hd, hb]
  generalize leadsB c 0 = l0
  generalize leadsB c dr = l1
  generalize leadsB c bdr = l2
  generalize stable c = st
  have e1 : (dr != 0) = !(dr == 0) := rfl
  have e2 : (bdr != 0) = !(bdr == 0) := rfl
  rw [e1, e2]
  cases (dr == 0) <;> cases (bdr == 0) <;> cases l0 <;> cases l1 <;> cases l2 <;> cases st <;> simp

theorem ret3 {a a' b b' : Int} {c : Bool} (h1 : a = a') (h2 : b = b') : Ending.returned (.tuple #[.int .i64 a, .int .i64 b, .bool c]) = .returned (.tuple #[.int .i64 a', .int .i64 b', .bool c]) := by rw [h1, h2]
theorem bne_t {x : Int} (h : (x == 0) = true) : (x != 0) = false := by simp [bne, h]
theorem bne_f {x : Int} (h : (x == 0) = false) : (x != 0) = true := by simp [bne, h]
theorem eq_zero {x : Int} (h : (x == 0) = true) : 0 = x := (beq_iff_eq.1 h).symm
theorem bn_step {B : Nat} {w w1 w2 : World} (h : Below B w w1) (hB : B ≤ w1.heap.size) (h2 : Below w1.heap.size w1 w2) : Below B w w2 ∧ B ≤ w2.heap.size := ⟨h.trans (h2.mono hB), Nat.le_trans hB h2.size⟩
theorem bn_end {w w1 wd w2 : World} (_h1 : Below w.heap.size w w1) (_h2 : w1.heap.size ≤ wd.heap.size) (h3 : Below w.heap.size w wd) (h4 : Below w1.heap.size wd w2) (h5 : w.heap.size ≤ w1.heap.size) : Below w.heap.size w w2 :=
  h3.trans (h4.mono h5)
theorem stable_v {n : Nat} {A : Option Addr} {cap : Nat} {l : List Cand} {w : World} {B : Nat} (hl : CandsAt w B A l) (hB : B ≤ w.heap.size) (hn : l.length ≤ 2 ^ 40) (hnl : n = l.length) {x : Bool} (hx : stable l = x) :
    Calls Tryz.prog 95 #[.slice A n cap] w fun e w' => e = .returned (.bool x) ∧ Below w.heap.size w w' := by
  subst hx
  exact stable_n n A cap l w B hl hB hn hnl
theorem candsOf_len (l : List Stt) (lan : Int) : (candsOf (countedL l) lan).length ≤ 16 := by
  rw [← candsK_all]; exact candsK_len _ _ _

set_option maxHeartbeats 8000000 in
set_option maxRecDepth 100000 in
theorem agreedS_any (g b o : Nat) (lan : Int) (l : List Stt) (w : World) (hT : Blk w g 168 (tblC (some ⟨b, o, none⟩) l)) (hl : StatesAt w w.heap.size (some ⟨b, o, none⟩) l) {r1 r2 : Int} {r3 : Bool} (hr : agreedC (candsOf (countedL l) lan) = (r1, r2, r3)) :
    Calls Tryz.prog 52 #[.pointer (some ⟨g, 0, none⟩), .int .i64 lan] w fun r w' => r = .returned (.tuple #[.int .i64 r1, .int .i64 r2, .bool r3]) ∧ Below w.heap.size w w' := by
  have Hc := Lib.hid (cands_any g b o lan l w hT hl)
  have hlen := candsOf_len l lan
  clear hT hl
  generalize candsOf (countedL l) lan = C at *
  by_cases h0 : C.length = 0
  · have hr' : (0, 0, true) = (r1, r2, r3) := by rw [← hr]; unfold agreedC; rw [if_pos h0]
    simp only [Prod.mk.injEq] at hr'
    obtain ⟨rfl, rfl, rfl⟩ := hr'
    have t0 : ((C.length : Int) == 0) = true := by simp [h0]
    clear hr h0
    go_enter Tryz.func52, Tryz.ntmps52
    go_wp2_with (go_at_call 93; (with_reducible refine Calls.mono Hc.out ?_); rintro r w1 ⟨v, rfl, hown, hb1⟩; obtain ⟨A1, c1, rfl, hc⟩ := OwnC.shape hown; clear hown hc)
    go_ret3
    exact ⟨rfl, hb1⟩
  · have hpos : 0 < C.length := by omega
    have t0 : ((C.length : Int) == 0) = false := by rw [beq_eq_false_iff_ne]; omega
    obtain ⟨c0, hc0⟩ : ∃ c0, C[0] = c0 := ⟨_, rfl⟩
    have hhd : C.headD Cand.zero = c0 := by
      rw [← hc0]
      rcases C with _ | ⟨y, C⟩
      · simp at hpos
      · rfl
    rcases c0 with ⟨q1, q2, dr, bdr⟩
    obtain ⟨x, l0, l1, l2, st, r, hre, hl0, hl1, hl2, hst, hx, hcases⟩ := agreed_cases hpos (dr := dr) (bdr := bdr) (by rw [hhd]) (by rw [hhd])
    rw [hr] at hre
    subst hre
    have Hl0 := Lib.hid hl0
    have Hx := Lib.hid hx
    have Hl1 := Lib.hid hl1
    have Hl2 := Lib.hid hl2
    have Hst := Lib.hid hst
    have Hc0 := Lib.hid hc0
    have hC1 : C.length ≤ maxLen := by unfold maxLen; omega
    have HC1 := Lib.hid hC1
    have hlen2 : C.length ≤ 2 ^ 40 := by omega
    have Hlen2 := Lib.hid hlen2
    have hcA : ∀ (w1 : World) (A : Option Addr), CandsAt w1 w1.heap.size A C → ∃ b o, A = some ⟨b, o, none⟩ ∧ w1.cell? ⟨b, o + 2, none⟩ = some (.int .i64 dr) ∧ w1.cell? ⟨b, o + 3, none⟩ = some (.int .i64 bdr) := fun w1 A h => by
      obtain ⟨b, o, e, _, _, _, e2, e3⟩ := CandsAt.at_ h 0 hpos
      rw [Hc0.out] at e2 e3
      simp only [Nat.zero_mul, Nat.add_zero] at e2 e3
      exact ⟨b, o, e, e2, e3⟩
    have HcA := Lib.hid hcA
    clear hr hl0 hl1 hl2 hst hc0 hhd hC1 hlen2 h0 hcA
    have Hcases := Lib.hid hcases
    clear hcases hx
    go_enter Tryz.func52, Tryz.ntmps52
    go_wp2_with (go_at_call 93; (with_reducible refine Calls.mono Hc.out ?_); rintro r w1 ⟨v, rfl, hown, hb1⟩; obtain ⟨A1, c1, rfl, hc⟩ := OwnC.shape hown; obtain ⟨b1, o1, rfl, e2, e3⟩ := HcA.out _ _ hc; have Hca := Lib.hid hc; have Hb := Lib.hid hb1; clear hown hc hb1)
    have hpl : (0 : Int) < (C.length : Int) := by omega
    refine wp_region_held (S := fun W => W.cell? ⟨b1, o1 + 2, none⟩ = some (.int .i64 dr) ∧ W.cell? ⟨b1, o1 + 3, none⟩ = some (.int .i64 bdr)) (by kernel_rfl) ?_
    obtain ⟨wd, hwd⟩ : ∃ wd : World, ({ w1 with drawn := w1.drawn + 1 } : World) = wd := ⟨_, rfl⟩
    rw [hwd]
    have hbwd : Below w1.heap.size w1 wd := by rw [← hwd]; exact (Below.refl _ _).drew
    have hS : wd.cell? ⟨b1, o1 + 2, none⟩ = some (.int .i64 dr) ∧ wd.cell? ⟨b1, o1 + 3, none⟩ = some (.int .i64 bdr) := ⟨cellIn e2 hbwd, cellIn e3 hbwd⟩
    refine wpAnyH_take (i := 0) rfl (by kernel_rfl) (by kernel_rfl) (by kernel_rfl) (fun _ _ _ h => h) (Or.inl ⟨rfl, fun W hW => by (obtain ⟨g2, g3⟩ := (show W.cell? ⟨b1, o1 + 2, none⟩ = some (.int .i64 dr) ∧ W.cell? ⟨b1, o1 + 3, none⟩ = some (.int .i64 bdr) from hW)); go_simp; try with_reducible rfl⟩) hS ?_
    refine wpAnyH_take (i := 1) rfl (by kernel_rfl) (by kernel_rfl) (by kernel_rfl) (fun _ _ _ h => h) (Or.inl ⟨rfl, fun W hW => by (obtain ⟨g2, g3⟩ := (show W.cell? ⟨b1, o1 + 2, none⟩ = some (.int .i64 dr) ∧ W.cell? ⟨b1, o1 + 3, none⟩ = some (.int .i64 bdr) from hW)); go_simp; try with_reducible rfl⟩) hS ?_
    refine wpAnyH_take (i := 2) rfl (by kernel_rfl) (by kernel_rfl) (by kernel_rfl) (fun _ _ _ h => h) (Or.inl ⟨rfl, fun W hW => by (obtain ⟨g2, g3⟩ := (show W.cell? ⟨b1, o1 + 2, none⟩ = some (.int .i64 dr) ∧ W.cell? ⟨b1, o1 + 3, none⟩ = some (.int .i64 bdr) from hW)); go_simp; try with_reducible rfl⟩) hS ?_
    refine wpAnyH_take (i := 3) rfl (by kernel_rfl) (by kernel_rfl) (by kernel_rfl) (fun _ _ _ h => h) (Or.inl ⟨rfl, fun W hW => by (obtain ⟨g2, g3⟩ := (show W.cell? ⟨b1, o1 + 2, none⟩ = some (.int .i64 dr) ∧ W.cell? ⟨b1, o1 + 3, none⟩ = some (.int .i64 bdr) from hW)); go_simp; try with_reducible rfl⟩) hS ?_
    refine wpAnyH_take (i := 4) rfl (by kernel_rfl) (by kernel_rfl) (by kernel_rfl) (fun _ _ _ h => h) (Or.inl ⟨rfl, fun W hW => by (obtain ⟨g2, g3⟩ := (show W.cell? ⟨b1, o1 + 2, none⟩ = some (.int .i64 dr) ∧ W.cell? ⟨b1, o1 + 3, none⟩ = some (.int .i64 bdr) from hW)); go_simp; try with_reducible rfl⟩) hS ?_
    refine wpAnyH_take (i := 5) rfl (by kernel_rfl) (by kernel_rfl) (by kernel_rfl) (fun _ _ _ h => h) (Or.inl ⟨rfl, fun W hW => by (obtain ⟨g2, g3⟩ := (show W.cell? ⟨b1, o1 + 2, none⟩ = some (.int .i64 dr) ∧ W.cell? ⟨b1, o1 + 3, none⟩ = some (.int .i64 bdr) from hW)); go_simp; try with_reducible rfl⟩) hS ?_
    refine wpAnyH_take (i := 6) rfl (by kernel_rfl) (by kernel_rfl) (by kernel_rfl) (fun _ _ _ h => h) (Or.inl ⟨rfl, fun W hW => by (obtain ⟨g2, g3⟩ := (show W.cell? ⟨b1, o1 + 2, none⟩ = some (.int .i64 dr) ∧ W.cell? ⟨b1, o1 + 3, none⟩ = some (.int .i64 bdr) from hW)); go_simp; try with_reducible rfl⟩) hS ?_
    refine wpAnyH_take (i := 7) rfl (by kernel_rfl) (by kernel_rfl) (by kernel_rfl) (fun _ _ _ h => h) (Or.inl ⟨rfl, fun W hW => by (obtain ⟨g2, g3⟩ := (show W.cell? ⟨b1, o1 + 2, none⟩ = some (.int .i64 dr) ∧ W.cell? ⟨b1, o1 + 3, none⟩ = some (.int .i64 bdr) from hW)); go_simp; try with_reducible rfl⟩) hS ?_
    refine wpAnyH_take (i := 8) rfl (by kernel_rfl) (by kernel_rfl) (by kernel_rfl) (fun _ _ _ h => h) (Or.inl ⟨rfl, fun W hW => by (obtain ⟨g2, g3⟩ := (show W.cell? ⟨b1, o1 + 2, none⟩ = some (.int .i64 dr) ∧ W.cell? ⟨b1, o1 + 3, none⟩ = some (.int .i64 bdr) from hW)); go_simp; try with_reducible rfl⟩) hS ?_
    refine wpAnyH_take (i := 9) rfl (by kernel_rfl) (by kernel_rfl) (by kernel_rfl) (fun _ _ _ h => h) (Or.inl ⟨rfl, fun W hW => by (obtain ⟨g2, g3⟩ := (show W.cell? ⟨b1, o1 + 2, none⟩ = some (.int .i64 dr) ∧ W.cell? ⟨b1, o1 + 3, none⟩ = some (.int .i64 bdr) from hW)); go_simp; try with_reducible rfl⟩) hS ?_
    refine wpAnyH_done (by kernel_rfl) ?_ _
    have Hcd := Lib.hid (CandsAt.below Hca.out hbwd)
    have Hbd := Lib.hid (Hb.out.trans (hbwd.mono Hb.out.size))
    have Hsz := Lib.hid hbwd.size
    clear hwd hbwd hS e2 e3
    have Hbn := Lib.hid (And.intro (Below.refl w1.heap.size wd) Hsz.out)
    have hl0 := Hl0.out
    have hl1 := Hl1.out
    have hl2 := Hl2.out
    have hst := Hst.out
    have hx := Hx.out
    go_simp
    rcases Hcases.out with ⟨rfl, rfl, hr⟩ | ⟨rfl, rfl, hr⟩ | ⟨rfl, rfl, rfl, hr⟩ | ⟨⟨rfl, rfl⟩ | ⟨rfl, rfl, rfl⟩, ⟨t2, rfl, hr⟩ | ⟨t2 | ⟨t2, rfl⟩, ⟨rfl, hr⟩ | ⟨rfl, hr⟩⟩⟩
    all_goals
      simp only [Prod.mk.injEq] at hr
      obtain ⟨rfl, rfl, rfl⟩ := hr
      first
        | have hx' := bne_t hx
        | have hx' := bne_f hx
      try first
        | have t2' := bne_t t2
        | have t2' := bne_f t2
      go_wp2_with (first
        | (go_at_call 94; (with_reducible refine Calls.mono (leads_any _ _ _ C _ _ w1.heap.size (CandsAt.below Hcd.out Hbn.out.1) Hbn.out.2 HC1.out rfl rfl) ?_); rintro r w2 ⟨rfl, hb2⟩; have Hbn := Lib.hid (bn_step Hbn.out.1 Hbn.out.2 hb2); clear hb2)
        | (go_at_call 95; (with_reducible refine Calls.mono (stable_v (CandsAt.below Hcd.out Hbn.out.1) Hbn.out.2 Hlen2.out rfl Hst.out) ?_); rintro r w2 ⟨rfl, hb2⟩; have Hbn := Lib.hid (bn_step Hbn.out.1 Hbn.out.2 hb2); clear hb2))
      go_ret3
      refine ⟨?_, bn_end Hb.out Hsz.out Hbd.out Hbn.out.1 Hb.out.size⟩
      first
        | rfl
        | exact ret3 (eq_zero hx) rfl
        | exact ret3 rfl (eq_zero t2)
        | exact ret3 (eq_zero hx) (eq_zero t2)

set_option maxHeartbeats 1000000 in
set_option maxRecDepth 100000 in
/-- audit.Agreed: of any states -/
theorem agreed_any (lan : Int) (n : Nat) (A : Option Addr) (cap : Nat) (l : List Stt) (w : World) (B : Nat) (hl : StatesAt w B A l) (hB : B ≤ w.heap.size) (hlen : l.length ≤ maxLen) (hn : n = l.length) {r1 r2 : Int} {r3 : Bool} (hr : agreedC (candsOf (countedL l) lan) = (r1, r2, r3)) :
    Calls Tryz.prog 26 #[.int .i64 lan, .slice A n cap] w fun r w' => r = .returned (.tuple #[.int .i64 r1, .int .i64 r2, .bool r3]) ∧ Below w.heap.size w w' := by
  subst hn
  obtain ⟨b, o, htb, hlb⟩ := tbl_some hl
  have Hcnt := Lib.hid (counted_any A cap l w B hl.rows hB hlen)
  have Hlb := Lib.hid (hlb.more hB)
  have Htb := Lib.hid htb
  have Hr := Lib.hid hr
  clear hl hlb htb hr hB
  go_enter Tryz.func26, Tryz.ntmps26
  go_wp2_with (first
    | (go_at_call 33; (with_reducible refine Calls.mono Hcnt.out ?_); rintro r w1 ⟨rfl, hT, hb1⟩; rw [Htb.out] at hT; have HT := Lib.hid hT; have Hb1 := Lib.hid hb1; clear hT hb1)
    | (go_at_call 52; (with_reducible refine Calls.mono (agreedS_any w.heap.size b o lan l _ HT.out ((Hlb.out.below Hb1.out).more Hb1.out.size) Hr.out) ?_); rintro r w2 ⟨rfl, hb2⟩; have Hb2 := Lib.hid (Hb1.out.trans (hb2.mono Hb1.out.size)); clear hb2))
  go_ret3
  exact ⟨rfl, Hb2.out⟩

end Go.Proofs.YtpnbibokddhheaaGreat

/-
  Layer 27: the example.
-/
namespace Go.Proofs.YtpnbibokddhheaaGreat
open Go.RowKit

def vW (st dr : Int) : Viw := ⟨2, 0, 3, 1, st, dr, 0, none, 0, [], none, 0, []⟩
def sW (g : Nat) (st dr : Int) : Stt := ⟨3, some ⟨g, 0, none⟩, 1, [vW st dr], none, 0, [], none, 0, 0⟩
theorem cands_w1 (g : Nat) : candsOf (countedL [sW g 4 3]) 2 = [⟨3, 1, 3, 0⟩] := rfl
theorem cands_w2 (g : Nat) : candsOf (countedL [sW g 1 0]) 2 = [⟨3, 1, 0, 0⟩] := rfl
theorem agreed_w1 : agreedC [⟨3, 1, 3, 0⟩] = (3, 0, true) := by decide +kernel
theorem agreed_w2 : agreedC [⟨3, 1, 0, 0⟩] = (0, 0, false) := by decide +kernel
theorem states_w {W : World} {g1 g2 : Nat} {st dr : Int} (h1 : Blk W g1 82 #[.int .i64 2, .int .i64 0, .int .i64 3, .int .i64 1, .int .i64 st, .int .i64 dr, .int .i64 0, .slice none 0 0, .slice none 0 0]) (h2 : Blk W g2 37 #[.int .i64 3, .slice (some ⟨g1, 0, none⟩) 1 1, .slice none 0 0, .slice none 0 0]) :
    StatesAt W W.heap.size (some ⟨g2, 0, none⟩) [sW g1 st dr] := by
  refine ⟨fun _ => ⟨g2, 0, rfl, h2.lt, fun k hk i u _ hu => ?_⟩, fun s hs => ?_⟩
  · have hk0 : k = 0 := by simpa using hk
    subst hk0
    rw [show 0 + 0 * 4 + i = i by omega, h2.cell i, ← hu]
    simp [sW, Stt.cells]
  · rw [List.mem_singleton] at hs
    subst hs
    refine ⟨⟨fun _ => ⟨g1, 0, rfl, h1.lt, fun k hk i u _ hu => ?_⟩, fun v hv => ?_⟩, ⟨RowsAt.nil, by simp [sW]⟩, by simp [sW, maxLen], by simp [sW, maxLen], by simp [sW, maxLen]⟩
    · have hk0 : k = 0 := by simpa [sW] using hk
      subst hk0
      rw [show 0 + 0 * 9 + i = i by omega, h1.cell i, ← hu]
      simp [sW, vW, Viw.cells]
    · have hv' : v = vW st dr := by simpa [sW] using hv
      subst hv'
      exact ⟨RowsAt.nil, RowsAt.nil, by simp [vW, maxLen], by simp [vW, maxLen]⟩

theorem wake_call (w0 : World) (st dr : Int) {g1 g2 : Nat} (e1 : g1 = w0.heap.size) (e2 : g2 = w0.heap.size + 1) {r1 r2 : Int} {r3 : Bool} (hr : agreedC (candsOf (countedL [sW g1 st dr]) 2) = (r1, r2, r3)) :
    Calls Tryz.prog 26 #[.int .i64 2, .slice (some ⟨g2, 0, none⟩) 1 1] ((w0.alloc (.cells #[.int .i64 2, .int .i64 0, .int .i64 3, .int .i64 1, .int .i64 st, .int .i64 dr, .int .i64 0, .slice none 0 0, .slice none 0 0] 82)).alloc (.cells #[.int .i64 3, .slice (some ⟨g1, 0, none⟩) 1 1, .slice none 0 0, .slice none 0 0] 37))
      fun r w' => r = .returned (.tuple #[.int .i64 r1, .int .i64 r2, .bool r3]) ∧ Below w0.heap.size w0 w' := by
  subst e1 e2
  have h1 := (Blk.new w0 82 #[.int .i64 2, .int .i64 0, .int .i64 3, .int .i64 1, .int .i64 st, .int .i64 dr, .int .i64 0, .slice none 0 0, .slice none 0 0]).alloc (.cells #[.int .i64 3, .slice (some ⟨w0.heap.size, 0, none⟩) 1 1, .slice none 0 0, .slice none 0 0] 37)
  have h2 := Blk.new (w0.alloc (.cells #[.int .i64 2, .int .i64 0, .int .i64 3, .int .i64 1, .int .i64 st, .int .i64 dr, .int .i64 0, .slice none 0 0, .slice none 0 0] 82)) 37 #[.int .i64 3, .slice (some ⟨w0.heap.size, 0, none⟩) 1 1, .slice none 0 0, .slice none 0 0]
  rw [show (w0.alloc (.cells #[.int .i64 2, .int .i64 0, .int .i64 3, .int .i64 1, .int .i64 st, .int .i64 dr, .int .i64 0, .slice none 0 0, .slice none 0 0] 82)).heap.size = w0.heap.size + 1 by simp] at h2
  refine (agreed_any 2 1 _ 1 [sW w0.heap.size st dr] _ _ (states_w h1 h2) (Nat.le_refl _) (by simp [maxLen]) rfl hr).mono fun r w' ⟨e, hb⟩ => ⟨e, ?_⟩
  exact (((Below.refl _ _).alloc (Nat.le_refl _) _).alloc (by simp) _).trans (hb.mono (by simp; omega))

set_option maxHeartbeats 2000000 in
set_option maxRecDepth 100000 in
theorem wakes27 (w : World) : Calls Tryz.prog 6 #[] w fun r w' => r = .returned (.bool true) ∧ Below w.heap.size w w' := by
  have hr1 : agreedC (candsOf (countedL [sW (w.heap.size + 1) 4 3]) 2) = (3, 0, true) := by rw [cands_w1]; exact agreed_w1
  have Hr1 := Lib.hid hr1
  have Hr2 := Lib.hid (fun g => show agreedC (candsOf (countedL [sW g 1 0]) 2) = (0, 0, false) by rw [cands_w2]; exact agreed_w2)
  clear hr1
  go_enter Tryz.func6, Tryz.ntmps6
  go_wp2_with (first
    | (go_at_call 26; (with_reducible refine Calls.mono (wake_call (w.alloc (.cells #[.int .i64 3, .int .i64 1, .int .i64 4, .int .i64 3, .int .i64 0] 76)) 4 3 (g1 := w.heap.size + 1) (g2 := w.heap.size + 1 + 1) (by simp) (by simp) Hr1.out) ?_); rintro r w1 ⟨rfl, hb1⟩; have hi1 := (Blk.new w 76 #[.int .i64 3, .int .i64 1, .int .i64 4, .int .i64 3, .int .i64 0]).below hb1 (by simp); have hbw := ((Below.refl w.heap.size w).alloc (Nat.le_refl _) (.cells #[.int .i64 3, .int .i64 1, .int .i64 4, .int .i64 3, .int .i64 0] 76)).trans (hb1.mono (by simp)); obtain ⟨w2, hW2, hi2, hb2⟩ : ∃ w2, (w1.setCell ⟨w.heap.size, 2, none⟩ (.int .i64 1)).setCell ⟨w.heap.size, 3, none⟩ (.int .i64 0) = w2 ∧ Blk w2 w.heap.size 76 #[.int .i64 3, .int .i64 1, .int .i64 1, .int .i64 0, .int .i64 0] ∧ Below w.heap.size w w2 := ⟨_, rfl, (by simpa using (hi1.set_ 2 (.int .i64 1)).set_ 3 (.int .i64 0)), (hbw.setCell (Nat.le_refl _) _).setCell (Nat.le_refl _) _⟩; obtain ⟨x0, x1, x2, x3, x4, f0, f1, f2, f3, f4⟩ := Blk.cells5 hi1; obtain ⟨y0, y1, y2, y3, y4, -⟩ := Blk.cells5 hi2; have Hb2 := Lib.hid hb2; clear hi1 hi2 hb1 hbw hb2)
    | (go_at_call 26; (with_reducible refine Calls.mono (wake_call w2 1 0 (g1 := w2.heap.size) (g2 := w2.heap.size + 1) rfl rfl (Hr2.out _)) ?_); rintro r w3 ⟨rfl, hb3⟩; have Hb3 := Lib.hid (Hb2.out.trans (hb3.mono Hb2.out.size)); clear hb3))
  go_ret
  exact ⟨rfl, Hb3.out⟩

end Go.Proofs.YtpnbibokddhheaaGreat

/-
  More than a statement takes: each law's own word.
-/
namespace Go.Proofs.YtpnbibokddhheaaGreat
open Go.RowKit

def bigX (x : Lsa) : Bool := decide (20 < x.links.length) || decide (20 < x.members.length)
def manyB (k : Nat) (l : List Lsa) : Bool := l.any bigX || decide (k < l.length)
theorem manyB_lens {k : Nat} {l : List Lsa} (h : manyB k l = false) : l.length ≤ k ∧ ∀ x ∈ l, x.links.length ≤ 20 ∧ x.members.length ≤ 20 := by
  unfold manyB at h
  rw [Bool.or_eq_false_iff] at h
  refine ⟨by have := of_decide_eq_false h.2; omega, fun x hx => ?_⟩
  have := List.any_eq_false.1 h.1 x hx
  unfold bigX at this
  simp at this
  omega
theorem row_lsa9 {w : World} {B : Nat} {A : Option Addr} {l : List Lsa} (h : RowsAt 9 Lsa.cells w B A l) (k : Nat) (hk : k < l.length) :
    ∃ b o, A = some ⟨b, o, none⟩ ∧ b < B ∧ w.cell? ⟨b, o + k * 9, none⟩ = some (.int .i64 l[k].head.age) ∧ w.cell? ⟨b, o + k * 9 + 1, none⟩ = some (.int .i64 l[k].head.kind) ∧ w.cell? ⟨b, o + k * 9 + 2, none⟩ = some (.int .i64 l[k].head.id) ∧ w.cell? ⟨b, o + k * 9 + 3, none⟩ = some (.int .i64 l[k].head.adv) ∧ w.cell? ⟨b, o + k * 9 + 4, none⟩ = some (.int .i64 l[k].head.seq) ∧ w.cell? ⟨b, o + k * 9 + 5, none⟩ = some (.int .i64 l[k].head.sum) ∧ w.cell? ⟨b, o + k * 9 + 6, none⟩ = some (.int .i64 l[k].head.long) ∧
      w.cell? ⟨b, o + k * 9 + 7, none⟩ = some (.slice l[k].ka l[k].links.length l[k].kcap) ∧ w.cell? ⟨b, o + k * 9 + 8, none⟩ = some (.slice l[k].ma l[k].members.length l[k].mcap) := by
  obtain ⟨b, o, e, hb, hc⟩ := h (by omega)
  exact ⟨b, o, e, hb, by simpa using hc k hk 0 _ (by omega) rfl, hc k hk 1 _ (by omega) rfl, hc k hk 2 _ (by omega) rfl, hc k hk 3 _ (by omega) rfl, hc k hk 4 _ (by omega) rfl, hc k hk 5 _ (by omega) rfl, hc k hk 6 _ (by omega) rfl, hc k hk 7 _ (by omega) rfl, hc k hk 8 _ (by omega) rfl⟩
set_option maxHeartbeats 2000000 in
set_option maxRecDepth 100000 in
theorem many13 (A : Option Addr) (c : Nat) (l : List Lsa) (w : World) (B : Nat) (h : RowsAt 9 Lsa.cells w B A l) (hB : B ≤ w.heap.size) (hm : l.length ≤ maxLen) (n : Nat) (hn : n = l.length) {t : Bool} (ht : manyB 60 l = t) :
    Calls Tryz.prog 11 #[.slice A n c] w fun r w' => r = .returned (.bool t) ∧ Below w.heap.size w w' := by
  subst hn
  unfold maxLen at hm
  have H := Lib.hid (h.more hB)
  have Ht := Lib.hid ht
  clear h hB ht
  go_enter Tryz.func11, Tryz.ntmps11
  go_wp2
  go_loopw [7] (fun i wr => ∃ k : Nat, i = .int .i64 k ∧ k ≤ l.length ∧ (l.take k).any bigX = false ∧ Below w.heap.size w wr) (fun i _ => l.length - (intOf i).toNat)
  case atStart => exact ⟨0, rfl, Nat.zero_le _, rfl, Below.refl _ _⟩
  case round =>
    obtain ⟨k, rfl, hk, hany, hb⟩ := hrel
    by_cases hlt : k < l.length
    · obtain ⟨g, o, rfl, -, x0, x1, x2, x3, x4, x5, x6, x7, x8⟩ := row_lsa9 (H.out.below hb) k hlt
      have hkl : (k : Int) < (l.length : Int) := by omega
      have hsucc := List.take_succ_eq_append_getElem hlt
      have hmem := List.getElem_mem hlt
      obtain ⟨x, hx⟩ : ∃ x, l[k] = x := ⟨_, rfl⟩
      rw [hx] at x0 x1 x2 x3 x4 x5 x6 x7 x8 hsucc hmem
      obtain ⟨⟨y1, y2, y3, y4, y5, y6, y7⟩, ka, kc, ls, ma, mc, ms⟩ := x
      simp only at x0 x1 x2 x3 x4 x5 x6 x7 x8
      obtain ⟨nl, hnl⟩ : ∃ nl, ls.length = nl := ⟨_, rfl⟩
      obtain ⟨nm, hnm⟩ : ∃ nm, ms.length = nm := ⟨_, rfl⟩
      rw [hnl] at x7
      rw [hnm] at x8
      have Hb := Lib.hid hb
      have Hal := Lib.hid (fun o => hb.alloc hb.size o)
      by_cases h1 : bigX ⟨⟨y1, y2, y3, y4, y5, y6, y7⟩, ka, kc, ls, ma, mc, ms⟩ = true
      · have ht2 : t = true := by
          rw [← Ht.out]
          unfold manyB
          rw [List.any_eq_true.2 ⟨_, hmem, h1⟩]
          rfl
        have h2 : (20 : Int) < (nl : Int) ∨ (¬ (20 : Int) < (nl : Int) ∧ (20 : Int) < (nm : Int)) := by
          unfold bigX at h1
          simp only [Bool.or_eq_true, decide_eq_true_eq, hnl, hnm] at h1
          omega
        subst ht2
        clear h1 hb hany hx hsucc hmem hnl hnm
        rcases h2 with h2 | ⟨h2, h3⟩
        all_goals
          go_wp2
          go_ret
          exact ⟨rfl, Hal.out _⟩
      · have h2 : ¬ (20 : Int) < (nl : Int) ∧ ¬ (20 : Int) < (nm : Int) := by
          unfold bigX at h1
          simp only [Bool.or_eq_true, decide_eq_true_eq, hnl, hnm] at h1
          omega
        have Hany := Lib.hid (show (l.take (k + 1)).any bigX = false by rw [hsucc, List.any_append, hany]; simpa using h1)
        obtain ⟨h2, h3⟩ := h2
        clear h1 hb hany hx hsucc hmem hnl hnm
        go_wp2
        go_roundw
        case measure => simp [intOf]; omega
        case rel => exact ⟨k + 1, by go_num, hlt, Hany.out, Hal.out _⟩
    · have hkk : k = l.length := by omega
      subst hkk
      rw [List.take_length] at hany
      have ht2 : decide ((60 : Int) < (l.length : Int)) = t := by
        rw [← Ht.out]
        unfold manyB
        rw [hany, Bool.false_or, Bool.eq_iff_iff, decide_eq_true_eq, decide_eq_true_eq]
        omega
      have Ht2 := Lib.hid ht2
      have Hb := Lib.hid hb
      clear hb hany ht2
      go_wp2
      go_ret
      refine ⟨?_, Hb.out⟩
      rw [← Ht2.out]
      rfl

end Go.Proofs.YtpnbibokddhheaaGreat
