/-
  cmp.Compare and cmp.Or at ints, in plain words and walked.
-/
import Derived.Sort.Grow
import Derived.Laws.StructEq
import Derived.RegionTactic
import Derived.Test.YtfpjkeddcagfcaaBaa
import Derived.Test.YtfpjkeddcagfcaaBab
namespace Go.Proofs.Ytfpjkeddcagfcaa
open Go.RowKit Go.Sort

def cmpI (a b : Int) : Int := if a < b then -1 else if b < a then 1 else 0
theorem cmpI_cases (a b : Int) : (a < b ∧ cmpI a b = -1) ∨ (¬a < b ∧ b < a ∧ cmpI a b = 1) ∨ (¬a < b ∧ ¬b < a ∧ cmpI a b = 0) := by
  unfold cmpI
  by_cases h1 : a < b
  · exact .inl ⟨h1, by simp [h1]⟩
  · by_cases h2 : b < a
    · exact .inr (.inl ⟨h1, h2, by simp [h1, h2]⟩)
    · exact .inr (.inr ⟨h1, h2, by simp [h1, h2]⟩)
set_option maxHeartbeats 400000 in
theorem isNaN_any (a : Int) (w : World) : Calls Try.prog 48 #[.int .i64 a] w fun r w' => r = .returned (.bool false) ∧ Below w.heap.size w w' := by
  go_enter Try.func48, Try.ntmps48
  go_wp2
  go_ret
  exact ⟨by simp, Below.refl _ _⟩
set_option maxHeartbeats 1000000 in
theorem cmp_any (a b : Int) (w : World) : Calls Try.prog 45 #[.int .i64 a, .int .i64 b] w fun r w' => r = .returned (.int .i64 (cmpI a b)) ∧ Below w.heap.size w w' := by
  rcases cmpI_cases a b with ⟨h1, e⟩ | ⟨h1, h2, e⟩ | ⟨h1, h2, e⟩
  all_goals
    rw [e]
    clear e
    go_enter Try.func45, Try.ntmps45
    go_wp2_with (first
      | (have _ := Hb1.out; go_at_call 48; (with_reducible refine Calls.mono (isNaN_any _ _) ?_); rintro r w2 ⟨rfl, hb2⟩; have Hb2 := Lib.hid (Hb1.out.trans (hb2.mono Hb1.out.size)); clear hb2)
      | (go_at_call 48; (with_reducible refine Calls.mono (isNaN_any _ _) ?_); rintro r w1 ⟨rfl, hb1⟩; have Hb1 := Lib.hid hb1; clear hb1))
    go_ret
    exact ⟨rfl, Hb2.out⟩
def orL : List Int → Int
  | [] => 0
  | x :: l => if x = 0 then orL l else x
theorem orL_at : ∀ (l : List Int) (k : Nat) (hk : k < l.length), (∀ j, (hj : j < k) → l[j] = 0) → l[k] ≠ 0 → orL l = l[k]
  | x :: l, 0, _, _, h => by
    simp only [List.getElem_cons_zero] at h ⊢
    simp only [orL, if_neg h]
  | x :: l, k + 1, hk, h0, h => by
    have hx : x = 0 := h0 0 (by omega)
    simp only [orL, hx, if_true]
    exact orL_at l k (by simpa using hk) (fun j hj => h0 (j + 1) (by omega)) h
theorem orL_zero : ∀ (l : List Int), (∀ j, (hj : j < l.length) → l[j] = 0) → orL l = 0
  | [], _ => rfl
  | x :: l, h => by
    have hx : x = 0 := h 0 (by simp)
    simp only [orL, hx, if_true]
    exact orL_zero l (fun j hj => h (j + 1) (by simpa using hj))
set_option maxHeartbeats 1000000 in
theorem or_any (l : List Int) (hlen : l.length ≤ 1000) (g cap : Nat) (w : World) (hl : ∀ k, (hk : k < l.length) → w.cell? ⟨g, k, none⟩ = some (.int .i64 l[k])) (hg : g < w.heap.size) (n : Nat) (hn : n = l.length) {x : Int} (hx : orL l = x) :
    Calls Try.prog 44 #[.slice (some ⟨g, 0, none⟩) n cap] w fun r w' => r = .returned (.int .i64 x) ∧ Below w.heap.size w w' := by
  subst hn
  have Hl := Lib.hid hl
  have Hx := Lib.hid hx
  clear hl hx
  go_enter Try.func44, Try.ntmps44
  go_wp2
  go_loopw [8] (fun i wr => ∃ k : Nat, k ≤ l.length ∧ i = .int .i64 k ∧ (∀ j, (hj : j < k) → (hjl : j < l.length) → l[j] = 0) ∧ Below w.heap.size w wr) (fun i _ => l.length - (intOf i).toNat)
  case atStart => exact ⟨0, Nat.zero_le _, rfl, fun j hj => absurd hj (by omega), Below.refl _ _⟩
  case round =>
    obtain ⟨k, hk, rfl, h0, hb⟩ := hrel
    have H0 := Lib.hid h0
    have Hb := Lib.hid hb
    by_cases hlt : k < l.length
    · have e0 : wr.cell? ⟨g, k, none⟩ = some (.int .i64 l[k]) := (hb.cell hg).trans (Hl.out k hlt)
      have hat := fun h => orL_at l k hlt (fun j hj => h0 j hj (by omega)) h
      clear h0 hb
      by_cases hz : l[k] = 0
      · have Hz := Lib.hid hz
        rw [hz] at e0
        clear hz hat
        go_wp2
        go_roundw
        case measure => simp [intOf]; omega
        case rel =>
          refine ⟨k + 1, hlt, by go_num, fun j hj hjl => ?_, Hb.out⟩
          by_cases hjk : j = k
          · subst hjk; exact Hz.out
          · exact H0.out j (by omega) hjl
      · have hat := hat hz
        rw [Hx.out] at hat
        rw [← hat] at e0 hz
        have hz' : (x != 0) = true := by simpa using hz
        clear hat hz
        go_wp2
        go_ret
        exact ⟨rfl, Hb.out⟩
    · have : k = l.length := by omega
      subst this
      have hz : x = 0 := by rw [← Hx.out]; exact orL_zero l (fun j hj => h0 j hj hj)
      subst hz
      clear h0 hb
      go_wp2
      go_ret
      exact ⟨rfl, Hb.out⟩

end Go.Proofs.Ytfpjkeddcagfcaa

/-
  cmp.Compare and cmp.Or at ints: they leave the world as it is.
-/
namespace Go.Proofs.Ytfpjkeddcagfcaa
open Go.RowKit Go.Sort

set_option maxHeartbeats 400000 in
theorem isNaN_s (a : Int) (w : World) : Calls Try.prog 48 #[.int .i64 a] w fun r w' => r = .returned (.bool false) ∧ w = w' := by
  go_enter Try.func48, Try.ntmps48
  go_wp2
  go_ret
  exact ⟨by simp, rfl⟩
set_option maxHeartbeats 1000000 in
theorem cmp_s (a b : Int) (w : World) : Calls Try.prog 45 #[.int .i64 a, .int .i64 b] w fun r w' => r = .returned (.int .i64 (cmpI a b)) ∧ w = w' := by
  rcases cmpI_cases a b with ⟨h1, e⟩ | ⟨h1, h2, e⟩ | ⟨h1, h2, e⟩
  all_goals
    rw [e]
    clear e
    go_enter Try.func45, Try.ntmps45
    go_wp2_with (go_at_call 48; (with_reducible refine Calls.mono (isNaN_s _ _) ?_); rintro r w2 ⟨rfl, rfl⟩)
    go_ret
    exact ⟨rfl, rfl⟩
set_option maxHeartbeats 1000000 in
theorem or_s (l : List Int) (hlen : l.length ≤ 1000) (g cap : Nat) (w : World) (hl : ∀ k, (hk : k < l.length) → w.cell? ⟨g, k, none⟩ = some (.int .i64 l[k])) (n : Nat) (hn : n = l.length) {x : Int} (hx : orL l = x) :
    Calls Try.prog 44 #[.slice (some ⟨g, 0, none⟩) n cap] w fun r w' => r = .returned (.int .i64 x) ∧ w = w' := by
  subst hn
  have Hl := Lib.hid hl
  have Hx := Lib.hid hx
  clear hl hx
  go_enter Try.func44, Try.ntmps44
  go_wp2
  go_loop [8] (fun i => ∃ k : Nat, k ≤ l.length ∧ i = .int .i64 k ∧ (∀ j, (hj : j < k) → (hjl : j < l.length) → l[j] = 0)) (fun i => l.length - (intOf i).toNat)
  case atStart => exact ⟨0, Nat.zero_le _, rfl, fun j hj => absurd hj (by omega)⟩
  case round =>
    obtain ⟨k, hk, rfl, h0⟩ := hrel
    have H0 := Lib.hid h0
    by_cases hlt : k < l.length
    · have e0 : w.cell? ⟨g, k, none⟩ = some (.int .i64 l[k]) := Hl.out k hlt
      have hat := fun h => orL_at l k hlt (fun j hj => h0 j hj (by omega)) h
      clear h0
      by_cases hz : l[k] = 0
      · have Hz := Lib.hid hz
        rw [hz] at e0
        clear hz hat
        go_wp2
        go_round
        case measure => simp [intOf]; omega
        case rel =>
          refine ⟨k + 1, hlt, by go_num, fun j hj hjl => ?_⟩
          by_cases hjk : j = k
          · subst hjk; exact Hz.out
          · exact H0.out j (by omega) hjl
      · have hat := hat hz
        rw [Hx.out] at hat
        rw [← hat] at e0 hz
        have hz' : (x != 0) = true := by simpa using hz
        clear hat hz
        go_wp2
        go_ret
        exact ⟨rfl, rfl⟩
    · have : k = l.length := by omega
      subst this
      have hz : x = 0 := by rw [← Hx.out]; exact orL_zero l (fun j hj => h0 j hj hj)
      subst hz
      clear h0
      go_wp2
      go_ret
      exact ⟨rfl, rfl⟩

end Go.Proofs.Ytfpjkeddcagfcaa

/-
  A region that draws its order: operations that only read, or call what only reads, and behind them a forced tail: one walk, in a world that is the first one but for draws.
-/
namespace Go.Proofs.Ytfpjkeddcagfcaa
open Go.RowKit Go.Sort

theorem wp_drew_tail {P : Program} {id : Nat} {Q : Exit → Act → World → Prop} {a : Act} {w : World} {l : List Oper} (n : Nat) (hm : P.follows .mixedOrders = true) (hB : Region.lexTailB .any l.toArray n = true)
    (h : wpQuiet P l.toArray (fun w' => ∃ q, w' = w.drewN q) (fun a' => ∀ w', (∃ q, w' = w.drewN q) → wpList P l.toArray Q (l.drop n) a' w') (l.take n) a) : (Code.region id l.toArray true).wp P Q a w :=
  wp_quiet_tail (C := fun w' => ∃ q, w' = w.drewN q) n hm hB ⟨1, rfl⟩ h
/-- a function that is there is entered -/
theorem callOf {P : Program} {f : FuncId} {fn : Func} (h : P.funcs[f]? = some fn) (hb : fn.body.isNone = false) (hn : (fn.name == "runtime.NumGoroutine") = false) (xs : Array Value) (w : World) :
    (callFunc f xs).run P w = .ok (.enter f xs) w := by
  have hn' : fn.name ≠ "runtime.NumGoroutine" := by simpa using hn
  have hb' : fn.body ≠ none := by intro e; rw [e] at hb; cases hb
  simp [callFunc, go_sem, h, hb', hn']
theorem lit3 (w : World) (x0 x1 x2 : Int) (t : TypeId) : ∀ k, (hk : k < [x0, x1, x2].length) → (w.alloc (.cells #[.int .i64 x0, .int .i64 x1, .int .i64 x2] t)).cell? ⟨w.heap.size, k, none⟩ = some (.int .i64 [x0, x1, x2][k]) := by
  intro k hk
  rw [(Blk.new w t _).cell k]
  match k, hk with
  | 0, _ => rfl
  | 1, _ => rfl
  | 2, _ => rfl
theorem or3_s (a b c : Int) (W : World) : Calls Try.prog 44 #[.slice (some ⟨W.heap.size, 0, none⟩) 3 3] (W.alloc (.cells #[.int .i64 a, .int .i64 b, .int .i64 c] 3)) fun r w' => r = .returned (.int .i64 (orL [a, b, c])) ∧ W.alloc (.cells #[.int .i64 a, .int .i64 b, .int .i64 c] 3) = w' :=
  or_s [a, b, c] (by simp) W.heap.size 3 _ (lit3 _ _ _ _ _) 3 (by simp) rfl
theorem cmp_q (a b : Int) (W : World) (n : Nat) : Calls Try.prog 45 #[.int .i64 a, .int .i64 b] (W.drewN n) fun r w' => r = .returned (.int .i64 (cmpI a b)) ∧ ∃ q, w' = W.drewN q :=
  (cmp_s a b _).mono fun _ _ ⟨h1, h2⟩ => ⟨h1, n, h2.symm⟩

def cmp3 (a1 a2 a3 b1 b2 b3 : Int) : Int := orL [cmpI a1 b1, cmpI a2 b2, cmpI a3 b3]
/-- less by three numbers, the first one first -/
def less3 (a1 a2 a3 b1 b2 b3 : Int) : Bool := decide (a1 < b1) || (a1 == b1) && (decide (a2 < b2) || (a2 == b2) && decide (a3 < b3))
theorem cmp3_less (a1 a2 a3 b1 b2 b3 : Int) : decide (cmp3 a1 a2 a3 b1 b2 b3 < 0) = less3 a1 a2 a3 b1 b2 b3 := by
  unfold cmp3 less3
  rcases cmpI_cases a1 b1 with ⟨h, e⟩ | ⟨h, h', e⟩ | ⟨h, h', e⟩ <;> rw [e] <;> rcases cmpI_cases a2 b2 with ⟨g, e2⟩ | ⟨g, g', e2⟩ | ⟨g, g', e2⟩ <;> rw [e2] <;> rcases cmpI_cases a3 b3 with ⟨k, e3⟩ | ⟨k, k', e3⟩ | ⟨k, k', e3⟩ <;> rw [e3] <;> simp [orL] <;> omega

end Go.Proofs.Ytfpjkeddcagfcaa

/-
  Worlds that are a first one but for draws and new blocks: regions that draw their order walk in that class.
-/
namespace Go.Proofs.Ytfpjkeddcagfcaa
open Go.RowKit Go.Sort

structure GD where
  q : Nat
  os : Array Obj
instance : Nonempty GD := ⟨⟨0, #[]⟩⟩
theorem gd_gd (w : World) (q q' : Nat) (os os' : Array Obj) : grow ((grow (w.drewN q) os).drewN q') os' = grow (w.drewN (q + q')) (os ++ os') := by
  simp [grow, World.drewN, Nat.add_assoc]
theorem gd_drew (w : World) (q : Nat) (os : Array Obj) : (grow (w.drewN q) os).drew = grow (w.drewN (q + 1)) os := rfl
theorem gd_alloc (w : World) (q : Nat) (os : Array Obj) (o : Obj) : (grow (w.drewN q) os).alloc o = grow (w.drewN q) (os.push o) := by
  rw [alloc_eq_grow, grow_grow]; rfl
theorem gd_zero (w : World) : w = grow (w.drewN 0) #[] := by simp [World.drewN]
theorem cell_gd {w : World} {p : Addr} {v : Value} (h : w.cell? p = some v) : ∀ q os, (grow (w.drewN q) os).cell? p = some v := fun q os => by
  have hb := World.block_lt_of_cell? w _ h
  rw [cell?_grow (w.drewN q) os p (by exact hb)]
  exact h
theorem below_gd (w : World) (q : Nat) (os : Array Obj) : Below w.heap.size w (grow (w.drewN q) os) :=
  ⟨rfl, rfl, rfl, by simp [grow, World.drewN], fun k hk => by rw [heap_grow_old _ _ (by exact hk)]; rfl⟩
/-- A contract whose world is known but for draws and new blocks, from any world of the class. -/
theorem gd_of {f : FuncId} {args : Array Value} {w : World} {q : Nat} {os : Array Obj} {R : Ending → Prop} (h : Calls Try.prog f args (grow (w.drewN q) os) fun r w' => R r ∧ ∃ q' os', w' = grow ((grow (w.drewN q) os).drewN q') os') :
    Calls Try.prog f args (grow (w.drewN q) os) fun r w' => R r ∧ ∃ p : GD, w' = grow (w.drewN p.q) p.os :=
  h.mono fun r w' ⟨h1, q', os', h2⟩ => ⟨h1, ⟨q + q', os ++ os'⟩, by rw [h2, gd_gd]⟩
theorem wp_gd_tail {P : Program} {id : Nat} {Q : Exit → Act → World → Prop} {a : Act} {w : World} {l : List Oper} (n : Nat) (hm : P.follows .mixedOrders = true) (hB : Region.lexTailB .any l.toArray n = true)
    (h : wpQuiet P l.toArray (fun w' => ∃ p : GD, w' = grow (w.drewN p.q) p.os) (fun a' => ∀ w', (∃ p : GD, w' = grow (w.drewN p.q) p.os) → wpList P l.toArray Q (l.drop n) a' w') (l.take n) a) : (Code.region id l.toArray true).wp P Q a w :=
  wp_quiet_tail (C := fun w' => ∃ p : GD, w' = grow (w.drewN p.q) p.os) n hm hB ⟨⟨1, #[]⟩, by rw [grow_empty]; rfl⟩ h

end Go.Proofs.Ytfpjkeddcagfcaa

/-
  Keys in order, in plain words.
-/
namespace Go.Proofs.Ytfpjkeddcagfcaa

def cmpK (a b : K3) : Int := cmp3 a.kind a.id a.adv b.kind b.id b.adv
def lessK (a b : K3) : Bool := less3 a.kind a.id a.adv b.kind b.id b.adv
theorem cmpK_less (a b : K3) : decide (cmpK a b < 0) = lessK a b := cmp3_less _ _ _ _ _ _
def sortK (L : List K3) : List K3 := L.mergeSort fun x y => !lessK y x
theorem lessK_iff (a b : K3) : lessK a b = true ↔ a.kind < b.kind ∨ (a.kind = b.kind ∧ (a.id < b.id ∨ (a.id = b.id ∧ a.adv < b.adv))) := by
  simp [lessK, less3]
theorem lessK_irr (a : K3) : lessK a a = false := by
  rw [Bool.eq_false_iff]; intro h; rw [lessK_iff] at h; omega
theorem lessK_tot {a b : K3} (h1 : lessK a b = false) (h2 : lessK b a = false) : a = b := by
  rw [Bool.eq_false_iff, ne_eq, lessK_iff] at h1 h2
  obtain ⟨a1, a2, a3⟩ := a
  obtain ⟨b1, b2, b3⟩ := b
  simp only at h1 h2
  simp only [K3.mk.injEq]
  omega
theorem lessK_trans {a b c : K3} (h1 : lessK a b = true) (h2 : lessK b c = true) : lessK a c = true := by
  rw [lessK_iff] at *; omega
theorem lessK_ntrans {a b c : K3} (h1 : lessK a b = false) (h2 : lessK b c = false) : lessK a c = false := by
  rw [Bool.eq_false_iff, ne_eq, lessK_iff] at *; omega
theorem sortK_perm (L : List K3) : (sortK L).Perm L := List.mergeSort_perm _ _
theorem sortK_len (L : List K3) : (sortK L).length = L.length := (sortK_perm L).length_eq
theorem sortK_sorted (L : List K3) : (sortK L).Pairwise fun x y => lessK y x = false := by
  have := List.pairwise_mergeSort (le := fun x y => !lessK y x) (fun a b c h1 h2 => by
    simp only [Bool.not_eq_true'] at *
    exact lessK_ntrans h2 h1) (fun a b => by
    cases h : lessK b a
    · simp
    · cases h' : lessK a b
      · simp
      · exact absurd (lessK_trans h h') (by rw [lessK_irr]; simp)) L
  exact this.imp fun {a b} h => by simpa using h
/-- two lists of the same keys, both in order, are one -/
theorem sorted_one : ∀ {L M : List K3}, L.Perm M → (L.Pairwise fun x y => lessK y x = false) → (M.Pairwise fun x y => lessK y x = false) → L = M
  | [], M, hp, _, _ => by simpa using hp.symm.eq_nil
  | x :: L, [], hp, _, _ => by simpa using hp.eq_nil
  | x :: L, y :: M, hp, h1, h2 => by
    rw [List.pairwise_cons] at h1 h2
    have hxy : x = y := by
      have hx : x ∈ y :: M := hp.subset (by simp)
      have hy : y ∈ x :: L := hp.symm.subset (by simp)
      rcases List.mem_cons.1 hx with e | hx
      · exact e
      · rcases List.mem_cons.1 hy with e | hy
        · exact e.symm
        · exact lessK_tot (h2.1 x hx) (h1.1 y hy)
    subst hxy
    rw [sorted_one (List.Perm.cons_inv hp) h1.2 h2.2]
theorem sortK_of_perm {L M : List K3} (h : L.Perm M) : sortK L = sortK M := sorted_one (((sortK_perm L).trans h).trans (sortK_perm M).symm) (sortK_sorted L) (sortK_sorted M)
theorem sortK_of_sorted {L : List K3} (h : L.Pairwise fun x y => lessK y x = false) : sortK L = L := sorted_one (sortK_perm L) (sortK_sorted L) h

end Go.Proofs.Ytfpjkeddcagfcaa

/-
  Layer 15: what is wanted, in plain words: heads by their keys.
-/
namespace Go.Proofs.Ytfpjkeddcagfcaa

def keyH (h : Hd) : K3 := ⟨h.kind, h.id, h.adv⟩
def aggH (h : Hd) : Value := .agg h.cells.toArray
def waL (M : List Hd) : List (K3 × Value) := M.map fun h => (keyH h, aggH h)
def getH (k : K3) : List Hd → Option Hd
  | [] => none
  | x :: M => if keyH x = k then some x else getH k M
def setH (h : Hd) : List Hd → List Hd
  | [] => [h]
  | x :: M => if keyH x = keyH h then h :: M else x :: setH h M
def dropH (k : K3) (M : List Hd) : List Hd := M.filter fun x => decide (keyH x ≠ k)
theorem getL_wa (k : K3) : ∀ M : List Hd, getL k (waL M) = (getH k M).map aggH
  | [] => rfl
  | x :: M => by
    have ih := getL_wa k M
    unfold waL at ih ⊢
    by_cases hx : keyH x = k
    · simp [getL, getH, hx]
    · simp [getL, getH, hx, ih]
theorem setL_wa (h : Hd) : ∀ M : List Hd, setL (keyH h) (aggH h) (waL M) = waL (setH h M)
  | [] => rfl
  | x :: M => by
    have ih := setL_wa h M
    unfold waL at ih ⊢
    by_cases hx : keyH x = keyH h
    · simp [setL, setH, hx]
    · simp [setL, setH, hx, ih]
theorem dropL_wa (k : K3) (M : List Hd) : dropL k (waL M) = waL (dropH k M) := by
  unfold dropL waL dropH
  rw [List.filter_map]
  rfl
theorem fst_wa (M : List Hd) : (waL M).map (·.1) = M.map keyH := by simp [waL, Function.comp_def]

/-- the document's list is in order -/
def sortedH (L : List Hd) : Prop := L.Pairwise fun x y => lessK (keyH x) (keyH y) = true
theorem sortedH.keys {L : List Hd} (h : sortedH L) : (L.map keyH).Nodup := by
  unfold sortedH at h
  rw [List.Nodup, List.pairwise_map]
  exact h.imp fun {a b} hab e => by rw [e, lessK_irr] at hab; cases hab
theorem getH_mem {k : K3} : ∀ {M : List Hd} {x : Hd}, getH k M = some x → x ∈ M ∧ keyH x = k
  | y :: M, x, h => by
    unfold getH at h
    by_cases hy : keyH y = k
    · rw [if_pos hy] at h
      injection h with h
      subst h
      exact ⟨by simp, hy⟩
    · rw [if_neg hy] at h
      have := getH_mem h
      exact ⟨by simp [this.1], this.2⟩
theorem getH_none {k : K3} : ∀ {M : List Hd}, getH k M = none ↔ ∀ x ∈ M, keyH x ≠ k
  | [] => by simp [getH]
  | y :: M => by
    unfold getH
    by_cases hy : keyH y = k
    · simp [hy]
    · simp [hy, getH_none (M := M)]
theorem getH_of {M : List Hd} (hn : (M.map keyH).Nodup) {x : Hd} (hx : x ∈ M) : getH (keyH x) M = some x := by
  induction M with
  | nil => simp at hx
  | cons y M ih =>
    simp only [List.map_cons, List.nodup_cons] at hn
    unfold getH
    by_cases hy : keyH y = keyH x
    · rw [if_pos hy]
      rcases List.mem_cons.1 hx with e | hx
      · rw [e]
      · exact absurd (by rw [hy]; exact List.mem_map_of_mem hx) hn.1
    · rw [if_neg hy]
      rcases List.mem_cons.1 hx with e | hx
      · exact absurd (by rw [e]) hy
      · exact ih hn.2 hx
theorem getH_perm {M L : List Hd} (hp : M.Perm L) (hn : (M.map keyH).Nodup) (k : K3) : getH k M = getH k L := by
  have hn' : (L.map keyH).Nodup := (hp.map keyH).nodup_iff.1 hn
  cases h : getH k L with
  | none => rw [getH_none] at h ⊢; exact fun x hx => h x (hp.subset hx)
  | some x =>
    obtain ⟨h1, h2⟩ := getH_mem h
    subst h2
    exact getH_of hn (hp.symm.subset h1)
theorem setH_perm (h : Hd) : ∀ {M : List Hd}, (M.map keyH).Nodup → (setH h M).Perm (h :: dropH (keyH h) M)
  | [], _ => by simp [setH, dropH]
  | x :: M, hn => by
    simp only [List.map_cons, List.nodup_cons] at hn
    unfold setH
    by_cases hx : keyH x = keyH h
    · rw [if_pos hx]
      have : dropH (keyH h) (x :: M) = M := by
        unfold dropH
        rw [List.filter_cons_of_neg (by simp [hx])]
        exact List.filter_eq_self.2 fun y hy => by simpa using fun e => hn.1 (by rw [hx, ← e]; exact List.mem_map_of_mem hy)
      rw [this]
    · rw [if_neg hx]
      have : dropH (keyH h) (x :: M) = x :: dropH (keyH h) M := by unfold dropH; rw [List.filter_cons_of_pos (by simp [hx])]
      rw [this]
      exact ((setH_perm h hn.2).cons x).trans (List.Perm.swap _ _ _)
theorem setH_keys {h : Hd} : ∀ {L : List Hd}, (∃ x ∈ L, keyH x = keyH h) → (setH h L).map keyH = L.map keyH
  | [], hx => by obtain ⟨x, hx, _⟩ := hx; simp at hx
  | y :: L, hx => by
    unfold setH
    by_cases hy : keyH y = keyH h
    · rw [if_pos hy]; simp [hy]
    · rw [if_neg hy]
      obtain ⟨x, hx1, hx2⟩ := hx
      rcases List.mem_cons.1 hx1 with e | hx1
      · exact absurd (by rw [← e]; exact hx2) hy
      · simp [setH_keys (L := L) ⟨x, hx1, hx2⟩]
theorem sorted_keys {L L' : List Hd} (h : sortedH L) (e : L'.map keyH = L.map keyH) : sortedH L' := by
  unfold sortedH at *
  have h1 : (L.map keyH).Pairwise fun x y => lessK x y = true := by rw [List.pairwise_map]; exact h
  rw [← e, List.pairwise_map] at h1
  exact h1
def insH (h : Hd) : List Hd → List Hd
  | [] => [h]
  | x :: L => if lessK (keyH h) (keyH x) = true then h :: x :: L else x :: insH h L
theorem insH_perm (h : Hd) : ∀ L : List Hd, (insH h L).Perm (h :: L)
  | [] => List.Perm.refl _
  | x :: L => by
    unfold insH
    split
    · exact List.Perm.refl _
    · exact ((insH_perm h L).cons x).trans (List.Perm.swap _ _ _)
theorem insH_sorted {h : Hd} : ∀ {L : List Hd}, sortedH L → (∀ x ∈ L, keyH x ≠ keyH h) → sortedH (insH h L)
  | [], _, _ => by simp [insH, sortedH]
  | x :: L, hs, hne => by
    unfold sortedH at hs
    rw [List.pairwise_cons] at hs
    unfold insH
    by_cases hl : lessK (keyH h) (keyH x) = true
    · rw [if_pos hl]
      unfold sortedH
      rw [List.pairwise_cons, List.pairwise_cons]
      refine ⟨fun y hy => ?_, hs⟩
      rcases List.mem_cons.1 hy with e | hy
      · rw [e]; exact hl
      · exact lessK_trans hl (hs.1 y hy)
    · rw [if_neg hl]
      unfold sortedH
      rw [List.pairwise_cons]
      refine ⟨fun y hy => ?_, insH_sorted hs.2 fun z hz => hne z (by simp [hz])⟩
      have hy' := (insH_perm h L).subset hy
      rcases List.mem_cons.1 hy' with e | hy'
      · rw [e]
        cases hx : lessK (keyH x) (keyH h) with
        | true => rfl
        | false => exact absurd (lessK_tot hx (by simpa using hl)) (hne x (by simp))
      · exact hs.1 y hy'
theorem sortedH_one : ∀ {L M : List Hd}, L.Perm M → sortedH L → sortedH M → L = M
  | [], M, hp, _, _ => by simpa using hp.symm.eq_nil
  | x :: L, [], hp, _, _ => by simpa using hp.eq_nil
  | x :: L, y :: M, hp, h1, h2 => by
    unfold sortedH at h1 h2
    rw [List.pairwise_cons] at h1 h2
    have hxy : x = y := by
      rcases List.mem_cons.1 (hp.subset (List.mem_cons_self (a := x) (l := L))) with e | hx
      · exact e
      · rcases List.mem_cons.1 (hp.symm.subset (List.mem_cons_self (a := y) (l := M))) with e | hy
        · exact e.symm
        · have h3 := lessK_trans (h2.1 x hx) (h1.1 y hy)
          rw [lessK_irr] at h3
          cases h3
    subst hxy
    rw [sortedH_one (List.Perm.cons_inv hp) h1.2 h2.2]

/-- the map's heads and the document's list -/
structure WEq (M L : List Hd) : Prop where
  perm : M.Perm L
  sorted : sortedH L
section
variable {M L : List Hd}
theorem WEq.nil : WEq [] [] := ⟨List.Perm.refl _, by simp [sortedH]⟩
theorem WEq.keys (h : WEq M L) : (M.map keyH).Nodup := (h.perm.map keyH).nodup_iff.2 h.sorted.keys
theorem WEq.get (h : WEq M L) (k : K3) : getH k M = getH k L := getH_perm h.perm h.keys k
theorem WEq.len (h : WEq M L) : M.length = L.length := h.perm.length_eq
theorem WEq.drop (h : WEq M L) (k : K3) : WEq (dropH k M) (dropH k L) := ⟨h.perm.filter _, h.sorted.sublist List.filter_sublist⟩
theorem WEq.set (h : WEq M L) {x : Hd} {y : Hd} (hx : getH (keyH y) L = some x) : WEq (setH y M) (setH y L) := by
  obtain ⟨h1, h2⟩ := getH_mem hx
  exact ⟨((setH_perm y h.keys).trans ((h.perm.filter _).cons y)).trans (setH_perm y h.sorted.keys).symm, sorted_keys h.sorted (setH_keys ⟨x, h1, h2⟩)⟩
theorem WEq.ins (h : WEq M L) {y : Hd} (hy : getH (keyH y) L = none) : WEq (setH y M) (insH y L) := by
  rw [getH_none] at hy
  refine ⟨(setH_perm y h.keys).trans (List.Perm.trans ?_ (insH_perm y L).symm), insH_sorted h.sorted hy⟩
  have : dropH (keyH y) L = L := List.filter_eq_self.2 fun z hz => by simpa using hy z hz
  have h3 := h.perm.filter (fun x => decide (keyH x ≠ keyH y))
  unfold dropH at this ⊢
  rw [this] at h3
  exact h3.cons y
end

/-- one head is added: on either side -/
def addM (nw : Hd → Hd → Int) (M : List Hd) (h : Hd) : List Hd := match getH (keyH h) M with
  | some x => if 0 < nw h x then setH h M else M
  | none => setH h M
def addD (nw : Hd → Hd → Int) (L : List Hd) (h : Hd) : List Hd := match getH (keyH h) L with
  | some x => if 0 < nw h x then setH h L else L
  | none => insH h L
theorem WEq.add {M L : List Hd} (h : WEq M L) (nw : Hd → Hd → Int) (y : Hd) : WEq (addM nw M y) (addD nw L y) := by
  unfold addM addD
  rw [h.get]
  cases hx : getH (keyH y) L with
  | none => exact h.ins hx
  | some x =>
    simp only
    by_cases h1 : 0 < nw y x
    · rw [if_pos h1, if_pos h1]; exact h.set hx
    · rw [if_neg h1, if_neg h1]; exact h

end Go.Proofs.Ytfpjkeddcagfcaa

/-
  Descriptions by their words; rows of them that the program made itself; the document's word for alike; keys.
-/
namespace Go.Proofs.Ytfpjkeddcagfcaa
open Go.RowKit Go.Sort

abbrev VX := Hd × List Lnk × List Int
def vX (x : Lsa) : VX := (x.head, x.links, x.members)
def keyX (x : Lsa) : K3 := keyH x.head
def keyV (v : VX) : K3 := keyH v.1
theorem keyV_vX (x : Lsa) : keyV (vX x) = keyX x := rfl
theorem map_keys (L : List Lsa) : (L.map vX).map keyV = L.map keyX := by rw [List.map_map]; rfl
set_option maxHeartbeats 400000 in
theorem keyOf_any (a b c d e f g : Int) (w : World) : Calls Try.prog 40 #[.agg #[.int .i64 a, .int .i64 b, .int .i64 c, .int .i64 d, .int .i64 e, .int .i64 f, .int .i64 g]] w
    fun r w' => r = .returned (.agg #[.int .i64 b, .int .i64 c, .int .i64 d]) ∧ Below w.heap.size w w' := by
  go_enter Try.func40, Try.ntmps40
  go_wp2
  refine bodyPost_ret (v := .agg #[.int .i64 b, .int .i64 c, .int .i64 d]) (by simp [results, Try.results40, go_sem]) rfl ⟨rfl, ?_⟩
  exact ((Below.refl _ _).alloc (Nat.le_refl _) _).alloc (by simp) _
set_option maxHeartbeats 400000 in
theorem key_any (a b c d e f g : Int) (w : World) : Calls Try.prog 31 #[.agg #[.int .i64 a, .int .i64 b, .int .i64 c, .int .i64 d, .int .i64 e, .int .i64 f, .int .i64 g]] w
    fun r w' => r = .returned (.agg #[.int .i64 b, .int .i64 c, .int .i64 d]) ∧ Below w.heap.size w w' := by
  go_enter Try.func31, Try.ntmps31
  go_wp2
  refine bodyPost_ret (v := .agg #[.int .i64 b, .int .i64 c, .int .i64 d]) (by simp [results, Try.results31, go_sem]) rfl ⟨rfl, ?_⟩
  exact ((Below.refl _ _).alloc (Nat.le_refl _) _).alloc (by simp) _
theorem eqKey (a b c a' b' c' : Int) (w : World) : (Op.equalIn 10000 74 (.agg #[.int .i64 a, .int .i64 b, .int .i64 c]) (.agg #[.int .i64 a', .int .i64 b', .int .i64 c'])).run Try.prog w = .ok (a == a' && b == b' && c == c') w := by
  have hS : Try.prog.underlying 74 = some (.struct (Try.prog.fieldsOf 74)) := by kernel_rfl
  have hp : Try.prog.stoodInHeld 74 = false := by kernel_rfl
  rw [show (10000 : Nat) = 9999 + 1 from rfl, run_equalIn_struct w 9999 74 _ _ hS hp]
  simp only [Program.fieldsOf, Try.underlying74]
  go_simp
  by_cases h1 : a = a' <;> by_cases h2 : b = b' <;> by_cases h3 : c = c' <;> simp [h1, h2, h3]

/-- its two lists lie off the row that holds it -/
def farX (v : Value) (x : Lsa) : Prop := (∀ a, x.ka = some a → 0 < x.links.length → v.ownBlock ≠ some a.block) ∧ (∀ a, x.ma = some a → 0 < x.members.length → v.ownBlock ≠ some a.block)
/-- its two lists lie in blocks from B on -/
def fromX (B : Nat) (x : Lsa) : Prop := (∀ a, x.ka = some a → 0 < x.links.length → B ≤ a.block) ∧ (∀ a, x.ma = some a → 0 < x.members.length → B ≤ a.block)
/-- its two lists can be read -/
def rowsX (W : World) (x : Lsa) : Prop := RowsAt 4 Lnk.cells W W.heap.size x.ka x.links ∧ RowsAt 1 icell W W.heap.size x.ma x.members
/-- a row of descriptions that the program made itself: blocks from B on -/
structure XsAt (W : World) (B : Nat) (v : Value) (L : List Lsa) : Prop where
  own : OwnR 60 9 Lsa.cells W B v L
  rows : ∀ x ∈ L, rowsX W x
  far : ∀ x ∈ L, farX v x
  from_ : ∀ x ∈ L, fromX B x
  lens : ∀ x ∈ L, x.links.length ≤ 1000 ∧ x.members.length ≤ 1000
section
variable {W W' : World} {B B' : Nat} {v v' : Value} {L : List Lsa} {x : Lsa}
theorem rowsX.keep (h : rowsX W x) (hb : Below W.heap.size W W') : rowsX W' x := ⟨rows_keep h.1 hb, rows_keep h.2 hb⟩
theorem XsAt.nil (W : World) (B : Nat) : XsAt W B (.slice none 0 0) [] := ⟨OwnR.nil _ _, fun _ h => absurd h (by simp), fun _ h => absurd h (by simp), fun _ h => absurd h (by simp), fun _ h => absurd h (by simp)⟩
theorem XsAt.keep (h : XsAt W B v L) (hb : Below W.heap.size W W') : XsAt W' B v L := ⟨h.own.below hb, fun x hx => (h.rows x hx).keep hb, h.far, h.from_, h.lens⟩
theorem row_at (h : OwnR 60 9 Lsa.cells W B v L) (k : Nat) (hk : k < L.length) : ∃ g c, v = .slice (some ⟨g, 0, none⟩) L.length c ∧ W.cell? ⟨g, k * 9, none⟩ = some (.int .i64 L[k].head.age) ∧ W.cell? ⟨g, k * 9 + 1, none⟩ = some (.int .i64 L[k].head.kind) ∧ W.cell? ⟨g, k * 9 + 2, none⟩ = some (.int .i64 L[k].head.id) ∧ W.cell? ⟨g, k * 9 + 3, none⟩ = some (.int .i64 L[k].head.adv) ∧ W.cell? ⟨g, k * 9 + 4, none⟩ = some (.int .i64 L[k].head.seq) ∧ W.cell? ⟨g, k * 9 + 5, none⟩ = some (.int .i64 L[k].head.sum) ∧ W.cell? ⟨g, k * 9 + 6, none⟩ = some (.int .i64 L[k].head.long) ∧
      W.cell? ⟨g, k * 9 + 7, none⟩ = some (.slice L[k].ka L[k].links.length L[k].kcap) ∧ W.cell? ⟨g, k * 9 + 8, none⟩ = some (.slice L[k].ma L[k].members.length L[k].mcap) := by
  rcases h.shape2 with ⟨-, hn⟩ | ⟨g, c, rfl, hc⟩
  · subst hn; simp at hk
  · obtain ⟨b, o, e, _, hcell⟩ := (OwnR.rows (C := 9) (cells := Lsa.cells) (fun _ => rfl) h).2 (by omega)
    injection e with e
    injection e with e1 e2
    subst e1 e2
    refine ⟨g, c, rfl, ?_, ?_, ?_, ?_, ?_, ?_, ?_, ?_, ?_⟩
    · simpa using hcell k hk 0 _ (by omega) rfl
    · simpa using hcell k hk 1 _ (by omega) rfl
    · simpa using hcell k hk 2 _ (by omega) rfl
    · simpa using hcell k hk 3 _ (by omega) rfl
    · simpa using hcell k hk 4 _ (by omega) rfl
    · simpa using hcell k hk 5 _ (by omega) rfl
    · simpa using hcell k hk 6 _ (by omega) rfl
    · simpa using hcell k hk 7 _ (by omega) rfl
    · simpa using hcell k hk 8 _ (by omega) rfl
theorem row_lt2 {α : Type} {C : Nat} {cells : α → List Value} {a : Addr} {R : List α} {A : Option Addr} (h : RowsAt C cells W W.heap.size A R) (e : A = some a) (h0 : 0 < R.length) : a.block < W.heap.size := by
  subst e
  obtain ⟨b', o, e, hb, -⟩ := h h0
  injection e with e
  subst e
  exact hb
theorem rows_row2 {α : Type} {C : Nat} {cells : α → List Value} {A : Option Addr} {R : List α} {row : Option Nat} (h : RowsAt C cells W W.heap.size A R) (hg : W.grownBy W' row) (hne : ∀ a, A = some a → 0 < R.length → row ≠ some a.block) : RowsAt C cells W' W'.heap.size A R := by
  intro h0
  obtain ⟨b', o, e, hb, hc⟩ := h h0
  refine ⟨b', o, e, Nat.lt_of_lt_of_le hb hg.size, fun k hk i u hi hu => ?_⟩
  exact (World.cell?_of_block (w := W) (a := ⟨b', o + k * C + i, none⟩) (hg.block b' hb (fun e2 => hne _ e h0 e2.symm))).trans (hc k hk i u hi hu)
theorem rowsX.grown {row : Option Nat} (h : rowsX W x) (hg : W.grownBy W' row) (hne : ∀ a, (x.ka = some a ∧ 0 < x.links.length) ∨ (x.ma = some a ∧ 0 < x.members.length) → row ≠ some a.block) : rowsX W' x :=
  ⟨rows_row2 h.1 hg (fun a e h0 => hne a (.inl ⟨e, h0⟩)), rows_row2 h.2 hg (fun a e h0 => hne a (.inr ⟨e, h0⟩))⟩
theorem grown_set (W : World) (q i : Nat) (u : Value) : W.grownBy (W.setCell ⟨q, i, none⟩ u) (some q) := ⟨rfl, rfl, rfl, by simp [World.setCell], fun k _ hne => Below.heap_setCell _ _ _ _ (fun e => hne (by rw [e]))⟩
/-- one more -/
theorem XsAt.app (h : XsAt W B v L) (ho : OwnR 60 9 Lsa.cells W' B v' (L ++ [x])) (hg : W.grownBy W' v.ownBlock) (hor : v'.ownBlock = v.ownBlock ∨ v'.ownBlock = some W.heap.size) (hr : rowsX W x) (hf : farX v x) (hB : fromX B x) (hl : x.links.length ≤ 1000 ∧ x.members.length ≤ 1000) : XsAt W' B v' (L ++ [x]) := by
  have hrows : ∀ y ∈ L ++ [x], rowsX W y ∧ farX v y ∧ fromX B y ∧ (y.links.length ≤ 1000 ∧ y.members.length ≤ 1000) := by
    intro y hy
    rcases List.mem_append.1 hy with hy | hy
    · exact ⟨h.rows y hy, h.far y hy, h.from_ y hy, h.lens y hy⟩
    · rw [List.mem_singleton] at hy
      subst hy
      exact ⟨hr, hf, hB, hl⟩
  refine ⟨ho, fun y hy => (hrows y hy).1.grown hg (fun a ha => ?_), fun y hy => ?_, fun y hy => (hrows y hy).2.2.1, fun y hy => (hrows y hy).2.2.2⟩
  · rcases ha with ⟨e, h0⟩ | ⟨e, h0⟩
    · exact (hrows y hy).2.1.1 a e h0
    · exact (hrows y hy).2.1.2 a e h0
  · rcases hor with e | e
    · unfold farX
      rw [e]
      exact (hrows y hy).2.1
    · unfold farX
      rw [e]
      refine ⟨fun a ea h0 e2 => ?_, fun a ea h0 e2 => ?_⟩
      · have := row_lt2 (hrows y hy).1.1 ea h0
        injection e2 with e2
        omega
      · have := row_lt2 (hrows y hy).1.2 ea h0
        injection e2 with e2
        omega
end
theorem own_new {v v' : Value} {B n : Nat} (h : ∀ m, v.ownBlock = some m → B ≤ m) (hor : v'.ownBlock = v.ownBlock ∨ v'.ownBlock = some n) (hn : B ≤ n) : ∀ m, v'.ownBlock = some m → B ≤ m := by
  intro m e
  rcases hor with e2 | e2
  · exact h m (by rw [← e2]; exact e)
  · rw [e2] at e; injection e with e; omega
theorem infoX : (Try.prog.info? 60).map (fun i => (i.zero, i.size, i.bytes)) = some (some (.agg #[.int .i64 0, .int .i64 0, .int .i64 0, .int .i64 0, .int .i64 0, .int .i64 0, .int .i64 0, .slice none 0 0, .slice none 0 0]), 9, 104) := by kernel_rfl
theorem onesX (x : Lsa) : ∀ u ∈ Lsa.cells x, u.oneCell' = true := by
  intro u hu
  simp [Lsa.cells] at hu
  rcases hu with rfl | rfl | rfl | rfl | rfl | rfl | rfl | rfl | rfl <;> rfl


theorem row_lsa9b {w : World} {B : Nat} {A : Option Addr} {l : List Lsa} (h : RowsAt 9 Lsa.cells w B A l) (k : Nat) (hk : k < l.length) :
    ∃ b o, A = some ⟨b, o, none⟩ ∧ b < B ∧ w.cell? ⟨b, o + k * 9, none⟩ = some (.int .i64 l[k].head.age) ∧ w.cell? ⟨b, o + k * 9 + 1, none⟩ = some (.int .i64 l[k].head.kind) ∧ w.cell? ⟨b, o + k * 9 + 2, none⟩ = some (.int .i64 l[k].head.id) ∧ w.cell? ⟨b, o + k * 9 + 3, none⟩ = some (.int .i64 l[k].head.adv) ∧ w.cell? ⟨b, o + k * 9 + 4, none⟩ = some (.int .i64 l[k].head.seq) ∧ w.cell? ⟨b, o + k * 9 + 5, none⟩ = some (.int .i64 l[k].head.sum) ∧ w.cell? ⟨b, o + k * 9 + 6, none⟩ = some (.int .i64 l[k].head.long) ∧
      w.cell? ⟨b, o + k * 9 + 7, none⟩ = some (.slice l[k].ka l[k].links.length l[k].kcap) ∧ w.cell? ⟨b, o + k * 9 + 8, none⟩ = some (.slice l[k].ma l[k].members.length l[k].mcap) := by
  obtain ⟨b, o, e, hb, hc⟩ := h (by omega)
  exact ⟨b, o, e, hb, by simpa using hc k hk 0 _ (by omega) rfl, hc k hk 1 _ (by omega) rfl, hc k hk 2 _ (by omega) rfl, hc k hk 3 _ (by omega) rfl, hc k hk 4 _ (by omega) rfl, hc k hk 5 _ (by omega) rfl, hc k hk 6 _ (by omega) rfl, hc k hk 7 _ (by omega) rfl, hc k hk 8 _ (by omega) rfl⟩
theorem vX_len {l l' : List Lsa} (h : l.map vX = l'.map vX) : l.length = l'.length := by have := congrArg List.length h; simpa using this
theorem vX_at {l l' : List Lsa} (h : l.map vX = l'.map vX) (k : Nat) (hk : k < l.length) (hk' : k < l'.length) : vX l[k] = vX l'[k] := by
  have h1 : (l.map vX)[k]? = (l'.map vX)[k]? := by rw [h]
  simpa [hk, hk'] using h1
theorem seal_el {W W' : World} {B q nl nm : Nat} {v : Value} {O : List Lsa} {ls : List Lnk} {ms : List Int} {A : Option Addr} {c : Nat} {A' : Option Addr} {c' : Nat} {h : Hd} (ho : OwnR 60 9 Lsa.cells W B v O) (hq : q < W.heap.size) (_hnl : nl = ls.length) (_hnm : nm = ms.length) (hl : ls.length ≤ 1000) (hm : ms.length ≤ 1000)
    (oa : OwnR 107 4 Lnk.cells W' W.heap.size (.slice A nl c) ls) (ob : OwnR 3 1 icell W' W.heap.size (.slice A' nm c') ms) :
    rowsX W' ⟨h, A, c, ls, A', c', ms⟩ ∧ farX v ⟨h, A, c, ls, A', c', ms⟩ ∧ fromX (q + 1) ⟨h, A, c, ls, A', c', ms⟩ ∧ (ls.length ≤ 1000 ∧ ms.length ≤ 1000) := by
  refine ⟨⟨(OwnR.rows (C := 4) (cells := Lnk.cells) (fun _ => rfl) oa).2, (OwnR.rows (C := 1) (cells := icell) (fun _ => rfl) ob).2⟩, ⟨fun a e _ e2 => ?_, fun a e _ e2 => ?_⟩, ⟨fun a e _ => ?_, fun a e _ => ?_⟩, hl, hm⟩
  · simp only at e; subst e
    have := (oa.block _ rfl).1; have := (ho.block _ e2).2; omega
  · simp only at e; subst e
    have := (ob.block _ rfl).1; have := (ho.block _ e2).2; omega
  · simp only at e; subst e
    have := (oa.block _ rfl).1; omega
  · simp only at e; subst e
    have := (ob.block _ rfl).1; omega
theorem XsAt.lower {W : World} {B B' : Nat} {v : Value} {L : List Lsa} (h : XsAt W B v L) (hB : B' ≤ B) : XsAt W B' v L :=
  ⟨h.own.lower hB, h.rows, h.far, fun x hx => ⟨fun a e h0 => Nat.le_trans hB ((h.from_ x hx).1 a e h0), fun a e h0 => Nat.le_trans hB ((h.from_ x hx).2 a e h0)⟩, h.lens⟩
theorem XsAt.iter {W W' : World} {B i : Nat} {v : Value} {D : List Lsa} (h : XsAt W B v D) (hg : W.grownBy W' (some i)) (hi : i < B) : XsAt W' B v D :=
  ⟨h.own.kept hg (.inr (fun e => by have := (h.own.block i e).1; omega)), fun x hx => (h.rows x hx).grown hg (fun a ha => ha.elim (fun e e2 => by have := (h.from_ x hx).1 a e.1 e.2; injection e2 with e2; omega) (fun e e2 => by have := (h.from_ x hx).2 a e.1 e.2; injection e2 with e2; omega)), h.far, h.from_, h.lens⟩
end Go.Proofs.Ytfpjkeddcagfcaa

/-
  Layer 13: the heads that are told: the program's way.
-/
namespace Go.Proofs.Ytfpjkeddcagfcaa
open Go.RowKit Go.Sort

theorem infoHd13 : (Try.prog.info? 56).map (fun i => (i.zero, i.size, i.bytes)) = some (some (.agg #[.int .i64 0, .int .i64 0, .int .i64 0, .int .i64 0, .int .i64 0, .int .i64 0, .int .i64 0]), 7, 56) := by kernel_rfl
theorem onesHd13 (x : Hd) : ∀ u ∈ Hd.cells x, u.oneCell' = true := by
  intro u hu
  simp [Hd.cells] at hu
  rcases hu with rfl | rfl | rfl | rfl | rfl | rfl | rfl <;> rfl
/-- the heads of what isn't gone -/
def headsOf (l : List Lsa) : List Hd := (l.filter fun x => decide (x.head.age ≠ 60)).map fun x => x.head
theorem heads_more {l : List Lsa} {k : Nat} (hk : k < l.length) : headsOf (l.take (k + 1)) = headsOf (l.take k) ++ if l[k].head.age = 60 then [] else [l[k].head] := by
  unfold headsOf
  rw [List.take_succ_eq_append_getElem hk, List.filter_append, List.map_append]
  congr 1
  by_cases h : l[k].head.age = 60 <;> simp [h]
theorem heads_len (l : List Lsa) : (headsOf l).length ≤ l.length := by
  unfold headsOf
  rw [List.length_map]
  exact List.length_filter_le _ _
/-- a summary, in memory -/
structure SmAt (W : World) (s : Nat) (v : Value) (at_ : Int) (H : List Hd) : Prop where
  ptr : Blk W s 79 #[v, .int .i64 at_]
  own : OwnR 56 7 Hd.cells W (s + 1) v H
theorem SmAt.keep {W W' : World} {s : Nat} {v : Value} {at_ : Int} {H : List Hd} (h : SmAt W s v at_ H) (hb : Below W.heap.size W W') : SmAt W' s v at_ H := ⟨h.ptr.below hb h.ptr.lt, h.own.below hb⟩

set_option maxHeartbeats 8000000 in
set_option maxRecDepth 100000 in
theorem SuNew_any (A : Option Addr) (c : Nat) (l : List Lsa) (w : World) (B : Nat) (h : RowsAt 9 Lsa.cells w B A l) (hB : B ≤ w.heap.size) (hm : l.length ≤ 2 ^ 20) (nn : Nat) (hnn : nn = l.length) (K : List Hd)
    (HS : ∀ W v, OwnR 56 7 Hd.cells W (w.heap.size + 1) v (headsOf l) → Calls Try.prog 37 #[v, .func (.func 38) #[] #[]] W fun r W' => r = .returned (.tuple #[]) ∧ OwnR 56 7 Hd.cells W' (w.heap.size + 1) v K ∧ W.grownBy W' v.ownBlock) :
    Calls Try.prog 34 #[.slice A nn c] w fun r w' => r = .returned (.pointer (some ⟨w.heap.size, 0, none⟩)) ∧ (∃ v, SmAt w' w.heap.size v 0 K) ∧ Below w.heap.size w w' := by
  subst hnn
  obtain ⟨s, hs⟩ : ∃ s, w.heap.size = s := ⟨_, rfl⟩
  have HL := Lib.hid h
  have HSo := Lib.hid HS
  have Hs := Lib.hid (show w.heap.size ≤ s by omega)
  have hm' : (l.length : Int) ≤ 9223372036854775807 := by omega
  obtain ⟨w1, hw1⟩ : ∃ w1, w.alloc (.cells #[.slice none 0 0, .int .i64 0] 79) = w1 := ⟨_, rfl⟩
  have hk1 := Blk.new w 79 #[.slice none 0 0, .int .i64 0]
  have hb1 := below_new w (.cells #[.slice none 0 0, .int .i64 0] 79)
  rw [hw1, hs] at hk1
  rw [hw1] at hb1
  have S1 := Lib.hid (show SmAt w1 s (.slice none 0 0) 0 [] from ⟨hk1, OwnR.nil _ _⟩)
  have B1 := Lib.hid hb1
  clear h HS hk1 hb1
  go_enter Try.func34, Try.ntmps34
  go_wp2
  go_loopw [10] (fun i wr => ∃ (k : Nat) (v : Value), i = .int .i64 k ∧ k ≤ l.length ∧ SmAt wr s v 0 (headsOf (l.take k)) ∧ Below w.heap.size w wr) (fun i _ => l.length - (intOf i).toNat)
  case atStart => exact ⟨0, _, rfl, Nat.zero_le _, S1.out, B1.out⟩
  case round =>
    obtain ⟨k, v, rfl, hk, hsm, hb⟩ := hrel
    clear S1 B1
    by_cases hlt : k < l.length
    · obtain ⟨g, o, hA, -, x0, x1, x2, x3, x4, x5, x6, x7, x8⟩ := row_lsa9b (HL.out.below (hb.mono hB)) k hlt
      have hkl : (k : Int) < (l.length : Int) := by omega
      have hmore := heads_more hlt
      have HA := Lib.hid hA
      rw [hA]
      have Hlt := Lib.hid hlt
      generalize l[k] = x at *
      obtain ⟨⟨y1, y2, y3, y4, y5, y6, y7⟩, ka, kc, ls, ma, mc, ms⟩ := x
      simp only at x0 x1 x2 x3 x4 x5 x6 x7 x8 hmore
      obtain ⟨nl, hnl⟩ : ∃ nl, ls.length = nl := ⟨_, rfl⟩
      obtain ⟨nm, hnm⟩ : ∃ nm, ms.length = nm := ⟨_, rfl⟩
      rw [hnl] at x7
      rw [hnm] at x8
      have HHl := Lib.hid (show (headsOf (l.take k)).length ≤ 2 ^ 20 from Nat.le_trans (heads_len _) (by rw [List.length_take]; omega))
      have Hmore := Lib.hid hmore
      obtain ⟨H, hH⟩ : ∃ H, headsOf (l.take k) = H := ⟨_, rfl⟩
      rw [hH] at hsm HHl Hmore
      clear hmore hH
      obtain ⟨A7, c7, hv7⟩ := hsm.own.shape
      subst hv7
      obtain ⟨w8, hw8⟩ : ∃ w8, wr.alloc (.cells #[.int .i64 y1, .int .i64 y2, .int .i64 y3, .int .i64 y4, .int .i64 y5, .int .i64 y6, .int .i64 y7, .slice ka nl kc, .slice ma nm mc] 60) = w8 := ⟨_, rfl⟩
      obtain ⟨g8, hg8⟩ : ∃ g8, wr.heap.size = g8 := ⟨_, rfl⟩
      have hk8 := Blk.new wr 60 #[.int .i64 y1, .int .i64 y2, .int .i64 y3, .int .i64 y4, .int .i64 y5, .int .i64 y6, .int .i64 y7, .slice ka nl kc, .slice ma nm mc]
      have hb8 := below_new wr (.cells #[.int .i64 y1, .int .i64 y2, .int .i64 y3, .int .i64 y4, .int .i64 y5, .int .i64 y6, .int .i64 y7, .slice ka nl kc, .slice ma nm mc] 60)
      rw [hw8, hg8] at hk8
      rw [hw8] at hb8
      have K8 := Lib.hid hk8
      have S8 := Lib.hid (hsm.keep hb8)
      have B8 := Lib.hid (below_trans hb hb.size hb8)
      have Hg8 := Lib.hid (show (Value.slice A7 H.length c7).ownBlock ≠ some g8 from fun e => by have := (hsm.own.block _ e).2; omega)
      obtain ⟨z0, z1, z2, z3, z4, z5, z6, z7, z8, zf⟩ := blk9 hk8
      by_cases h60 : y1 = 60
      · subst h60
        rw [if_pos rfl, List.append_nil] at Hmore
        clear hnl hnm hA hlt hk8 hb8 hk hsm hb
        go_wp2
        go_roundw
        case measure => have := Hlt.out; simp only [intOf]; omega
        case rel => exact ⟨k + 1, _, by go_num, Hlt.out, by rw [Hmore.out]; exact S8.out, B8.out⟩
      · rw [if_neg h60] at Hmore
        have FF := Lib.hid (show ∀ W, Blk W s 79 #[.slice A7 H.length c7, .int .i64 0] → Blk W g8 60 #[.int .i64 y1, .int .i64 y2, .int .i64 y3, .int .i64 y4, .int .i64 y5, .int .i64 y6, .int .i64 y7, .slice ka nl kc, .slice ma nm mc] → (W.cell? ⟨s, 0, none⟩ = some (.slice A7 H.length c7) ∧ W.cell? ⟨g8, 0, none⟩ = some (.int .i64 y1) ∧ W.cell? ⟨g8, 1, none⟩ = some (.int .i64 y2) ∧ W.cell? ⟨g8, 2, none⟩ = some (.int .i64 y3) ∧ W.cell? ⟨g8, 3, none⟩ = some (.int .i64 y4) ∧ W.cell? ⟨g8, 4, none⟩ = some (.int .i64 y5) ∧ W.cell? ⟨g8, 5, none⟩ = some (.int .i64 y6) ∧ W.cell? ⟨g8, 6, none⟩ = some (.int .i64 y7)) from
          fun W h1 h2 => ⟨h1.cell 0, h2.cell 0, h2.cell 1, h2.cell 2, h2.cell 3, h2.cell 4, h2.cell 5, h2.cell 6⟩)
        clear hnl hnm hA hlt hk8 hb8 hk hsm hb
        go_wp2
        refine wp_region_F (F := fun W => W.cell? ⟨s, 0, none⟩ = some (.slice A7 H.length c7) ∧ W.cell? ⟨g8, 0, none⟩ = some (.int .i64 y1) ∧ W.cell? ⟨g8, 1, none⟩ = some (.int .i64 y2) ∧ W.cell? ⟨g8, 2, none⟩ = some (.int .i64 y3) ∧ W.cell? ⟨g8, 3, none⟩ = some (.int .i64 y4) ∧ W.cell? ⟨g8, 4, none⟩ = some (.int .i64 y5) ∧ W.cell? ⟨g8, 5, none⟩ = some (.int .i64 y6) ∧ W.cell? ⟨g8, 6, none⟩ = some (.int .i64 y7)) (n := 11) (m := 12) (s := #[false, false, false, false, false, false, false, false, false, false, false, false]) (by kernel_rfl) (by kernel_rfl) (by kernel_rfl) ?_
        intro wd hwd
        have hbd : Below w8.heap.size w8 wd := by rw [hwd.out]; exact (Below.refl _ _).drew
        have S9 := S8.out.keep hbd
        have B9 := below_trans B8.out B8.out.size hbd
        have hF := FF.out wd S9.ptr (K8.out.below hbd K8.out.lt)
        have K9 := K8.out.below hbd K8.out.lt
        clear hwd hbd
        refine F_take (i := 0) (d := some 18) (by kernel_rfl) (by kernel_rfl) (by decide) (s' := #[true, false, false, false, false, false, false, false, false, false, false, false]) (by kernel_rfl) rfl rfl (by kernel_rfl) (by kernel_rfl) (by kernel_rfl) (fun _ _ _ h => h) (Or.inl ⟨by kernel_rfl, fun W hW => by obtain ⟨c0, x0, x1, x2, x3, x4, x5, x6⟩ := hW; go_simp; try with_reducible rfl⟩) hF ?_
        go_frame
        refine F_take (i := 1) (d := some 19) (by kernel_rfl) (by kernel_rfl) (by decide) (s' := #[true, true, false, false, false, false, false, false, false, false, false, false]) (by kernel_rfl) rfl rfl (by kernel_rfl) (by kernel_rfl) (by kernel_rfl) (fun _ _ _ h => h) (Or.inl ⟨by kernel_rfl, fun W hW => by obtain ⟨c0, x0, x1, x2, x3, x4, x5, x6⟩ := hW; go_simp; try with_reducible rfl⟩) hF ?_
        go_frame
        refine F_take (i := 2) (d := some 20) (by kernel_rfl) (by kernel_rfl) (by decide) (s' := #[true, true, true, false, false, false, false, false, false, false, false, false]) (by kernel_rfl) rfl rfl (by kernel_rfl) (by kernel_rfl) (by kernel_rfl) (fun _ _ _ h => h) (Or.inl ⟨by kernel_rfl, fun W hW => by obtain ⟨c0, x0, x1, x2, x3, x4, x5, x6⟩ := hW; go_simp; try with_reducible rfl⟩) hF ?_
        go_frame
        refine F_take (i := 3) (d := some 21) (by kernel_rfl) (by kernel_rfl) (by decide) (s' := #[true, true, true, true, false, false, false, false, false, false, false, false]) (by kernel_rfl) rfl rfl (by kernel_rfl) (by kernel_rfl) (by kernel_rfl) (fun _ _ _ h => h) (Or.inl ⟨by kernel_rfl, fun W hW => by obtain ⟨c0, x0, x1, x2, x3, x4, x5, x6⟩ := hW; go_simp; try with_reducible rfl⟩) hF ?_
        go_frame
        refine F_take (i := 4) (d := some 22) (by kernel_rfl) (by kernel_rfl) (by decide) (s' := #[true, true, true, true, true, false, false, false, false, false, false, false]) (by kernel_rfl) rfl rfl (by kernel_rfl) (by kernel_rfl) (by kernel_rfl) (fun _ _ _ h => h) (Or.inl ⟨by kernel_rfl, fun W hW => by obtain ⟨c0, x0, x1, x2, x3, x4, x5, x6⟩ := hW; go_simp; try with_reducible rfl⟩) hF ?_
        go_frame
        refine F_take (i := 5) (d := some 23) (by kernel_rfl) (by kernel_rfl) (by decide) (s' := #[true, true, true, true, true, true, false, false, false, false, false, false]) (by kernel_rfl) rfl rfl (by kernel_rfl) (by kernel_rfl) (by kernel_rfl) (fun _ _ _ h => h) (Or.inl ⟨by kernel_rfl, fun W hW => by obtain ⟨c0, x0, x1, x2, x3, x4, x5, x6⟩ := hW; go_simp; try with_reducible rfl⟩) hF ?_
        go_frame
        refine F_take (i := 6) (d := some 24) (by kernel_rfl) (by kernel_rfl) (by decide) (s' := #[true, true, true, true, true, true, true, false, false, false, false, false]) (by kernel_rfl) rfl rfl (by kernel_rfl) (by kernel_rfl) (by kernel_rfl) (fun _ _ _ h => h) (Or.inl ⟨by kernel_rfl, fun W hW => by obtain ⟨c0, x0, x1, x2, x3, x4, x5, x6⟩ := hW; go_simp; try with_reducible rfl⟩) hF ?_
        go_frame
        refine F_one (i := 7) (s' := #[true, true, true, true, true, true, true, true, false, false, false, false]) (by kernel_rfl) (by kernel_rfl) (wpOp_valueL (i := 7) (d := some 25) (w' := wd.alloc (.cells #[.int .i64 y1, .int .i64 y2, .int .i64 y3, .int .i64 y4, .int .i64 y5, .int .i64 y6, .int .i64 y7] 56)) (v := .slice (some ⟨wd.heap.size, 0, none⟩) 1 1) rfl rfl (by kernel_rfl) (by go_simp) ⟨fun _ => FF.out _ (S9.ptr.alloc _) (K9.alloc _), ?_⟩)
        go_frame
        obtain ⟨v5, w5, hrun, hown5, hg5, hor5⟩ := app_row_run (e := 56) (sl := 31) Hd.cells (fun _ => rfl) (by decide) (bytes := 56) (by decide) infoHd13 rfl Try.underlying31 onesHd13 31 (s + 1) (.slice A7 H.length c7) H (S9.own.alloc (.cells #[.int .i64 y1, .int .i64 y2, .int .i64 y3, .int .i64 y4, .int .i64 y5, .int .i64 y6, .int .i64 y7] 56)) wd.heap.size ⟨y1, y2, y3, y4, y5, y6, y7⟩ (Blk.new wd _ _) (by have := HHl.out; omega) (by have := S9.ptr.lt; simp; omega)
        have hs5 := (S9.ptr.alloc (.cells #[.int .i64 y1, .int .i64 y2, .int .i64 y3, .int .i64 y4, .int .i64 y5, .int .i64 y6, .int .i64 y7] 56)).grown hg5 (fun e => by have := (S9.own.block s e.symm).1; omega)
        have hk5 := (K9.alloc (.cells #[.int .i64 y1, .int .i64 y2, .int .i64 y3, .int .i64 y4, .int .i64 y5, .int .i64 y6, .int .i64 y7] 56)).grown hg5 (fun e => Hg8.out e.symm)
        refine F_one (i := 8) (s' := #[true, true, true, true, true, true, true, true, true, false, false, false]) (by kernel_rfl) (by kernel_rfl) (wpOp_appendL (i := 8) (d := some 26) (t := 31) rfl rfl rfl (by kernel_rfl) rfl (by rfl) (by rfl) hrun ⟨fun _ => FF.out _ hs5 hk5, ?_⟩)
        go_frame
        have hF5 := FF.out w5 hs5 hk5
        refine F_take (i := 9) (d := some 27) (by kernel_rfl) (by kernel_rfl) (by decide) (s' := #[true, true, true, true, true, true, true, true, true, true, false, false]) (by kernel_rfl) rfl rfl (by kernel_rfl) (by kernel_rfl) (by kernel_rfl) (fun _ _ _ h => h) (Or.inl ⟨by kernel_rfl, fun W hW => by obtain ⟨c0, x0, x1, x2, x3, x4, x5, x6⟩ := hW; go_simp; try with_reducible rfl⟩) hF5 ?_
        go_frame
        refine F_take (i := 10) (d := some 28) (by kernel_rfl) (by kernel_rfl) (by decide) (s' := #[true, true, true, true, true, true, true, true, true, true, true, false]) (by kernel_rfl) rfl rfl (by kernel_rfl) (by kernel_rfl) (by kernel_rfl) (fun _ _ _ h => h) (Or.inl ⟨by kernel_rfl, fun W hW => by obtain ⟨c0, x0, x1, x2, x3, x4, x5, x6⟩ := hW; go_simp; try with_reducible rfl⟩) hF5 ?_
        go_frame
        obtain ⟨A5, c5, hv5⟩ := hown5.shape
        subst hv5
        obtain ⟨n5, hn5⟩ : ∃ n5, (H ++ [(⟨y1, y2, y3, y4, y5, y6, y7⟩ : Hd)]).length = n5 := ⟨_, rfl⟩
        rw [hn5] at hown5 hor5 ⊢
        have hsf := hs5.frozen 0
        have hsc := hs5.cell 0
        simp only [List.getElem?_toArray, List.getElem?_cons_zero] at hsc
        refine F_one (i := 11) (s' := #[true, true, true, true, true, true, true, true, true, true, true, true]) (by kernel_rfl) (by kernel_rfl) (wpOp_skipL (i := 11) (w' := w5.setCell ⟨s, 0, none⟩ (.slice A5 n5 c5)) rfl rfl (by kernel_rfl) (by go_simp) ⟨fun h => absurd h (by decide), ?_⟩)
        go_frame
        refine F_done (by kernel_rfl) ?_ _
        have hblk5 : Blk (w5.setCell ⟨s, 0, none⟩ (.slice A5 n5 c5)) s 79 #[.slice A5 n5 c5, .int .i64 0] := by simpa using hs5.set_ 0 (.slice A5 n5 c5)
        have S10 := Lib.hid (show SmAt (w5.setCell ⟨s, 0, none⟩ (.slice A5 n5 c5)) s (.slice A5 n5 c5) 0 (H ++ [⟨y1, y2, y3, y4, y5, y6, y7⟩]) from ⟨hblk5, hown5.set_ (by simp) _⟩)
        have B10 := Lib.hid (show Below w.heap.size w (w5.setCell ⟨s, 0, none⟩ (.slice A5 n5 c5)) from ((B9.alloc B9.size (.cells #[.int .i64 y1, .int .i64 y2, .int .i64 y3, .int .i64 y4, .int .i64 y5, .int .i64 y6, .int .i64 y7] 56)).grown hg5 (by have := B9.size; simp; omega) (fun m e => by have := (S9.own.block m e).1; have := Hs.out; omega)).setCell (p := ⟨s, 0, none⟩) (by have := Hs.out; simpa using this) _)
        clear hblk5 hs5 hk5 hown5 hor5 hg5 hrun hF S9 K9 B9 hsf hsc hn5
        go_wp2
        go_roundw
        case measure => have := Hlt.out; simp only [intOf]; omega
        case rel => exact ⟨k + 1, _, by go_num, Hlt.out, by rw [Hmore.out]; exact S10.out, B10.out⟩
    · have hke : k = l.length := by omega
      subst hke
      have hkl : ¬ (l.length : Int) < (l.length : Int) := by omega
      rw [List.take_length] at hsm
      obtain ⟨A7, c7, hv7⟩ := hsm.own.shape
      subst hv7
      have S8 := Lib.hid hsm
      have B8 := Lib.hid hb
      have hcell := hsm.ptr.cell 0
      simp only [List.getElem?_toArray, List.getElem?_cons_zero] at hcell
      obtain ⟨nh, hnh⟩ : ∃ nh, (headsOf l).length = nh := ⟨_, rfl⟩
      rw [hnh] at hcell
      have hS := HSo.out wr _ (by have := S8.out.own; rw [← hs] at this; exact this)
      rw [hnh] at hS
      have HS2 := Lib.hid hS
      have Hnh := Lib.hid hnh
      clear hsm hb hlt hS hnh
      go_wp2_with fail
      with_reducible refine Calls.mono HS2.out ?_
      rintro r w9 ⟨rfl, hown9, hg9⟩
      have hown8 := S8.out.own
      have hptr8 := S8.out.ptr
      rw [Hnh.out] at hown8 hptr8
      have S9 := Lib.hid (show SmAt w9 s (.slice A7 nh c7) 0 K from ⟨hptr8.grown hg9 (fun e => by have := (hown8.block s e.symm).1; omega), by rw [← hs]; exact hown9⟩)
      have B9 := Lib.hid (show Below w.heap.size w w9 from B8.out.grown hg9 B8.out.size (fun m e => by have := (hown8.block m e).1; omega))
      clear hown9 hg9 hown8 hptr8
      go_wp2
      go_ret
      exact ⟨by rw [hs]; rfl, ⟨_, by rw [hs]; exact S9.out⟩, B9.out⟩

end Go.Proofs.Ytfpjkeddcagfcaa

/-
  Layer 13: a piece of a summary; the methods of one that is not there.
-/
namespace Go.Proofs.Ytfpjkeddcagfcaa
open Go.RowKit Go.Sort

theorem SuPiece_nil (w : World) : Calls Try.prog 42 #[.pointer none] w fun r w' => r = .returned (.slice none 0 0) ∧ Below w.heap.size w w' := by
  go_enter Try.func42, Try.ntmps42
  go_wp2
  go_ret
  exact ⟨rfl, Below.refl _ _⟩
theorem SuStep_nil (w : World) : Calls Try.prog 36 #[.pointer none] w fun r w' => r = .returned (.bool false) ∧ Below w.heap.size w w' := by
  go_enter Try.func36, Try.ntmps36
  go_wp2
  go_ret
  exact ⟨rfl, Below.refl _ _⟩
set_option maxRecDepth 100000 in
theorem SuMore_nil (w : World) : Calls Try.prog 41 #[.pointer none] w fun r w' => r = .returned (.bool false) ∧ Below w.heap.size w w' := by
  go_enter Try.func41, Try.ntmps41
  go_wp2_with fail
  refine wp_drew_tail 15 (by kernel_rfl) (by kernel_rfl) ?_
  simp only [List.take_succ_cons, List.take_zero, List.drop_succ_cons, List.drop_zero]
  repeat (go_big_quiet_step (fail))
  refine wpQuiet_nil ?_
  rintro w3 ⟨dq, rfl⟩
  go_wp2
  go_ret
  exact ⟨rfl, below_drewN (Below.refl _ _) dq⟩
set_option maxHeartbeats 4000000 in
set_option maxRecDepth 100000 in
theorem SuPiece_one (s : Nat) (v : Value) (x : Hd) (w : World) (h : SmAt w s v 0 [x]) : Calls Try.prog 42 #[.pointer (some ⟨s, 0, none⟩)] w fun r w' => (∃ u, r = .returned u ∧ OwnR 56 7 Hd.cells w' w.heap.size u [x]) ∧ Below w.heap.size w w' := by
  obtain ⟨g, cap, hc, hv⟩ : ∃ g c, 1 ≤ c ∧ v = .slice (some ⟨g, 0, none⟩) 1 c := by
    rcases h.own.shape2 with ⟨-, hl⟩ | ⟨g, c5, rfl, hc5⟩
    · cases hl
    · exact ⟨g, c5, hc5, rfl⟩
  subst hv
  have HS := Lib.hid h
  obtain ⟨c0, c1⟩ : _ ∧ _ := ⟨h.ptr.cell 0, h.ptr.cell 1⟩
  simp only [List.getElem?_toArray, List.getElem?_cons_zero, List.getElem?_cons_succ] at c0 c1
  have hcn : ¬ cap < 1 := by omega
  clear h
  go_enter Try.func42, Try.ntmps42
  go_wp2_with fail
  refine wp_drew_tail 19 (by kernel_rfl) (by kernel_rfl) ?_
  simp only [List.take_succ_cons, List.take_zero, List.drop_succ_cons, List.drop_zero]
  repeat (go_big_quiet_step (fail))
  refine wpQuiet_nil ?_
  rintro w3 ⟨dq, rfl⟩
  have HR := Lib.hid (show RowsAt 7 Hd.cells (w.drewN dq) (w.drewN dq).heap.size (some ⟨g, 0, none⟩) [x] from (OwnR.rows (C := 7) (cells := Hd.cells) (fun _ => rfl) HS.out.own).2)
  have HE := Lib.hid (OwnR.nil (e := 56) (C := 7) (cells := Hd.cells) (w.drewN dq) w.heap.size)
  go_wp2_with (at_builtin; (refine app_rows (e := 56) Hd.cells (fun _ => rfl) (by decide) (bytes := 56) (by decide) infoHd13 rfl Try.underlying31 onesHd13 (by rfl) _ _ (by rfl) w.heap.size _ [] (by rfl) HE.out (some ⟨g, 0, none⟩) _ 1 [x] rfl (by rfl) HR.out (by simp) (by simp [World.drewN]) ?_); intro v5 w5 hown5 hg5 hor5; have O5 := Lib.hid hown5; have G5 := Lib.hid hg5; clear hown5 hg5 hor5)
  obtain ⟨A5, c5, hv5⟩ := O5.out.shape
  subst hv5
  go_wp2
  go_ret
  exact ⟨⟨_, rfl, O5.out⟩, (below_drewN (Below.refl _ _) dq).grown G5.out (by simp [World.drewN]) (fun m e => by cases e)⟩

end Go.Proofs.Ytfpjkeddcagfcaa

/-
  Layer 14: a summary of nothing.
-/
namespace Go.Proofs.Ytfpjkeddcagfcaa
open Go.RowKit Go.Sort

set_option maxHeartbeats 1000000 in
theorem insert0 (A : Option Addr) (c : Nat) (f : Value) (w : World) : Calls Try.prog 46 #[.slice A 0 c, .int .i64 0, .int .i64 0, f] w fun r w' => r = .returned (.tuple #[]) ∧ w' = w := by
  go_enter Try.func46, Try.ntmps46
  go_wp2
  go_loopw [8] (fun i wr => i = .int .i64 1 ∧ wr = w) (fun _ _ => 0)
  case atStart => exact ⟨rfl, rfl⟩
  case round =>
    obtain ⟨rfl, rfl⟩ := hrel
    go_wp2
    refine bodyPost_end (results_none rfl _ _ _) rfl ?_
    exact ⟨rfl, rfl⟩
set_option maxHeartbeats 1000000 in
theorem stable0 (A : Option Addr) (c : Nat) (f : Value) (w : World) : Calls Try.prog 43 #[.slice A 0 c, .int .i64 0, f] w fun r w' => r = .returned (.tuple #[]) ∧ w' = w := by
  go_enter Try.func43, Try.ntmps43
  go_wp2
  go_loopw [7, 8] (fun a b wr => a = .int .i64 0 ∧ b = .int .i64 20 ∧ wr = w) (fun _ _ _ => 0)
  case atStart => exact ⟨rfl, rfl, rfl⟩
  case round =>
    obtain ⟨rfl, rfl, rfl⟩ := hrel
    go_wp2_with fail
    with_reducible refine Calls.mono (insert0 _ _ _ _) ?_
    rintro r w2 ⟨rfl, rfl⟩
    obtain ⟨wo, hwo⟩ : ∃ wo : World, wo = w2 := ⟨_, rfl⟩
    go_wp2
    go_loopw [6] (fun a wx => a = .int .i64 20 ∧ wx = wo) (fun _ _ => 0)
    case atStart => exact ⟨rfl, hwo.symm⟩
    case round =>
      obtain ⟨rfl, rfl⟩ := hrel
      go_wp2
      refine bodyPost_end (results_none rfl _ _ _) rfl ?_
      exact ⟨rfl, rfl⟩
set_option maxHeartbeats 1000000 in
theorem sortStable0 (A : Option Addr) (c : Nat) (f : Value) (w : World) : Calls Try.prog 37 #[.slice A 0 c, f] w fun r w' => r = .returned (.tuple #[]) ∧ w' = w := by
  go_enter Try.func37, Try.ntmps37
  go_wp2_with fail
  with_reducible refine Calls.mono (stable0 _ _ _ _) ?_
  rintro r w2 ⟨rfl, rfl⟩
  go_wp2
  refine bodyPost_end (results_none rfl _ _ _) rfl ?_
  exact ⟨rfl, rfl⟩
theorem SuNew_none (w : World) : Calls Try.prog 34 #[.slice none 0 0] w fun r w' => r = .returned (.pointer (some ⟨w.heap.size, 0, none⟩)) ∧ (∃ v, SmAt w' w.heap.size v 0 []) ∧ Below w.heap.size w w' := by
  refine SuNew_any none 0 [] w w.heap.size RowsAt.nil (Nat.le_refl _) (by decide) 0 rfl [] (fun W' v hown => ?_)
  have hown2 : OwnR 56 7 Hd.cells W' (w.heap.size + 1) v [] := hown
  obtain ⟨A7, c7, hv⟩ := hown2.shape
  subst hv
  refine (sortStable0 A7 c7 _ W').mono ?_
  rintro r w' ⟨rfl, rfl⟩
  exact ⟨rfl, hown2, World.grownBy.refl _ _⟩
theorem app_none (w : World) (A : Option Addr) (c : Nat) : (Builtin.append_ #[31, 31] 31 #[.slice none 0 0, .slice A 0 c]).run Try.prog w = .ok (.slice none 0 0) w := by
  cases A <;> kernel_rfl
set_option maxHeartbeats 4000000 in
set_option maxRecDepth 100000 in
theorem SuPiece_none (s : Nat) (v : Value) (w : World) (h : SmAt w s v 0 []) : Calls Try.prog 42 #[.pointer (some ⟨s, 0, none⟩)] w fun r w' => r = .returned (.slice none 0 0) ∧ Below w.heap.size w w' := by
  have happ := app_none
  obtain ⟨c0, c1⟩ : _ ∧ _ := ⟨h.ptr.cell 0, h.ptr.cell 1⟩
  simp only [List.getElem?_toArray, List.getElem?_cons_zero, List.getElem?_cons_succ] at c0 c1
  rcases h.own.shape2 with ⟨hv, -⟩ | ⟨g, c5, hv, hc5⟩
  all_goals
    subst hv
    clear h
    try simp only [List.length_nil] at c0
    go_enter Try.func42, Try.ntmps42
    go_wp2_with fail
    refine wp_drew_tail 19 (by kernel_rfl) (by kernel_rfl) ?_
    simp only [List.take_succ_cons, List.take_zero, List.drop_succ_cons, List.drop_zero]
    repeat (go_big_quiet_step (fail))
    refine wpQuiet_nil ?_
    rintro w3 ⟨dq, rfl⟩
    go_wp2
    go_ret
    exact ⟨rfl, below_drewN (Below.refl _ _) dq⟩
set_option maxHeartbeats 4000000 in
set_option maxRecDepth 100000 in
theorem SuMore_none (s : Nat) (v : Value) (w : World) (h : SmAt w s v 0 []) : Calls Try.prog 41 #[.pointer (some ⟨s, 0, none⟩)] w fun r w' => r = .returned (.bool false) ∧ Below w.heap.size w w' := by
  obtain ⟨c0, c1⟩ : _ ∧ _ := ⟨h.ptr.cell 0, h.ptr.cell 1⟩
  simp only [List.getElem?_toArray, List.getElem?_cons_zero, List.getElem?_cons_succ] at c0 c1
  obtain ⟨A7, c7, hv⟩ := h.own.shape
  subst hv
  clear h
  simp only [List.length_nil] at c0
  go_enter Try.func41, Try.ntmps41
  go_wp2_with fail
  refine wp_drew_tail 15 (by kernel_rfl) (by kernel_rfl) ?_
  simp only [List.take_succ_cons, List.take_zero, List.drop_succ_cons, List.drop_zero]
  repeat (go_big_quiet_step (fail))
  refine wpQuiet_nil ?_
  rintro w3 ⟨dq, rfl⟩
  go_wp2
  go_ret
  exact ⟨rfl, below_drewN (Below.refl _ _) dq⟩

end Go.Proofs.Ytfpjkeddcagfcaa
