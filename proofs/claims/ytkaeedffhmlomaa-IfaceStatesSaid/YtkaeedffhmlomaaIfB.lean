/-
  The walk of iface.Step.
-/
import Derived.Test.YtkaeedffhmlomaaIfA
import Derived.Test.YtkaeedffhmlomaaIfMap
namespace Go.Proofs.Ytkaeedffhmlomaa
open Go.RowKit

section
variable {ops : Array Oper} {Q : Exit → Act → World → Prop}
theorem wpOp_put {i : Nat} {o : Oper} {m k x : Operand} {a : Act} {w : World} {K : Act → World → Prop} (hi : ops[i]? = some o) (ho : o.op = .insert 72 m k x) (hg : o.guard = none) (hd : o.dst = none)
    {b : Nat} {L : List Ent} {e : Ent} (hm : a.eval m = .map (some b)) (hk : a.eval k = keyV e.1) (hx : a.eval x = e.2) (hM : Mv w b L) (hn : findL e.1 L = none)
    (h : ∀ w', Mv w' b (L ++ [e]) → w.grownBy w' (some b) → K a w') : wpOp Try.prog ops Q i K a w := by
  obtain ⟨w', hr, h1, h2⟩ := putMove b L e.1 e.2 w hM hn
  have hw : Region.wanted o (yielded ops a.tmps) = true := by simp [Region.wanted, hg]
  unfold wpOp
  simp only [hi, hw, if_true]
  refine .inl ?_
  unfold Oper.wp execOp
  simp only [ho, hm, hk, hx, Sem.run_bind, Sem.run_pure, hr, Result.andThen_ok, Oper.upon, hd]
  exact h w' h1 h2
theorem wpOp_map {i : Nat} {o : Oper} {a : Act} {w : World} {K : Act → World → Prop} (hi : ops[i]? = some o) {t : TypeId} (ho : o.op = .makeMap t none) (hg : o.guard = none) {k : Tmp} (hd : o.dst = some k) {b : Nat} (hb : w.heap.size = b)
    (h : K (a.put (some k) (.map (some b))) (w.alloc (.map #[] 0))) : wpOp Try.prog ops Q i K a w := by
  have hw : Region.wanted o (yielded ops a.tmps) = true := by simp [Region.wanted, hg]
  unfold wpOp
  simp only [hi, hw, if_true]
  refine .inl ?_
  unfold Oper.wp execOp
  simp only [ho, Sem.run_bind, Sem.run_pure, Option.map_none, run_makeMap, Result.andThen_ok, Oper.upon, hd, hb]
  exact h
theorem wpAny_listed {fuel fuel' : Nat} {li li' : Array Bool} {a : Act} {w : World} (e : li = li') (ef : fuel = fuel') (h : wpAny Try.prog .any ops Q fuel' li' a w) : wpAny Try.prog .any ops Q fuel li a w := by
  subst e ef; exact h

def listedOf (n : Nat) (late r : List Nat) : Array Bool := ((List.range n).map fun i => !(r.contains i) && !(late.contains i)).toArray
def subs : List Nat → List (List Nat)
  | [] => [[]]
  | x :: l => subs l ++ (subs l).map (x :: ·)
theorem mem_subs {r I : List Nat} (h : r.Sublist I) : r ∈ subs I := by
  induction h with
  | slnil => simp [subs]
  | cons x _ ih => simp [subs, ih]
  | cons_cons x _ ih => simp [subs, ih]
def fillB (ops : Array Oper) (n : Nat) (late I : List Nat) : Bool :=
  (subs I).all fun r => (r.isEmpty || (Region.ready .any ops (listedOf n late r) == r)) && r.all fun i => (listedOf n late r).setIfInBounds i true == listedOf n late (r.erase i)

theorem findL_none {k : Int × Int} {L : List Ent} (h : ∀ e ∈ L, e.1 ≠ k) : findL k L = none := by
  induction L with
  | nil => rfl
  | cons e L ih =>
    have he := h e (by simp)
    have hq : ¬((k.1 == e.1.1 && k.2 == e.1.2) = true) := by
      intro hq
      simp at hq
      exact he (by rw [Prod.ext_iff]; exact ⟨hq.1.symm, hq.2.symm⟩)
    simp only [findL, if_neg hq]
    exact ih fun e he => h e (by simp [he])
theorem findL_some {k : Int × Int} {v : Value} {L : List Ent} (hin : (k, v) ∈ L) (h : ∀ e ∈ L, e.1 = k → e.2 = v) : findL k L = some v := by
  induction L with
  | nil => simp at hin
  | cons e L ih =>
    by_cases hq : (k.1 == e.1.1 && k.2 == e.1.2) = true
    · have he : e.1 = k := by simp at hq; rw [Prod.ext_iff]; exact ⟨hq.1.symm, hq.2.symm⟩
      simp only [findL, if_pos hq]
      rw [h e (by simp) he]
    · simp only [findL, if_neg hq]
      rcases List.mem_cons.1 hin with rfl | hin
      · simp at hq
      · exact ih hin fun e he => h e (by simp [he])

theorem fill {n : Nat} {late I : List Nat} {T : Nat → Ent} {b : Nat} {m : Operand} {a : Act} {fuel : Nat} {w0 : World} (hB : fillB ops n late I = true) (hI : I.Nodup) (hT : ∀ i ∈ I, ∀ j ∈ I, (T i).1 = (T j).1 → i = j)
    (hops : ∀ i ∈ I, ∃ o k x, ops[i]? = some o ∧ o.op = .insert 72 m k x ∧ o.guard = none ∧ o.dst = none ∧ a.eval k = keyV (T i).1 ∧ a.eval x = (T i).2) (hm : a.eval m = .map (some b))
    (hend : ∀ (w' : World) (D : List Nat), D.Perm I → Mv w' b (D.map T) → w0.grownBy w' (some b) → wpAny Try.prog .any ops Q fuel (listedOf n late []) a w') :
    ∀ (c : Nat) (r D : List Nat) (w : World), r.length = c → r.Sublist I → (D ++ r).Perm I → Mv w b (D.map T) → w0.grownBy w (some b) → wpAny Try.prog .any ops Q (c + fuel) (listedOf n late r) a w := by
  intro c
  induction c with
  | zero =>
    intro r D w hc hs hp hM hg
    have hr : r = [] := List.eq_nil_of_length_eq_zero hc
    subst hr
    rw [List.append_nil] at hp
    rw [Nat.zero_add]
    exact hend w D hp hM hg
  | succ c ih =>
    intro r D w hc hs hp hM hg
    have hall := List.all_eq_true.1 hB r (mem_subs hs)
    rw [Bool.and_eq_true] at hall
    have hne : r ≠ [] := by rintro rfl; simp at hc
    have hready : Region.ready .any ops (listedOf n late r) = r := by
      rcases Bool.or_eq_true_iff.1 hall.1 with h | h
      · exact absurd (List.isEmpty_iff.1 h) hne
      · exact eq_of_beq h
    rw [show c + 1 + fuel = (c + fuel) + 1 by omega]
    refine wpAny_all hready hne fun i hi => ?_
    have hiI : i ∈ I := hs.subset hi
    obtain ⟨o, k, x, h1, h2, h3, h4, h5, h6⟩ := hops i hiI
    have hnd : (D ++ r).Nodup := hp.nodup_iff.2 hI
    refine wpOp_put h1 h2 h3 h4 hm h5 h6 hM (findL_none fun e he hk => ?_) fun w' hM' hg' => ?_
    · obtain ⟨j, hj, rfl⟩ := List.mem_map.1 he
      have hjI : j ∈ I := hp.mem_iff.1 (by simp [hj])
      have := hT j hjI i hiI hk
      subst this
      exact (List.nodup_append.1 hnd).2.2 j hj j hi rfl
    · rw [eq_of_beq (List.all_eq_true.1 hall.2 i hi)]
      refine ih (r.erase i) (D ++ [i]) w' ?_ ((List.erase_sublist).trans hs) ?_ ?_ ?_
      · rw [List.length_erase_of_mem hi]; omega
      · rw [List.append_assoc]
        exact ((List.perm_cons_erase hi).symm.append_left D).trans hp
      · rw [List.map_append]; exact hM'
      · exact ⟨hg'.os.trans hg.os, hg'.tape.trans hg.tape, hg'.output.trans hg.output, Nat.le_trans hg.size hg'.size, fun j hj hne => (hg'.block j (Nat.lt_of_lt_of_le hj hg.size) hne).trans (hg.block j hj hne)⟩
theorem Mv_new {w : World} {b : Nat} (hb : w.heap.size = b) : Mv (w.alloc (.map #[] 0)) b [] := ⟨#[], 0, by rw [← hb]; exact (MapKept.heap_alloc w _).1, rfl⟩
theorem fill_start {n : Nat} {late I : List Nat} {T : Nat → Ent} {b : Nat} {m : Operand} {a : Act} {fuel : Nat} {w : World} (hB : fillB ops n late I = true) (hI : I.Nodup) (hT : ∀ i ∈ I, ∀ j ∈ I, (T i).1 = (T j).1 → i = j)
    (hops : ∀ i ∈ I, ∃ o k x, ops[i]? = some o ∧ o.op = .insert 72 m k x ∧ o.guard = none ∧ o.dst = none ∧ a.eval k = keyV (T i).1 ∧ a.eval x = (T i).2) (hm : a.eval m = .map (some b))
    (h0 : Mv w b []) (hend : ∀ (w' : World) (D : List Nat), D.Perm I → Mv w' b (D.map T) → w.grownBy w' (some b) → wpAny Try.prog .any ops Q fuel (listedOf n late []) a w') :
    wpAny Try.prog .any ops Q (I.length + fuel) (listedOf n late I) a w :=
  fill hB hI hT hops hm hend I.length I [] w rfl (List.Sublist.refl _) (List.Perm.refl _) h0 (World.grownBy.refl w _)
end

def tab (fb fv : Value) (i : Nat) : Ent := if i = 3 then ((0, 0), fb) else if i = 6 then ((1, 2), fv) else if i = 9 then ((1, 3), fv) else if i = 12 then ((2, 4), fv) else if i = 15 then ((3, 4), fv) else ((4, 4), fv)
theorem tab_inj {fb fv : Value} : ∀ i ∈ [3, 6, 9, 12, 15, 18], ∀ j ∈ [3, 6, 9, 12, 15, 18], (tab fb fv i).1 = (tab fb fv j).1 → i = j := by
  intro i hi j hj
  simp at hi hj
  rcases hi with rfl | rfl | rfl | rfl | rfl | rfl <;> rcases hj with rfl | rfl | rfl | rfl | rfl | rfl <;> simp [tab]
theorem tab_look {fb fv : Value} {D : List Nat} (hD : D.Perm [3, 6, 9, 12, 15, 18]) (c ev : Int) :
    findL (c, ev) (D.map (tab fb fv)) = if moveI c ev = 1 then some fb else if moveI c ev = 2 then some fv else none := by
  have hin : ∀ e, e ∈ D.map (tab fb fv) ↔ e ∈ [((0, 0), fb), ((1, 2), fv), ((1, 3), fv), ((2, 4), fv), ((3, 4), fv), (((4, 4) : Int × Int), fv)] := by
    intro e
    rw [(hD.map (tab fb fv)).mem_iff]
    rfl
  unfold moveI
  by_cases h1 : c = 0 ∧ ev = 0
  · rw [if_pos h1, if_pos rfl]
    obtain ⟨rfl, rfl⟩ := h1
    exact findL_some ((hin _).2 (by simp)) fun e he hk => by
      have := (hin e).1 he
      rcases e with ⟨k, v⟩
      simp at hk
      subst hk
      simpa using this
  · rw [if_neg h1]
    by_cases h2 : (c = 1 ∧ ev = 2) ∨ (c = 1 ∧ ev = 3) ∨ (c = 2 ∧ ev = 4) ∨ (c = 3 ∧ ev = 4) ∨ (c = 4 ∧ ev = 4)
    · rw [if_pos h2, if_neg (by decide), if_pos rfl]
      refine findL_some ((hin _).2 ?_) fun e he hk => ?_
      · rcases h2 with ⟨rfl, rfl⟩ | ⟨rfl, rfl⟩ | ⟨rfl, rfl⟩ | ⟨rfl, rfl⟩ | ⟨rfl, rfl⟩ <;> simp
      · have := (hin e).1 he
        rcases e with ⟨k, v⟩
        simp at hk
        subst hk
        simp at this
        rcases this with ⟨h, _⟩ | ⟨_, h⟩ | ⟨_, h⟩ | ⟨_, h⟩ | ⟨_, h⟩ | ⟨_, h⟩
        · exact absurd h h1
        all_goals exact h
    · rw [if_neg h2, if_neg (by decide), if_neg (by decide)]
      refine findL_none fun e he hk => ?_
      have := (hin e).1 he
      rcases e with ⟨k, v⟩
      simp at hk
      subst hk
      simp at this
      omega

theorem vote_v {i : Ifc} {gi go : Nat} {A : Option Addr} {cap : Nat} {l : List Cand} {w : World} {B : Nat} (hB : Blk w gi 41 i.row) (ho : w.cell? ⟨go, 0, none⟩ = some (.slice A l.length cap))
    (hl : CandsAt w B A l) (hBi : B ≤ gi) (hn : l.length ≤ 2 ^ 30) {a' b' c' d' e' : Int} (hx : voteI i l = ⟨a', b', c', d', e'⟩) :
    Calls Try.prog 46 #[.pointer (some ⟨gi, 0, none⟩), .pointer (some ⟨go, 0, none⟩)] w fun r w' => r = .returned (.tuple #[]) ∧ Blk w' gi 41 #[.int .i64 a', .int .i64 b', .int .i64 c', .int .i64 d', .int .i64 e'] ∧ w.grownBy w' (some gi) := by
  have := vote_any i gi go A cap l w B hB ho hl hBi hn
  rw [hx] at this
  exact this
theorem begin_v {i : Ifc} {gi : Nat} {w : World} (hB : Blk w gi 41 i.row) {a' b' c' d' e' : Int} (hx : beginI i = ⟨a', b', c', d', e'⟩) :
    Calls Try.prog 47 #[.pointer (some ⟨gi, 0, none⟩)] w fun r w' => r = .returned (.tuple #[]) ∧ Blk w' gi 41 #[.int .i64 a', .int .i64 b', .int .i64 c', .int .i64 d', .int .i64 e'] ∧ w.grownBy w' (some gi) := by
  have := begin_any i gi w hB
  rw [hx] at this
  exact this

theorem Blk1.cell_grown {w w' : World} {row : Option Nat} (hg : w.grownBy w' row) {p : Addr} (hp : p.block < w.heap.size) (hne : some p.block ≠ row) : w'.cell? p = w.cell? p := by
  have := hg.block p.block hp hne
  simp only [World.cell?, this]
/-- what the moves find, whatever else was laid -/
structure Stage (w0 w : World) (g : Nat) (i j : Ifc) (s : Value) : Prop where
  now : Blk w g 41 #[.int .i64 j.self, .int .i64 j.prio, .int .i64 j.state, .int .i64 j.dr, .int .i64 j.bdr]
  oth : w.cell? ⟨g + 1, 0, none⟩ = some s
  ret : Blk w (g + 1 + 1) 41 #[.int .i64 0, .int .i64 0, .int .i64 0, .int .i64 0, .int .i64 0]
  was : Blk w (g + 1 + 1 + 1) 41 #[.int .i64 i.self, .int .i64 i.prio, .int .i64 i.state, .int .i64 i.dr, .int .i64 i.bdr]
  bel : Below g w0 w
  siz : g + 1 + 1 + 1 < w.heap.size
theorem Stage.grown {w0 w w' : World} {g : Nat} {i j j' : Ifc} {s : Value} (h : Stage w0 w g i j s) (hg : w.grownBy w' (some g)) (hj : Blk w' g 41 #[.int .i64 j'.self, .int .i64 j'.prio, .int .i64 j'.state, .int .i64 j'.dr, .int .i64 j'.bdr]) : Stage w0 w' g i j' s :=
  ⟨hj, (Blk1.cell_grown hg (p := ⟨g + 1, 0, none⟩) (by have := h.siz; simp; omega) (by simp)).trans h.oth, h.ret.grown hg (by simp; omega), h.was.grown hg (by simp; omega),
    h.bel.grown hg (by have := h.siz; omega) (fun k hk => by cases hk; exact Nat.le_refl _), Nat.lt_of_lt_of_le h.siz hg.size⟩

theorem Blk.size {w : World} {g : Nat} {t : TypeId} {cs : Array Value} (o : w.heap.size = g) : Blk (w.alloc (.cells cs t)) g t cs := by rw [← o]; exact Blk.new w t cs
theorem stage_start {w w4 : World} {a b c d e : Int} {s : Value} {o : Obj} {t : TypeId}
    (hg : (((((w.alloc (.cells #[.int .i64 a, .int .i64 b, .int .i64 c, .int .i64 d, .int .i64 e] 41)).alloc (.cells #[s] t)).alloc (.cells #[.int .i64 0, .int .i64 0, .int .i64 0, .int .i64 0, .int .i64 0] 41)).alloc (.cells #[.int .i64 a, .int .i64 b, .int .i64 c, .int .i64 d, .int .i64 e] 41)).drew.alloc o).grownBy w4 (some (w.heap.size + 1 + 1 + 1 + 1))) :
    Stage w w4 w.heap.size ⟨a, b, c, d, e⟩ ⟨a, b, c, d, e⟩ s := by
  refine ⟨?_, ?_, ?_, ?_, ?_, ?_⟩
  · exact ((((((Blk.new w _ _).alloc _).alloc _).alloc _).drew).alloc _).grown hg (by simp; omega)
  · have h1 : Blk ((w.alloc (.cells #[.int .i64 a, .int .i64 b, .int .i64 c, .int .i64 d, .int .i64 e] 41)).alloc (.cells #[s] t)) (w.heap.size + 1) t #[s] := Blk.size (by simp)
    have h2 := ((((h1.alloc (.cells #[.int .i64 0, .int .i64 0, .int .i64 0, .int .i64 0, .int .i64 0] 41)).alloc (.cells #[.int .i64 a, .int .i64 b, .int .i64 c, .int .i64 d, .int .i64 e] 41)).drew).alloc o).grown hg (by simp)
    exact h2.cell 0
  · have h1 : Blk (((w.alloc (.cells #[.int .i64 a, .int .i64 b, .int .i64 c, .int .i64 d, .int .i64 e] 41)).alloc (.cells #[s] t)).alloc (.cells #[.int .i64 0, .int .i64 0, .int .i64 0, .int .i64 0, .int .i64 0] 41)) (w.heap.size + 1 + 1) 41 #[.int .i64 0, .int .i64 0, .int .i64 0, .int .i64 0, .int .i64 0] := Blk.size (by simp)
    exact (((h1.alloc (.cells #[.int .i64 a, .int .i64 b, .int .i64 c, .int .i64 d, .int .i64 e] 41)).drew).alloc o).grown hg (by simp)
  · have h1 : Blk ((((w.alloc (.cells #[.int .i64 a, .int .i64 b, .int .i64 c, .int .i64 d, .int .i64 e] 41)).alloc (.cells #[s] t)).alloc (.cells #[.int .i64 0, .int .i64 0, .int .i64 0, .int .i64 0, .int .i64 0] 41)).alloc (.cells #[.int .i64 a, .int .i64 b, .int .i64 c, .int .i64 d, .int .i64 e] 41)) (w.heap.size + 1 + 1 + 1) 41 #[.int .i64 a, .int .i64 b, .int .i64 c, .int .i64 d, .int .i64 e] := Blk.size (by simp)
    exact ((h1.drew).alloc o).grown hg (by simp)
  · exact (((((((Below.refl w.heap.size w).alloc (Nat.le_refl _) _).alloc (by simp) _).alloc (by simp; omega) _).alloc (by simp; omega) _).drew).alloc (by simp; omega) _).grown hg (by simp; omega) (fun k hk => by cases hk; omega)
  · have := hg.size; simp at this; omega

/-- the row that is handed back -/
theorem set5 {w : World} {g : Nat} {t : TypeId} {a b c d e a' b' c' d' e' : Value} (h : Blk w g t #[a, b, c, d, e]) :
    Blk (((((w.setCell ⟨g, 0, none⟩ a').setCell ⟨g, 1, none⟩ b').setCell ⟨g, 2, none⟩ c').setCell ⟨g, 3, none⟩ d').setCell ⟨g, 4, none⟩ e') g t #[a', b', c', d', e'] := by
  have := ((((h.set_ 0 a').set_ 1 b').set_ 2 c').set_ 3 d').set_ 4 e'
  simpa using this
theorem Stage.tail {w0 w : World} {g : Nat} {i j : Ifc} {s : Value} {a b c d e : Value} (h : Stage w0 w g i j s) :
    Below g w0 (((((w.setCell ⟨g + 1 + 1, 0, none⟩ a).setCell ⟨g + 1 + 1, 1, none⟩ b).setCell ⟨g + 1 + 1, 2, none⟩ c).setCell ⟨g + 1 + 1, 3, none⟩ d).setCell ⟨g + 1 + 1, 4, none⟩ e).drew :=
  (((((h.bel.setCell (p := ⟨g + 1 + 1, 0, none⟩) (by simp; omega) a).setCell (p := ⟨g + 1 + 1, 1, none⟩) (by simp; omega) b).setCell (p := ⟨g + 1 + 1, 2, none⟩) (by simp; omega) c).setCell (p := ⟨g + 1 + 1, 3, none⟩) (by simp; omega) d).setCell (p := ⟨g + 1 + 1, 4, none⟩) (by simp; omega) e).drew
def unlike (i j : Ifc) : Bool := !(i.self == j.self && i.prio == j.prio && i.state == j.state && i.dr == j.dr && i.bdr == j.bdr)

set_option maxHeartbeats 400000 in
set_option maxRecDepth 100000 in
theorem step_any (i : Ifc) (ev : Int) (A : Option Addr) (cap : Nat) (l : List Cand) (w : World) (B : Nat) (hl : CandsAt w B A l) (hB : B ≤ w.heap.size) (hn : l.length ≤ 2 ^ 30) :
    Calls Try.prog 24 #[i.val, .int .i64 ev, .slice A l.length cap] w fun r w' => r = .returned (.tuple #[(stepI i ev l).val, .bool (unlike (stepI i ev l) i)]) ∧ Below w.heap.size w w' := by
  rcases i with ⟨a, b, c, d, e⟩
  have hmm := @run_makeMap Try.prog
  go_enter Try.func24, Try.ntmps24
  unfold Ifc.val
  go_wp2_with fail
  refine wp_region_any (by kernel_rfl) ?_
  refine wpAny_take (i := 1) rfl (by kernel_rfl) (by kernel_rfl) (by kernel_rfl) (fun _ _ _ h => h) (Or.inl ⟨rfl, fun w => by go_simp; try with_reducible rfl⟩) ?_
  refine wpAny_take (i := 2) rfl (by kernel_rfl) (by kernel_rfl) (by kernel_rfl) (fun _ _ _ h => h) (Or.inl ⟨rfl, fun w => by go_simp; try with_reducible rfl⟩) ?_
  refine wpAny_take (i := 4) rfl (by kernel_rfl) (by kernel_rfl) (by kernel_rfl) (fun _ _ _ h => h) (Or.inl ⟨rfl, fun w => by go_simp; try with_reducible rfl⟩) ?_
  refine wpAny_take (i := 5) rfl (by kernel_rfl) (by kernel_rfl) (by kernel_rfl) (fun _ _ _ h => h) (Or.inl ⟨rfl, fun w => by go_simp; try with_reducible rfl⟩) ?_
  refine wpAny_take (i := 7) rfl (by kernel_rfl) (by kernel_rfl) (by kernel_rfl) (fun _ _ _ h => h) (Or.inl ⟨rfl, fun w => by go_simp; try with_reducible rfl⟩) ?_
  refine wpAny_take (i := 8) rfl (by kernel_rfl) (by kernel_rfl) (by kernel_rfl) (fun _ _ _ h => h) (Or.inl ⟨rfl, fun w => by go_simp; try with_reducible rfl⟩) ?_
  refine wpAny_take (i := 10) rfl (by kernel_rfl) (by kernel_rfl) (by kernel_rfl) (fun _ _ _ h => h) (Or.inl ⟨rfl, fun w => by go_simp; try with_reducible rfl⟩) ?_
  refine wpAny_take (i := 11) rfl (by kernel_rfl) (by kernel_rfl) (by kernel_rfl) (fun _ _ _ h => h) (Or.inl ⟨rfl, fun w => by go_simp; try with_reducible rfl⟩) ?_
  refine wpAny_take (i := 13) rfl (by kernel_rfl) (by kernel_rfl) (by kernel_rfl) (fun _ _ _ h => h) (Or.inl ⟨rfl, fun w => by go_simp; try with_reducible rfl⟩) ?_
  refine wpAny_take (i := 14) rfl (by kernel_rfl) (by kernel_rfl) (by kernel_rfl) (fun _ _ _ h => h) (Or.inl ⟨rfl, fun w => by go_simp; try with_reducible rfl⟩) ?_
  refine wpAny_take (i := 16) rfl (by kernel_rfl) (by kernel_rfl) (by kernel_rfl) (fun _ _ _ h => h) (Or.inl ⟨rfl, fun w => by go_simp; try with_reducible rfl⟩) ?_
  refine wpAny_take (i := 17) rfl (by kernel_rfl) (by kernel_rfl) (by kernel_rfl) (fun _ _ _ h => h) (Or.inl ⟨rfl, fun w => by go_simp; try with_reducible rfl⟩) ?_
  refine wpAny_all (rs := [0]) (by kernel_rfl) (by simp) fun i0 hi0 => ?_
  obtain rfl := List.mem_singleton.1 hi0
  refine wpOp_map rfl rfl rfl rfl (b := w.heap.size + 1 + 1 + 1 + 1) (by simp) ?_
  refine wpAny_listed (li' := listedOf 21 [19, 20] [3, 6, 9, 12, 15, 18]) (fuel' := 6 + 2) (by kernel_rfl) rfl ?_
  refine fill_start (n := 21) (late := [19, 20]) (I := [3, 6, 9, 12, 15, 18]) (T := tab (.func (.func 47) #[] #[.pointer (some ⟨w.heap.size, 0, none⟩)]) (.func (.func 46) #[] #[.pointer (some ⟨w.heap.size, 0, none⟩), .pointer (some ⟨w.heap.size + 1, 0, none⟩)]))
    (b := w.heap.size + 1 + 1 + 1 + 1) (m := .tmp 17) ?h1 ?h2 ?h3 ?h4 ?h5 ?h6 ?h7
  case h1 => kernel_rfl
  case h2 => decide
  case h3 => exact tab_inj
  case h4 =>
    intro i hi
    simp at hi
    rcases hi with rfl | rfl | rfl | rfl | rfl | rfl
    all_goals refine ⟨_, _, _, rfl, rfl, rfl, rfl, ?_, ?_⟩
    all_goals go_simp
    all_goals simp [tab, keyV]
  case h5 => go_simp
  case h6 => exact Mv_new (by simp)
  intro w4 D hD hM hg
  refine wpAny_take (i := 19) rfl (by kernel_rfl) (by kernel_rfl) (by kernel_rfl) (fun _ _ _ h => h) (Or.inl ⟨rfl, fun w => by go_simp; try with_reducible rfl⟩) ?_
  refine wpAny_take (i := 20) rfl (by kernel_rfl) (by kernel_rfl) (by kernel_rfl) (fun _ _ _ h => h) (Or.inl ⟨rfl, fun w => by go_simp; try with_reducible rfl⟩) ?_
  refine wpAny_done (by kernel_rfl) ?_ _
  have hS := stage_start hg
  have hl4 := CandsAt.below hl (hS.bel.mono hB)
  have hlook := tab_look (fb := .func (.func 47) #[] #[.pointer (some ⟨w.heap.size, 0, none⟩)]) (fv := .func (.func 46) #[] #[.pointer (some ⟨w.heap.size, 0, none⟩), .pointer (some ⟨w.heap.size + 1, 0, none⟩)]) hD c ev
  have HS := Lib.hid hS
  have HL := Lib.hid hl4
  obtain ⟨c0, c1, c2, c3, c4, f0, f1, f2, f3, f4⟩ := Blk.cells5 hS.now
  obtain ⟨x0, x1, x2, x3, x4, _, _, _, _, _⟩ := Blk.cells5 hS.was
  obtain ⟨_, _, _, _, _, r0, r1, r2, r3, r4⟩ := Blk.cells5 hS.ret
  have Hlook := Lib.hid hlook
  have HM := Lib.hid hM
  clear hg hD hS hl hl4 hlook hM hmm
  have hE := eqIface
  by_cases h1 : ev = 1
  · subst h1
    have HJ : Hid (stepI ⟨a, b, c, d, e⟩ 1 l = ⟨a, b, 0, 0, 0⟩) := Lib.hid (by simp [stepI])
    go_wp2_with fail
    have hw3 := set3_row (x := .int .i64 0) (y := .int .i64 0) (z := .int .i64 0) HS.out.now
    have hS5 := HS.out.grown (j' := ⟨a, b, 0, 0, 0⟩) hw3.2 hw3.1
    clear hw3 c0 c1 c2 c3 c4 x0 x1 x2 x3 x4 r0 r1 r2 r3 r4 f0 f1 f2 f3 f4
    generalize ((w4.setCell _ _).setCell _ _).setCell _ _ = w5 at *
    have HS5 := Lib.hid hS5
    obtain ⟨c0, c1, c2, c3, c4, f0, f1, f2, f3, f4⟩ := Blk.cells5 hS5.now
    obtain ⟨x0, x1, x2, x3, x4, _, _, _, _, _⟩ := Blk.cells5 hS5.was
    obtain ⟨_, _, _, _, _, r0, r1, r2, r3, r4⟩ := Blk.cells5 hS5.ret
    clear hS5
    go_region
    go_wp2_with fail
    obtain ⟨q0, q1, q2, q3, q4, _, _, _, _, _⟩ := Blk.cells5 ((set5 (a' := .int .i64 (a)) (b' := .int .i64 (b)) (c' := .int .i64 (0)) (d' := .int .i64 (0)) (e' := .int .i64 (0)) HS5.out.ret).drew)
    refine bodyPost_ret (v := .tuple #[.agg #[.int .i64 (a), .int .i64 (b), .int .i64 (0), .int .i64 (0), .int .i64 (0)], .bool (unlike ⟨a, b, 0, 0, 0⟩ ⟨a, b, c, d, e⟩)]) (by simp [results, Try.results24, go_sem, q0, q1, q2, q3, q4, unlike]) rfl ⟨?_, HS5.out.tail⟩
    rw [HJ.out]
  · have t1 : (ev == 1) = false := by simp [h1]
    rcases hj : stepI ⟨a, b, c, d, e⟩ ev l with ⟨a', b', c', d', e'⟩
    have HJ := Lib.hid hj
    by_cases m1 : moveI c ev = 1
    · have hj' : beginI ⟨a, b, c, d, e⟩ = ⟨a', b', c', d', e'⟩ := by rw [← hj]; simp [stepI, h1, m1]
      have HJ' := Lib.hid hj'
      have hL := lookMove (w.heap.size + 1 + 1 + 1 + 1) _ (c, ev) w4 HM.out _ (by rw [Hlook.out, if_pos m1])
      simp only [keyV] at hL
      clear hj hj' h1 m1
      go_wp2_with (go_at_call 47; (with_reducible refine Calls.mono (begin_v HS.out.now HJ'.out) ?_); rintro e5 w5 ⟨rfl, hB5, hg5⟩; have hS5 := HS.out.grown (j' := ⟨a', b', c', d', e'⟩) hg5 hB5; clear hB5 hg5 c0 c1 c2 c3 c4 x0 x1 x2 x3 x4 r0 r1 r2 r3 r4 f0 f1 f2 f3 f4)
      have HS5 := Lib.hid hS5
      obtain ⟨c0, c1, c2, c3, c4, f0, f1, f2, f3, f4⟩ := Blk.cells5 hS5.now
      obtain ⟨x0, x1, x2, x3, x4, _, _, _, _, _⟩ := Blk.cells5 hS5.was
      obtain ⟨_, _, _, _, _, r0, r1, r2, r3, r4⟩ := Blk.cells5 hS5.ret
      clear hS5
      go_region
      go_wp2_with fail
      obtain ⟨q0, q1, q2, q3, q4, _, _, _, _, _⟩ := Blk.cells5 ((set5 (a' := .int .i64 (a')) (b' := .int .i64 (b')) (c' := .int .i64 (c')) (d' := .int .i64 (d')) (e' := .int .i64 (e')) HS5.out.ret).drew)
      refine bodyPost_ret (v := .tuple #[.agg #[.int .i64 (a'), .int .i64 (b'), .int .i64 (c'), .int .i64 (d'), .int .i64 (e')], .bool (unlike ⟨a', b', c', d', e'⟩ ⟨a, b, c, d, e⟩)]) (by simp [results, Try.results24, go_sem, q0, q1, q2, q3, q4, unlike]) rfl ⟨?_, HS5.out.tail⟩
      rw [HJ.out]
    · by_cases m2 : moveI c ev = 2
      · have hj' : voteI ⟨a, b, c, d, e⟩ l = ⟨a', b', c', d', e'⟩ := by rw [← hj]; simp [stepI, h1, m2]
        have HJ' := Lib.hid hj'
        have hL := lookMove (w.heap.size + 1 + 1 + 1 + 1) _ (c, ev) w4 HM.out _ (by rw [Hlook.out, if_neg m1, if_pos m2])
        simp only [keyV] at hL
        clear hj hj' h1 m1 m2
        go_wp2_with (go_at_call 46; (with_reducible refine Calls.mono (vote_v HS.out.now HS.out.oth HL.out hB hn HJ'.out) ?_); rintro e5 w5 ⟨rfl, hB5, hg5⟩; have hS5 := HS.out.grown (j' := ⟨a', b', c', d', e'⟩) hg5 hB5; clear hB5 hg5 c0 c1 c2 c3 c4 x0 x1 x2 x3 x4 r0 r1 r2 r3 r4 f0 f1 f2 f3 f4)
        have HS5 := Lib.hid hS5
        obtain ⟨c0, c1, c2, c3, c4, f0, f1, f2, f3, f4⟩ := Blk.cells5 hS5.now
        obtain ⟨x0, x1, x2, x3, x4, _, _, _, _, _⟩ := Blk.cells5 hS5.was
        obtain ⟨_, _, _, _, _, r0, r1, r2, r3, r4⟩ := Blk.cells5 hS5.ret
        clear hS5
        go_region
        go_wp2_with fail
        obtain ⟨q0, q1, q2, q3, q4, _, _, _, _, _⟩ := Blk.cells5 ((set5 (a' := .int .i64 (a')) (b' := .int .i64 (b')) (c' := .int .i64 (c')) (d' := .int .i64 (d')) (e' := .int .i64 (e')) HS5.out.ret).drew)
        refine bodyPost_ret (v := .tuple #[.agg #[.int .i64 (a'), .int .i64 (b'), .int .i64 (c'), .int .i64 (d'), .int .i64 (e')], .bool (unlike ⟨a', b', c', d', e'⟩ ⟨a, b, c, d, e⟩)]) (by simp [results, Try.results24, go_sem, q0, q1, q2, q3, q4, unlike]) rfl ⟨?_, HS5.out.tail⟩
        rw [HJ.out]
      · have hj' : (⟨a, b, c, d, e⟩ : Ifc) = ⟨a', b', c', d', e'⟩ := by rw [← hj]; simp [stepI, h1, m1, m2]
        cases hj'
        have hL := lookMoveNot (w.heap.size + 1 + 1 + 1 + 1) _ (c, ev) w4 HM.out (by rw [Hlook.out, if_neg m1, if_neg m2])
        simp only [keyV] at hL
        have hS5 := HS.out
        clear hj h1 m1 m2
        go_wp2_with fail
        have HS5 := Lib.hid hS5
        obtain ⟨c0, c1, c2, c3, c4, f0, f1, f2, f3, f4⟩ := Blk.cells5 hS5.now
        obtain ⟨x0, x1, x2, x3, x4, _, _, _, _, _⟩ := Blk.cells5 hS5.was
        obtain ⟨_, _, _, _, _, r0, r1, r2, r3, r4⟩ := Blk.cells5 hS5.ret
        clear hS5
        go_region
        go_wp2_with fail
        obtain ⟨q0, q1, q2, q3, q4, _, _, _, _, _⟩ := Blk.cells5 ((set5 (a' := .int .i64 (a)) (b' := .int .i64 (b)) (c' := .int .i64 (c)) (d' := .int .i64 (d)) (e' := .int .i64 (e)) HS5.out.ret).drew)
        refine bodyPost_ret (v := .tuple #[.agg #[.int .i64 (a), .int .i64 (b), .int .i64 (c), .int .i64 (d), .int .i64 (e)], .bool (unlike ⟨a, b, c, d, e⟩ ⟨a, b, c, d, e⟩)]) (by simp [results, Try.results24, go_sem, q0, q1, q2, q3, q4, unlike]) rfl ⟨?_, HS5.out.tail⟩
        rw [HJ.out]

end Go.Proofs.Ytkaeedffhmlomaa
