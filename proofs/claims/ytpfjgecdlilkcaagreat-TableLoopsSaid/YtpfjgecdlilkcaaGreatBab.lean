/-
  Rows of structs that a call made itself, whatever the struct.
-/
import Derived.Test.YtpfjgecdlilkcaaGreatBaa
namespace Go.Proofs.YtpfjgecdlilkcaaGreat
open Go.RowKit

theorem flatR {α : Type} (cells : α → List Value) (C : Nat) (hC : ∀ x, (cells x).length = C) (l : List α) (k i : Nat) (hk : k < l.length) (hi : i < C) : (l.flatMap cells)[k * C + i]? = (cells l[k])[i]? := by
  induction l generalizing k with
  | nil => simp at hk
  | cons c l ih =>
    cases k with
    | zero => simp only [List.flatMap_cons, Nat.zero_mul, Nat.zero_add, List.getElem_cons_zero]; rw [List.getElem?_append_left (by rw [hC]; exact hi)]
    | succ k =>
      have := ih k (by simpa using hk)
      simp only [List.flatMap_cons, List.getElem_cons_succ]
      rw [List.getElem?_append_right (by rw [hC, Nat.add_mul]; omega), hC, show (k + 1) * C + i - C = k * C + i by rw [Nat.add_mul]; omega]
      exact this

/-- A row of structs (element type e, C cells each) that the call made itself: blocks from B on. -/
def OwnR {α : Type} (e : TypeId) (C : Nat) (cells : α → List Value) (w : World) (B : Nat) (v : Value) (L : List α) : Prop := w.ownsRow B e C v L.length (L.flatMap cells)
section
variable {α : Type} {e : TypeId} {C : Nat} {cells : α → List Value} {w w' : World} {B : Nat} {v : Value} {L : List α}
theorem OwnR.nil (w : World) (B : Nat) : OwnR e C cells w B (.slice none 0 0) ([] : List α) := ⟨by simp, .inl ⟨rfl, rfl⟩⟩
theorem OwnR.kept {row : Option Nat} (h : OwnR e C cells w B v L) (hg : w.grownBy w' row) (hne : v.ownBlock = none ∨ v.ownBlock ≠ row) : OwnR e C cells w' B v L := World.ownsRow.kept h hg hne
theorem OwnR.alloc (h : OwnR e C cells w B v L) (o : Obj) : OwnR e C cells (w.alloc o) B v L := World.ownsRow.alloc h o
theorem OwnR.below (h : OwnR e C cells w B v L) (hb : Below w.heap.size w w') : OwnR e C cells w' B v L :=
  h.kept (row := none) ⟨hb.os, hb.tape, hb.output, hb.size, fun k hk _ => hb.block k hk⟩ (by cases hv : v.ownBlock <;> simp)
theorem OwnR.shape (h : OwnR e C cells w B v L) : ∃ A cap, v = .slice A L.length cap := by
  rcases h.2 with ⟨rfl, hn⟩ | ⟨g, cap, cur, rfl, _⟩
  · exact ⟨none, 0, by rw [hn]⟩
  · exact ⟨_, cap, rfl⟩
theorem OwnR.block (h : OwnR e C cells w B v L) : ∀ k, v.ownBlock = some k → B ≤ k ∧ k < w.heap.size := fun k hk => World.ownsRow.lt h k hk
theorem OwnR.lower {B' : Nat} (h : OwnR e C cells w B v L) (hB : B' ≤ B) : OwnR e C cells w B' v L := by
  refine ⟨h.1, ?_⟩
  rcases h.2 with hn | ⟨g, cap, cur, e, hb, r⟩
  · exact .inl hn
  · exact .inr ⟨g, cap, cur, e, Nat.le_trans hB hb, r⟩
theorem OwnR.set_ (h : OwnR e C cells w B v L) {p : Addr} (hp : p.block < B) (u : Value) : OwnR e C cells (w.setCell p u) B v L := by
  refine h.kept (row := some p.block) ⟨rfl, rfl, rfl, by simp, fun k _ hne => Below.heap_setCell w p u k (fun e => hne (by rw [e]))⟩ ?_
  rcases hv : v.ownBlock with _ | k
  · exact .inl rfl
  · right
    intro e
    injection e with e
    have := (h.block k hv).1
    omega
/-- it can be read -/
theorem OwnR.rows (hC : ∀ x, (cells x).length = C) {A : Option Addr} {n cap : Nat} (h : OwnR e C cells w B (.slice A n cap) L) : n = L.length ∧ RowsAt C cells w w.heap.size A L := by
  rcases h.2 with ⟨hv, hn⟩ | ⟨g, cap', cur, hv, hb, hg, hnc, hcm, hcs, ht⟩
  · simp only [Value.slice.injEq] at hv
    exact ⟨by rw [hn]; exact hv.2.1, fun h0 => absurd h0 (by omega)⟩
  · simp only [Value.slice.injEq] at hv
    obtain ⟨rfl, rfl, rfl⟩ := hv
    refine ⟨rfl, fun _ => ⟨g, 0, rfl, (Array.getElem?_eq_some_iff.1 hg).1, fun k hk i u hi hu => ?_⟩⟩
    have hki : k * C + i < L.length * C := by
      have : (k + 1) * C ≤ L.length * C := Nat.mul_le_mul_right C hk
      rw [Nat.add_mul] at this
      omega
    have := World.ownsRow.cellAt (w := w) (base := B) (e := e) (size := C) (g := g) (n := L.length) (cap := cap) (xs := L.flatMap cells) h (k * C + i) hki
    rw [show 0 + k * C + i = k * C + i by omega, this, flatR cells C hC L k i hk hi, hu]
end
/-- append of one struct -/
theorem app_row {α : Type} {e sl : TypeId} {C bytes : Nat} (cells : α → List Value) (hC : ∀ x, (cells x).length = C) (hC0 : 0 < C) (hbytes : bytes ≤ 1000) {z : Value} (hinfo : (Tryz.prog.info? e).map (fun i => (i.zero, i.size, i.bytes)) = some (some z, C, bytes)) (hzs : z.cells.size = C) (hsl : Tryz.prog.underlying sl = some (.slice e))
    (h1 : ∀ x, ∀ u ∈ cells x, u.oneCell' = true)
    {w : World} {ops : Array Oper} {rest : List Oper} {o : Oper} {a : Act} {Q : Exit → Act → World → Prop} (hgd : o.guard = none) (s x : Operand)
    (ho : o.op = .call { callee := .builtin .append, args := #[s, x], argTypes := #[sl, sl] })
    (base : Nat) (v : Value) (L : List α) (hs : a.eval s = v) (hown : OwnR e C cells w base v L) (g : Nat) (n : α) (hx : a.eval x = .slice (some ⟨g, 0, none⟩) 1 1) (hr : Blk w g e (cells n).toArray)
    (hlen : L.length + 1 ≤ 2 ^ 30) (hbase : base ≤ w.heap.size)
    (h : ∀ v' w', OwnR e C cells w' base v' (L ++ [n]) → w.grownBy w' v.ownBlock → (v'.ownBlock = v.ownBlock ∨ v'.ownBlock = some w.heap.size) → wpList Tryz.prog ops Q rest (a.put o.dst v') w') : wpList Tryz.prog ops Q (o :: rest) a w := by
  obtain ⟨i0, hi, hz0, hz1, hz2⟩ := info_parts hinfo
  refine wpList_append_any _ hgd s x _ ho base e i0 z C bytes hsl hi hz0 hz1 hz2 hzs hC0 v L.length (L.flatMap cells) hs hown (g + 1) (some ⟨g, 0, none⟩) 1 1 (cells n) hx ?_ (h1 n) (by unfold maxLen; omega) ?_ hbase ?_
  · refine ⟨by rw [hC]; omega, fun _ => ⟨g, 0, rfl, Nat.lt_succ_self _, fun j y hj => ?_⟩⟩
    rw [Nat.zero_add, hr.cell j, ← hj]
    simp
  · calc (L.length + 1) * bytes ≤ 2 ^ 30 * 1000 := Nat.mul_le_mul hlen hbytes
      _ ≤ 140737488355328 := by decide
  · intro v' w' h2 h3 h4
    exact h v' w' (by simpa [OwnR, List.flatMap_append] using h2) h3 h4

/-- append of one struct, as an equation on its run -/
theorem app_row_run {α : Type} {e sl : TypeId} {C bytes : Nat} (cells : α → List Value) (hC : ∀ x, (cells x).length = C) (hC0 : 0 < C) (hbytes : bytes ≤ 1000) {z : Value} (hinfo : (Tryz.prog.info? e).map (fun i => (i.zero, i.size, i.bytes)) = some (some z, C, bytes)) (hzs : z.cells.size = C) (hsl : Tryz.prog.underlying sl = some (.slice e))
    (h1 : ∀ x, ∀ u ∈ cells x, u.oneCell' = true) {w : World} (ty : TypeId) (base : Nat) (v : Value) (L : List α) (hown : OwnR e C cells w base v L) (g : Nat) (n : α) (hr : Blk w g e (cells n).toArray) (hlen : L.length + 1 ≤ 2 ^ 30) (hbase : base ≤ w.heap.size) :
    ∃ v' w', (Builtin.append_ #[sl, sl] ty #[v, .slice (some ⟨g, 0, none⟩) 1 1]).run Tryz.prog w = .ok v' w' ∧ OwnR e C cells w' base v' (L ++ [n]) ∧ w.grownBy w' v.ownBlock ∧ (v'.ownBlock = v.ownBlock ∨ v'.ownBlock = some w.heap.size) := by
  obtain ⟨i0, hi, hz0, hz1, hz2⟩ := info_parts hinfo
  obtain ⟨v', w', h, h2, h3, h4⟩ := run_append_any (P := Tryz.prog) w base sl ty e i0 z C bytes hsl hi hz0 hz1 hz2 hzs hC0 v L.length (L.flatMap cells) hown (g + 1) (some ⟨g, 0, none⟩) 1 1 (cells n)
    ⟨by rw [hC]; omega, fun _ => ⟨g, 0, rfl, Nat.lt_succ_self _, fun j y hj => by rw [Nat.zero_add, hr.cell j, ← hj]; simp⟩⟩ (h1 n) (by unfold maxLen; omega)
    (Nat.le_trans (Nat.mul_le_mul hlen hbytes) (by decide)) hbase
  exact ⟨v', w', h, by simpa [OwnR, List.flatMap_append] using h2, h3, h4⟩

theorem flatLenR {α : Type} (cells : α → List Value) (C : Nat) (hC : ∀ x, (cells x).length = C) (l : List α) : (l.flatMap cells).length = l.length * C := by
  induction l with
  | nil => simp
  | cons c l ih => simp only [List.flatMap_cons, List.length_append, ih, hC, List.length_cons, Nat.add_mul]; omega

end Go.Proofs.YtpfjgecdlilkcaaGreat

/-
  append of rows of structs behind a row that the call made itself.
-/
namespace Go.Proofs.YtpfjgecdlilkcaaGreat
open Go.RowKit

theorem rows_reads {α : Type} {C : Nat} {cells : α → List Value} (hC : ∀ x, (cells x).length = C) (hC0 : 0 < C) {w : World} {B : Nat} {A : Option Addr} {M : List α} (hM : RowsAt C cells w B A M) : Reads w B C A M.length (M.flatMap cells) := by
  refine ⟨flatLenR cells C hC M, fun hp => ?_⟩
  obtain ⟨b, o, e, hb, hc⟩ := hM hp
  refine ⟨b, o, e, hb, fun j u hu => ?_⟩
  have hj : j < M.length * C := by rw [← flatLenR cells C hC M]; exact (List.getElem?_eq_some_iff.1 hu).1
  have hk : j / C < M.length := Nat.div_lt_of_lt_mul (by rw [Nat.mul_comm]; exact hj)
  have hi : j % C < C := Nat.mod_lt _ hC0
  have e1 := flatR cells C hC M (j / C) (j % C) hk hi
  have e2 : j / C * C + j % C = j := by rw [Nat.mul_comm]; exact Nat.div_add_mod j C
  rw [e2, hu] at e1
  have := hc (j / C) hk (j % C) u hi e1.symm
  rw [show o + j / C * C + j % C = o + j by omega] at this
  exact this
theorem app_rows {α : Type} {e sl : TypeId} {C bytes : Nat} (cells : α → List Value) (hC : ∀ x, (cells x).length = C) (hC0 : 0 < C) (hbytes : bytes ≤ 1000) {z : Value} (hinfo : (Tryz.prog.info? e).map (fun i => (i.zero, i.size, i.bytes)) = some (some z, C, bytes)) (hzs : z.cells.size = C) (hsl : Tryz.prog.underlying sl = some (.slice e))
    (h1 : ∀ x, ∀ u ∈ cells x, u.oneCell' = true)
    {w : World} {ops : Array Oper} {rest : List Oper} {o : Oper} {a : Act} {Q : Exit → Act → World → Prop} (hgd : o.guard = none) (s x : Operand)
    (ho : o.op = .call { callee := .builtin .append, args := #[s, x], argTypes := #[sl, sl] })
    (base : Nat) (v : Value) (L : List α) (hs : a.eval s = v) (hown : OwnR e C cells w base v L) (A : Option Addr) (c m : Nat) (M : List α) (hm : m = M.length) (hx : a.eval x = .slice A m c) (hM : RowsAt C cells w w.heap.size A M)
    (hlen : L.length + M.length ≤ 2 ^ 30) (hbase : base ≤ w.heap.size)
    (h : ∀ v' w', OwnR e C cells w' base v' (L ++ M) → w.grownBy w' v.ownBlock → (v'.ownBlock = v.ownBlock ∨ v'.ownBlock = some w.heap.size) → wpList Tryz.prog ops Q rest (a.put o.dst v') w') : wpList Tryz.prog ops Q (o :: rest) a w := by
  subst hm
  obtain ⟨i0, hi, hz0, hz1, hz2⟩ := info_parts hinfo
  refine wpList_append_any _ hgd s x _ ho base e i0 z C bytes hsl hi hz0 hz1 hz2 hzs hC0 v L.length (L.flatMap cells) hs hown w.heap.size A M.length c (M.flatMap cells) hx (rows_reads hC hC0 hM) ?_ (by unfold maxLen; omega) ?_ hbase ?_
  · intro u hu
    obtain ⟨y, _, hy⟩ := List.mem_flatMap.1 hu
    exact h1 y u hy
  · calc (L.length + M.length) * bytes ≤ 2 ^ 30 * 1000 := Nat.mul_le_mul hlen hbytes
      _ ≤ 140737488355328 := by decide
  · intro v' w' h2 h3 h4
    refine h v' w' ?_ h3 h4
    unfold OwnR
    rw [List.length_append, List.flatMap_append]
    exact h2
theorem rows_take {α : Type} {C : Nat} {cells : α → List Value} {w : World} {B : Nat} {A : Option Addr} {M : List α} (hM : RowsAt C cells w B A M) (n : Nat) : RowsAt C cells w B A (M.take n) := by
  intro h0
  rw [List.length_take] at h0
  obtain ⟨b, o, e, hb, hc⟩ := hM (by omega)
  refine ⟨b, o, e, hb, fun k hk i u hi hu => ?_⟩
  rw [List.length_take] at hk
  rw [List.getElem_take] at hu
  exact hc k (by omega) i u hi hu

end Go.Proofs.YtpfjgecdlilkcaaGreat

/-
  Edges, leaves, hops and vertices: their cells, their order, as keys of maps.
-/
namespace Go.Proofs.YtpfjgecdlilkcaaGreat
open Go.RowKit

structure Ed where
  fk : Int
  fi : Int
  tk : Int
  ti : Int
  cost : Int
deriving DecidableEq
structure Lf where
  router : Int
  lan : Int
  cost : Int
deriving DecidableEq
instance : Inhabited Ed := ⟨⟨0, 0, 0, 0, 0⟩⟩
instance : Inhabited Lf := ⟨⟨0, 0, 0⟩⟩

def ltE (a b : Ed) : Prop := a.fk < b.fk ∨ (a.fk = b.fk ∧ (a.fi < b.fi ∨ (a.fi = b.fi ∧ (a.tk < b.tk ∨ (a.tk = b.tk ∧ a.ti < b.ti)))))
def ltF (a b : Lf) : Prop := a.router < b.router ∨ (a.router = b.router ∧ a.lan < b.lan)
theorem sorted_ext {α : Type} {R : α → α → Prop} (irr : ∀ a, ¬ R a a) (asy : ∀ a b, R a b → ¬ R b a) : ∀ {L M : List α}, L.Pairwise R → M.Pairwise R → (∀ e, e ∈ L ↔ e ∈ M) → L = M
  | [], [], _, _, _ => rfl
  | [], b :: M, _, _, h => absurd ((h b).2 (by simp)) (by simp)
  | a :: L, [], _, _, h => absurd ((h a).1 (by simp)) (by simp)
  | a :: L, b :: M, h1, h2, h => by
    rw [List.pairwise_cons] at h1 h2
    have hab : a = b := by
      rcases List.mem_cons.1 ((h a).1 (by simp)) with e | ha
      · exact e
      · rcases List.mem_cons.1 ((h b).2 (by simp)) with e | hb
        · exact e.symm
        · exact absurd (h1.1 b hb) (asy _ _ (h2.1 a ha))
    subst hab
    rw [sorted_ext irr asy h1.2 h2.2 fun e => ?_]
    constructor
    · intro he
      rcases List.mem_cons.1 ((h e).1 (by simp [he])) with rfl | g
      · exact absurd (h1.1 e he) (irr e)
      · exact g
    · intro he
      rcases List.mem_cons.1 ((h e).2 (by simp [he])) with rfl | g
      · exact absurd (h2.1 e he) (irr e)
      · exact g
theorem ltE_irr (a : Ed) : ¬ ltE a a := by unfold ltE; omega
theorem ltE_asy (a b : Ed) : ltE a b → ¬ ltE b a := by unfold ltE; omega
theorem ltF_irr (a : Lf) : ¬ ltF a a := by unfold ltF; omega
theorem ltF_asy (a b : Lf) : ltF a b → ¬ ltF b a := by unfold ltF; omega
def Ed.cells (e : Ed) : List Value := [.int .i64 e.fk, .int .i64 e.fi, .int .i64 e.tk, .int .i64 e.ti, .int .i64 e.cost]
def Lf.cells (e : Lf) : List Value := [.int .i64 e.router, .int .i64 e.lan, .int .i64 e.cost]
theorem onesE (x : Ed) : ∀ u ∈ Ed.cells x, u.oneCell' = true := by
  intro u hu
  simp [Ed.cells] at hu
  rcases hu with rfl | rfl | rfl | rfl | rfl <;> rfl
theorem onesF (x : Lf) : ∀ u ∈ Lf.cells x, u.oneCell' = true := by
  intro u hu
  simp [Lf.cells] at hu
  rcases hu with rfl | rfl | rfl <;> rfl
structure Hp where
  lan : Int
  id : Int
deriving DecidableEq
def Hp.cells (k : Hp) : List Value := [.int .i64 k.lan, .int .i64 k.id]
def Hp.enc (k : Hp) : Value := .agg #[.int .i64 k.lan, .int .i64 k.id]
theorem eqV2_n (n : Nat) (a b a' b' : Int) (w : World) : (Op.equalIn (n + 1 + 1) 61 (.agg #[.int .i64 a, .int .i64 b]) (.agg #[.int .i64 a', .int .i64 b'])).run Tryz.prog w = .ok (a == a' && b == b') w := by
  have hS : Tryz.prog.underlying 61 = some (.struct (Tryz.prog.fieldsOf 61)) := by kernel_rfl
  have hp : Tryz.prog.stoodInHeld 61 = false := by kernel_rfl
  rw [run_equalIn_struct w (n + 1) 61 _ _ hS hp]
  simp only [Program.fieldsOf, Tryz.underlying61]
  go_simp
  by_cases h1 : a = a' <;> by_cases h2 : b = b' <;> simp [h1, h2]
theorem eqHp_n (n : Nat) (a b a' b' : Int) (w : World) : (Op.equalIn (n + 1 + 1) 50 (.agg #[.int .i64 a, .int .i64 b]) (.agg #[.int .i64 a', .int .i64 b'])).run Tryz.prog w = .ok (a == a' && b == b') w := by
  have hS : Tryz.prog.underlying 50 = some (.struct (Tryz.prog.fieldsOf 50)) := by kernel_rfl
  have hp : Tryz.prog.stoodInHeld 50 = false := by kernel_rfl
  rw [run_equalIn_struct w (n + 1) 50 _ _ hS hp]
  simp only [Program.fieldsOf, Tryz.underlying50]
  go_simp
  by_cases h1 : a = a' <;> by_cases h2 : b = b' <;> simp [h1, h2]
theorem eqHp (a b : Hp) (w : World) : (Op.equal 50 a.enc b.enc).run Tryz.prog w = .ok (decide (a = b)) w := by
  obtain ⟨a1, a2⟩ := a
  obtain ⟨b1, b2⟩ := b
  refine (eqHp_n 9998 a1 a2 b1 b2 w).trans ?_
  by_cases h1 : a1 = b1 <;> by_cases h2 : a2 = b2 <;> simp [h1, h2]
theorem checkV2_n (n : Nat) (e : Bool) (a b : Int) (w : World) : (Instr.checkKey e (n + 1 + 1) 61 (.agg #[.int .i64 a, .int .i64 b])).run Tryz.prog w = .ok () w := by
  have hc : ∀ x w, (Instr.checkKey e (n + 1) 3 (.int .i64 x)).run Tryz.prog w = .ok () w := fun x w => checkInt e n x w
  rw [Instr.checkKey]
  simp only [Sem.run_bind, run_underlying Tryz.underlying61, Result.andThen_ok]
  rw [← Array.forIn_toList]
  go_simp
theorem checkHp_n (n : Nat) (e : Bool) (a b : Int) (w : World) : (Instr.checkKey e (n + 1 + 1) 50 (.agg #[.int .i64 a, .int .i64 b])).run Tryz.prog w = .ok () w := by
  have hc : ∀ x w, (Instr.checkKey e (n + 1) 3 (.int .i64 x)).run Tryz.prog w = .ok () w := fun x w => checkInt e n x w
  rw [Instr.checkKey]
  simp only [Sem.run_bind, run_underlying Tryz.underlying50, Result.andThen_ok]
  rw [← Array.forIn_toList]
  go_simp
theorem sameHp (k : Hp) : Instr.sameBits 10000 k.enc k.enc = true := by
  rw [show (10000 : Nat) = 9999 + 1 from rfl, Hp.enc, Instr.sameBits]
  simp only [beq_self_eq_true, Bool.true_and]
  exact sameBits_agg _ _ fun v hv => by
    simp at hv
    rcases hv with rfl | rfl <;> exact sameBits_int _ _
theorem Hp.enc_inj (a b : Hp) (h : a.enc = b.enc) : a = b := by
  obtain ⟨a1, a2⟩ := a
  obtain ⟨b1, b2⟩ := b
  simp [Hp.enc] at h
  simp [h]
theorem keyHp : KeyOk Tryz.prog 50 Hp.enc := KeyOk.of_struct Tryz.underlying50 eqHp (fun e _k w => checkHp_n 9998 e _ _ w) sameHp Hp.enc_inj
def encI (k : Int) : Value := .int .i64 k
theorem findNow_int (k : Int) : ∀ (l : List MapEntry) (L : List (Int × Value)) (i : Nat), entE l = entL encI L → Instr.findNow (.int .i64) (encI k) l i = some (look k L i)
  | [], [], _, _ => rfl
  | [], e :: L, _, h => by simp [entE, entL] at h
  | x :: l, [], _, h => by simp [entE, entL] at h
  | x :: l, e :: L, i, h => by
    simp only [entE, entL, List.map_cons, List.cons.injEq, Prod.mk.injEq] at h
    obtain ⟨⟨h1, h2⟩, h3⟩ := h
    have ih := findNow_int k l L (i + 1) h3
    unfold Instr.findNow look
    rw [h1, h2]
    unfold encI Instr.sameNow at *
    by_cases he : e.1 = k
    · subst he
      simp
    · have he2 : ¬ k = e.1 := fun e => he e.symm
      simp only [if_true, he, if_false]
      have : (k == e.1) = false := by simpa using he2
      rw [this]
      exact ih
theorem keyInt : KeyOk Tryz.prog 3 encI where
  find := fun k l L w h => by
    have hj := findNow_int k l L 0 h
    simp only [Instr.findKey, Sem.run_bind, run_underlying Tryz.underlying3, Result.andThen_ok]
    rw [hj]
    rfl
  check := fun e k w => checkInt e 9999 k w
  same := fun k => sameBits_int _ _
  inj := fun a b h => by unfold encI at h; injection h
theorem getL_set {κ : Type} [DecidableEq κ] (k k' : κ) (v : Value) : ∀ S : List (κ × Value), getL k (setL k' v S) = if k = k' then some v else getL k S
  | [] => by
    unfold setL getL
    by_cases h : k = k'
    · simp [h]
    · simp [h, Ne.symm h, getL]
  | e :: S => by
    have ih := getL_set k k' v S
    unfold setL
    by_cases h1 : e.1 = k'
    · rw [if_pos h1]
      by_cases h2 : k = k'
      · simp [getL, h2]
      · have h3 : ¬ e.1 = k := fun e' => h2 (by rw [← e', h1])
        have h4 : ¬ k' = k := fun e' => h2 e'.symm
        simp [getL, h2, h3, h4]
    · rw [if_neg h1]
      unfold getL
      by_cases h2 : e.1 = k
      · have h3 : ¬ k = k' := fun e' => h1 (by rw [h2, e'])
        simp [h2, h3]
      · simp [h2, ih]

theorem infoE : (Tryz.prog.info? 96).map (fun i => (i.zero, i.size, i.bytes)) = some (some (.agg #[.int .i64 0, .int .i64 0, .int .i64 0, .int .i64 0, .int .i64 0]), 5, 40) := by kernel_rfl
theorem rowsE_of_blk {w : World} {g B : Nat} {t : TypeId} {L : List Ed} (h : Blk w g t (L.flatMap Ed.cells).toArray) (hB : g < B) : RowsAt 5 Ed.cells w B (some ⟨g, 0, none⟩) L := by
  intro _
  refine ⟨g, 0, rfl, hB, fun k hk i u hi hu => ?_⟩
  rw [show 0 + k * 5 + i = k * 5 + i by omega, h.cell, List.getElem?_toArray, flatR Ed.cells 5 (fun _ => rfl) L k i hk hi]
  exact hu
theorem eqE_n (n : Nat) (a b c d e a' b' c' d' e' : Int) (w : World) : (Op.equalIn (n + 1 + 1 + 1) 96 (.agg #[.int .i64 a, .int .i64 b, .int .i64 c, .int .i64 d, .int .i64 e]) (.agg #[.int .i64 a', .int .i64 b', .int .i64 c', .int .i64 d', .int .i64 e'])).run Tryz.prog w = .ok (a == a' && b == b' && c == c' && d == d' && e == e') w := by
  have hS : Tryz.prog.underlying 96 = some (.struct (Tryz.prog.fieldsOf 96)) := by kernel_rfl
  have hp : Tryz.prog.stoodInHeld 96 = false := by kernel_rfl
  rw [run_equalIn_struct w (n + 1 + 1) 96 _ _ hS hp]
  simp only [Program.fieldsOf, Tryz.underlying96]
  have hv := eqV2_n n
  go_simp
  by_cases h1 : a = a' <;> by_cases h2 : b = b' <;> by_cases h3 : c = c' <;> by_cases h4 : d = d' <;> by_cases h5 : e = e' <;> simp [h1, h2, h3, h4, h5]
theorem eqE_same (x : Ed) (w : World) : (Op.equalIn 10000 96 (.agg #[.int .i64 x.fk, .int .i64 x.fi, .int .i64 x.tk, .int .i64 x.ti, .int .i64 x.cost]) (.agg #[.int .i64 x.fk, .int .i64 x.fi, .int .i64 x.tk, .int .i64 x.ti, .int .i64 x.cost])).run Tryz.prog w = .ok true w := by
  refine (eqE_n 9997 _ _ _ _ _ _ _ _ _ _ w).trans ?_
  simp
theorem row_ed {w : World} {B : Nat} {A : Option Addr} {l : List Ed} (h : RowsAt 5 Ed.cells w B A l) (k : Nat) (hk : k < l.length) :
    ∃ b o, A = some ⟨b, o, none⟩ ∧ b < B ∧ w.cell? ⟨b, o + k * 5, none⟩ = some (.int .i64 l[k].fk) ∧ w.cell? ⟨b, o + k * 5 + 1, none⟩ = some (.int .i64 l[k].fi) ∧ w.cell? ⟨b, o + k * 5 + 2, none⟩ = some (.int .i64 l[k].tk) ∧ w.cell? ⟨b, o + k * 5 + 3, none⟩ = some (.int .i64 l[k].ti) ∧ w.cell? ⟨b, o + k * 5 + 4, none⟩ = some (.int .i64 l[k].cost) := by
  obtain ⟨b, o, e, hb, hc⟩ := h (by omega)
  exact ⟨b, o, e, hb, by simpa using hc k hk 0 _ (by omega) rfl, hc k hk 1 _ (by omega) rfl, hc k hk 2 _ (by omega) rfl, hc k hk 3 _ (by omega) rfl, hc k hk 4 _ (by omega) rfl⟩
theorem row_lf {w : World} {B : Nat} {A : Option Addr} {l : List Lf} (h : RowsAt 3 Lf.cells w B A l) (k : Nat) (hk : k < l.length) :
    ∃ b o, A = some ⟨b, o, none⟩ ∧ b < B ∧ w.cell? ⟨b, o + k * 3, none⟩ = some (.int .i64 l[k].router) ∧ w.cell? ⟨b, o + k * 3 + 1, none⟩ = some (.int .i64 l[k].lan) ∧ w.cell? ⟨b, o + k * 3 + 2, none⟩ = some (.int .i64 l[k].cost) := by
  obtain ⟨b, o, e, hb, hc⟩ := h (by omega)
  exact ⟨b, o, e, hb, by simpa using hc k hk 0 _ (by omega) rfl, hc k hk 1 _ (by omega) rfl, hc k hk 2 _ (by omega) rfl⟩

/-- a vertex -/
structure Vx where
  kind : Int
  id : Int
deriving DecidableEq
def Vx.enc (v : Vx) : Value := .agg #[.int .i64 v.kind, .int .i64 v.id]
theorem eqVx (a b : Vx) (w : World) : (Op.equal 61 a.enc b.enc).run Tryz.prog w = .ok (decide (a = b)) w := by
  obtain ⟨a1, a2⟩ := a
  obtain ⟨b1, b2⟩ := b
  refine (eqV2_n 9998 a1 a2 b1 b2 w).trans ?_
  by_cases h1 : a1 = b1 <;> by_cases h2 : a2 = b2 <;> simp [h1, h2]
theorem eqVxN (a b a' b' : Int) (w : World) : (Op.equalIn 10000 61 (.agg #[.int .i64 a, .int .i64 b]) (.agg #[.int .i64 a', .int .i64 b'])).run Tryz.prog w = .ok (decide ((⟨a, b⟩ : Vx) = ⟨a', b'⟩)) w := eqVx ⟨a, b⟩ ⟨a', b'⟩ w
theorem eqHpN (a b a' b' : Int) (w : World) : (Op.equalIn 10000 50 (.agg #[.int .i64 a, .int .i64 b]) (.agg #[.int .i64 a', .int .i64 b'])).run Tryz.prog w = .ok (decide ((⟨a, b⟩ : Hp) = ⟨a', b'⟩)) w := eqHp ⟨a, b⟩ ⟨a', b'⟩ w
theorem sameVx (k : Vx) : Instr.sameBits 10000 k.enc k.enc = true := by
  rw [show (10000 : Nat) = 9999 + 1 from rfl, Vx.enc, Instr.sameBits]
  simp only [beq_self_eq_true, Bool.true_and]
  exact sameBits_agg _ _ fun v hv => by
    simp at hv
    rcases hv with rfl | rfl <;> exact sameBits_int _ _
theorem Vx.enc_inj (a b : Vx) (h : a.enc = b.enc) : a = b := by
  obtain ⟨a1, a2⟩ := a
  obtain ⟨b1, b2⟩ := b
  simp [Vx.enc] at h
  simp [h]
theorem keyVx : KeyOk Tryz.prog 61 Vx.enc := KeyOk.of_struct Tryz.underlying61 eqVx (fun e _k w => checkV2_n 9998 e _ _ w) sameVx Vx.enc_inj

end Go.Proofs.YtpfjgecdlilkcaaGreat

/-
  Layer 21 in plain words: the least values of all that is reached; the first hops.
-/
namespace Go.Proofs.YtpfjgecdlilkcaaGreat

/-- what it costs, over how few networks -/
structure Val2 where
  c : Nat
  h : Nat
deriving DecidableEq
def Ed.src (e : Ed) : Vx := ⟨e.fk, e.fi⟩
def Ed.dst (e : Ed) : Vx := ⟨e.tk, e.ti⟩
def mayV (v : Vx) : Bool := (decide (v.kind = 1) && decide (1 ≤ v.id ∧ v.id ≤ 15)) || (decide (v.kind = 2) && decide (0 ≤ v.id ∧ v.id ≤ 63))
def cntE (e : Ed) : Bool := mayV e.src && mayV e.dst && ((decide (e.fk = 1) && decide (e.tk = 2) && decide (1 ≤ e.cost ∧ e.cost ≤ 100)) || (decide (e.fk = 2) && decide (e.tk = 1) && decide (e.cost = 0)))
theorem mayV_iff {v : Vx} : mayV v = true ↔ (v.kind = 1 ∧ 1 ≤ v.id ∧ v.id ≤ 15) ∨ (v.kind = 2 ∧ 0 ≤ v.id ∧ v.id ≤ 63) := by simp [mayV]
theorem cntE_iff {e : Ed} : cntE e = true ↔ mayV e.src = true ∧ mayV e.dst = true ∧ ((e.fk = 1 ∧ e.tk = 2 ∧ 1 ≤ e.cost ∧ e.cost ≤ 100) ∨ (e.fk = 2 ∧ e.tk = 1 ∧ e.cost = 0)) := by
  simp [cntE, and_assoc]
def leV (a b : Val2) : Prop := a.c < b.c ∨ (a.c = b.c ∧ a.h ≤ b.h)
theorem leV_refl (a : Val2) : leV a a := .inr ⟨rfl, Nat.le_refl _⟩
theorem leV_trans {a b c : Val2} (h : leV a b) (g : leV b c) : leV a c := by unfold leV at *; omega
theorem leV_anti {a b : Val2} (h : leV a b) (g : leV b a) : a = b := by
  obtain ⟨a1, a2⟩ := a
  obtain ⟨b1, b2⟩ := b
  unfold leV at *
  simp only at h g
  have h1 : a1 = b1 := by omega
  have h2 : a2 = b2 := by omega
  rw [h1, h2]
theorem leV_total (a b : Val2) : leV a b ∨ leV b a := by unfold leV; omega
def hopN (e : Ed) : Nat := if e.tk = 2 then 1 else 0
def stepV (a : Val2) (e : Ed) : Val2 := ⟨a.c + e.cost.toNat, a.h + hopN e⟩
theorem stepV_mono {a b : Val2} (h : leV a b) (e : Ed) : leV (stepV a e) (stepV b e) := by unfold leV stepV at *; simp only; omega
/-- the order in which they are looked at -/
def rankV (v : Vx) (a : Val2) : Nat := 2 * a.c + (if v.kind = 1 then 1 else 0)
theorem rank_step {e : Ed} (h : cntE e = true) (a : Val2) : rankV e.src a < rankV e.dst (stepV a e) := by
  obtain ⟨-, -, h⟩ := cntE_iff.1 h
  unfold rankV stepV Ed.src Ed.dst
  simp only
  rcases h with ⟨h1, h2, h3, h4⟩ | ⟨h1, h2, h3⟩
  · rw [if_pos h1, if_neg (by omega)]; omega
  · rw [if_neg (by omega), if_pos h2]; omega

/-- a table of the least values -/
structure IsDist (E : List Ed) (r : Vx) (D : Vx → Option Val2) : Prop where
  root : D r = some ⟨0, 0⟩
  closed : ∀ e ∈ E, cntE e = true → ∀ a, D e.src = some a → ∃ b, D e.dst = some b ∧ leV b (stepV a e)
  tight : ∀ v a, D v = some a → v = r ∨ ∃ e ∈ E, cntE e = true ∧ e.dst = v ∧ ∃ b, D e.src = some b ∧ a = stepV b e
section
variable {E : List Ed} {r : Vx} {D D' : Vx → Option Val2}
/-- by the order of ranks -/
theorem IsDist.induct (h : IsDist E r D) {P : Vx → Val2 → Prop} (h0 : P r ⟨0, 0⟩) (hs : ∀ e ∈ E, cntE e = true → ∀ b, D e.src = some b → D e.dst = some (stepV b e) → P e.src b → P e.dst (stepV b e)) : ∀ v a, D v = some a → P v a := by
  have key : ∀ n v a, rankV v a = n → D v = some a → P v a := by
    intro n
    induction n using Nat.strongRecOn with
    | ind n ih =>
      intro v a hn hv
      rcases h.tight v a hv with rfl | ⟨e, he, hc, rfl, b, hb, rfl⟩
      · rw [h.root] at hv
        cases hv
        exact h0
      · exact hs e he hc b hb hv (ih _ (by rw [← hn]; exact rank_step hc b) _ _ rfl hb)
  exact fun v a => key _ v a rfl
/-- all of them that are had within E' are had as cheap -/
theorem IsDist.le {E' : List Ed} (h : IsDist E r D) (h' : IsDist E' r D') (hE : ∀ e ∈ E, cntE e = true → e ∈ E') : ∀ v a, D v = some a → ∃ b, D' v = some b ∧ leV b a := by
  refine h.induct (P := fun v a => ∃ b, D' v = some b ∧ leV b a) ⟨_, h'.root, leV_refl _⟩ ?_
  rintro e he hc b - - ⟨b', hb', hle⟩
  obtain ⟨c, hc2, hle2⟩ := h'.closed e (hE e he hc) hc b' hb'
  exact ⟨c, hc2, leV_trans hle2 (stepV_mono hle e)⟩
theorem IsDist.unique {E' : List Ed} (h : IsDist E r D) (h' : IsDist E' r D') (hE : ∀ e, cntE e = true → (e ∈ E ↔ e ∈ E')) : D = D' := by
  have g : ∀ (E E' : List Ed) (D D' : Vx → Option Val2), IsDist E r D → IsDist E' r D' → (∀ e, cntE e = true → (e ∈ E ↔ e ∈ E')) → ∀ v a, D v = some a → D' v = some a := by
    intro E E' D D' h h' hE v a hv
    obtain ⟨b, hb, hle⟩ := h.le h' (fun e he hc => (hE e hc).1 he) v a hv
    obtain ⟨c, hc, hle2⟩ := h'.le h (fun e he hc => (hE e hc).2 he) v b hb
    rw [hv] at hc
    cases hc
    rw [hb, leV_anti hle hle2]
  funext v
  cases hv : D v with
  | some a => rw [g E E' D D' h h' hE v a hv]
  | none =>
    cases hv' : D' v with
    | none => rfl
    | some a => rw [g E' E D' D h' h (fun e hc => (hE e hc).symm) v a hv'] at hv; cases hv
/-- ways -/
inductive Way (E : List Ed) (r : Vx) : Vx → Val2 → Prop
  | here : Way E r r ⟨0, 0⟩
  | more {e : Ed} {a : Val2} : e ∈ E → cntE e = true → Way E r e.src a → Way E r e.dst (stepV a e)
theorem least_val (P : Val2 → Prop) (h : ∃ a, P a) : ∃ a, P a ∧ ∀ b, P b → leV a b := by
  have g1 : ∀ n, (∃ a, P a ∧ a.c = n) → ∃ a, P a ∧ ∀ b, P b → a.c ≤ b.c := by
    intro n
    induction n using Nat.strongRecOn with
    | ind n ih =>
      rintro ⟨a, ha, rfl⟩
      by_cases hb : ∃ b, P b ∧ b.c < a.c
      · obtain ⟨b, hb, hlt⟩ := hb
        exact ih _ hlt ⟨b, hb, rfl⟩
      · exact ⟨a, ha, fun b hp => Nat.not_lt.1 fun hlt => hb ⟨b, hp, hlt⟩⟩
  obtain ⟨a0, ha0⟩ := h
  obtain ⟨a1, ha1, hmin⟩ := g1 _ ⟨a0, ha0, rfl⟩
  have g2 : ∀ n, (∃ a, P a ∧ a.c = a1.c ∧ a.h = n) → ∃ a, P a ∧ a.c = a1.c ∧ ∀ b, P b → b.c = a1.c → a.h ≤ b.h := by
    intro n
    induction n using Nat.strongRecOn with
    | ind n ih =>
      rintro ⟨a, ha, hac, rfl⟩
      by_cases hb : ∃ b, P b ∧ b.c = a1.c ∧ b.h < a.h
      · obtain ⟨b, hb, hbc, hlt⟩ := hb
        exact ih _ hlt ⟨b, hb, hbc, rfl⟩
      · exact ⟨a, ha, hac, fun b hp hbc => Nat.not_lt.1 fun hlt => hb ⟨b, hp, hbc, hlt⟩⟩
  obtain ⟨a2, ha2, hac, hmin2⟩ := g2 _ ⟨a1, ha1, rfl, rfl⟩
  refine ⟨a2, ha2, fun b hb => ?_⟩
  have h1 := hmin b hb
  have h2 := hmin2 b hb
  unfold leV
  omega
theorem dist_is (E : List Ed) (r : Vx) : ∃ D, IsDist E r D := by
  have hex : ∀ v, ∃ o : Option Val2, (∀ a, o = some a → Way E r v a ∧ ∀ b, Way E r v b → leV a b) ∧ (o = none → ∀ b, ¬ Way E r v b) := by
    intro v
    by_cases h : ∃ a, Way E r v a
    · obtain ⟨a, ha, hm⟩ := least_val _ h
      exact ⟨some a, fun a' e => (by cases e; exact ⟨ha, hm⟩), fun e => (by cases e)⟩
    · exact ⟨none, fun a e => (by cases e), fun _ b hb => h ⟨b, hb⟩⟩
  obtain ⟨D, hD⟩ := Classical.axiomOfChoice hex
  have hw : ∀ v b, Way E r v b → ∃ a, D v = some a ∧ leV a b := by
    intro v b hb
    cases h : D v with
    | none => exact absurd hb ((hD v).2 h b)
    | some a => exact ⟨a, rfl, ((hD v).1 a h).2 b hb⟩
  refine ⟨D, ?_, ?_, ?_⟩
  · obtain ⟨a, ha, hle⟩ := hw r _ .here
    rw [ha]
    congr 1
    refine leV_anti hle ?_
    unfold leV
    simp only
    omega
  · intro e he hc a ha
    exact hw _ _ (.more he hc ((hD _).1 a ha).1)
  · intro v a ha
    have hway := ((hD v).1 a ha).1
    have hmin := ((hD v).1 a ha).2
    cases hway with
    | here => exact .inl rfl
    | @more e b he hc hb =>
      obtain ⟨b', hb', hle⟩ := hw _ _ hb
      refine .inr ⟨e, he, hc, rfl, b', hb', ?_⟩
      exact leV_anti (hmin _ (.more he hc ((hD _).1 b' hb').1)) (stepV_mono hle e)
theorem IsDist.may (h : IsDist E r D) (hr : mayV r = true) : ∀ v a, D v = some a → mayV v = true :=
  h.induct (P := fun v _ => mayV v = true) hr fun _ _ hc _ _ _ _ => (cntE_iff.1 hc).2.1
/-- what is not the root costs something, and lies over a network -/
theorem IsDist.pos (h : IsDist E r D) (hr : r.kind = 1) : ∀ v a, D v = some a → (v = r ∧ a = ⟨0, 0⟩) ∨ (v ≠ r ∧ 1 ≤ a.c ∧ 1 ≤ a.h) := by
  intro v a hv
  have := h.induct (P := fun v a => (v = r ∧ a = ⟨0, 0⟩) ∨ (1 ≤ a.c ∧ 1 ≤ a.h)) (.inl ⟨rfl, rfl⟩) (fun e _ hc b _ _ hP => by
    right
    obtain ⟨-, -, hk⟩ := cntE_iff.1 hc
    unfold stepV hopN
    simp only
    rcases hk with ⟨h1, h2, h3, h4⟩ | ⟨h1, h2, h3⟩
    · rw [if_pos h2]; omega
    · rcases hP with ⟨e1, -⟩ | ⟨g1, g2⟩
      · exfalso
        have : e.fk = r.kind := by rw [← e1]; rfl
        omega
      · rw [if_neg (by omega)]; omega) v a hv
  rcases this with g | g
  · exact .inl g
  · by_cases hvr : v = r
    · subst hvr
      rw [h.root] at hv
      cases hv
      exact .inl ⟨rfl, rfl⟩
    · exact .inr ⟨hvr, g⟩
end

def isHop (E : List Ed) (DD : Vx → Vx → Option Val2) (r v : Vx) (h : Hp) : Prop :=
  ∃ e ∈ E, cntE e = true ∧ e.src = r ∧ ∃ a, DD r v = some a ∧
    ((e.dst = v ∧ a.c = e.cost.toNat ∧ h = ⟨e.ti / 16, 0⟩) ∨
     ∃ f ∈ E, cntE f = true ∧ f.src = e.dst ∧ ∃ b, DD f.dst v = some b ∧ e.cost.toNat + b.c = a.c ∧ h = ⟨e.ti / 16, f.ti⟩)
def extH (r : Vx) (e : Ed) (L : List Hp) : List Hp := if e.src = r then [⟨e.ti / 16, 0⟩] else L.map fun h => if h.id = 0 then ⟨h.lan, e.ti⟩ else h
/-- what the hops of each are by those ahead of it -/
structure IsNext (E : List Ed) (r : Vx) (D : Vx → Option Val2) (N : Vx → List Hp) : Prop where
  root : N r = []
  each : ∀ v a, D v = some a → v ≠ r → ∀ h, h ∈ N v ↔ ∃ e ∈ E, cntE e = true ∧ e.dst = v ∧ ∃ b, D e.src = some b ∧ a.c = b.c + e.cost.toNat ∧ h ∈ extH r e (N e.src)
section
variable {E : List Ed} {r : Vx} {DD : Vx → Vx → Option Val2} {N : Vx → List Hp}
theorem dist_join (hD : ∀ r, IsDist E r (DD r)) {v x : Vx} {a b : Val2} (ha : DD r v = some a) (hb : DD v x = some b) : ∃ c, DD r x = some c ∧ c.c ≤ a.c + b.c := by
  refine (hD v).induct (P := fun x b => ∃ c, DD r x = some c ∧ c.c ≤ a.c + b.c) ⟨a, ha, by simp⟩ ?_ x b hb
  rintro e he hc b' - - ⟨c, hc2, hle⟩
  obtain ⟨d, hd, hle2⟩ := (hD r).closed e he hc c hc2
  refine ⟨d, hd, ?_⟩
  unfold leV stepV at hle2
  unfold stepV
  simp only at hle2 ⊢
  omega
theorem hops_iff (hD : ∀ r, IsDist E r (DD r)) (hr : r.kind = 1) (hN : IsNext E r (DD r) N) : ∀ v a, DD r v = some a → ∀ h, h ∈ N v ↔ isHop E DD r v h := by
  have key : ∀ n v a, rankV v a = n → DD r v = some a → ∀ h, h ∈ N v ↔ isHop E DD r v h := by
    intro n
    induction n using Nat.strongRecOn with
    | ind n ih =>
      intro v a hn hv h
      by_cases hvr : v = r
      · subst hvr
        rw [hN.root]
        simp only [List.not_mem_nil, false_iff]
        rintro ⟨e, he, hc, hs, a', ha', hh⟩
        rw [(hD v).root] at ha'
        cases ha'
        obtain ⟨-, -, hk⟩ := cntE_iff.1 hc
        have hsk : e.fk = v.kind := by rw [← hs]; rfl
        rcases hh with ⟨-, h2, -⟩ | ⟨f, hf, hfc, hfs, b, hb, h2, -⟩
        · simp only at h2; omega
        · simp only at h2; omega
      rw [hN.each v a hv hvr h]
      constructor
      · rintro ⟨e, he, hc, rfl, b, hb, hab, hm⟩
        have hlt : rankV e.src b < rankV e.dst a := by
          have := rank_step hc b
          unfold rankV stepV at this
          unfold rankV
          simp only at this
          omega
        unfold extH at hm
        by_cases hs : e.src = r
        · rw [if_pos hs, List.mem_singleton] at hm
          refine ⟨e, he, hc, hs, a, hv, .inl ⟨rfl, ?_, hm⟩⟩
          rw [hs, (hD r).root] at hb
          cases hb
          simpa using hab
        · rw [if_neg hs, List.mem_map] at hm
          obtain ⟨g, hg, rfl⟩ := hm
          obtain ⟨e1, he1, hc1, hs1, b', hb', hh⟩ := (ih _ (by rw [← hn]; exact hlt) _ _ rfl hb g).1 hg
          rw [hb] at hb'
          cases hb'
          rcases hh with ⟨h1, h2, h3⟩ | ⟨f, hf, hfc, hfs, c, hcc, h2, h3⟩
          · rw [h3]
            simp only [if_true]
            obtain ⟨-, hm1, hk1⟩ := cntE_iff.1 hc1
            obtain ⟨-, -, hk⟩ := cntE_iff.1 hc
            have hk3 : e.fk = e1.tk := by
              have := congrArg Vx.kind h1
              exact this.symm
            refine ⟨e1, he1, hc1, hs1, a, hv, .inr ⟨e, he, hc, h1.symm, ⟨0, 0⟩, (hD _).root, ?_, rfl⟩⟩
            have hkr : e1.fk = r.kind := by rw [← hs1]; rfl
            simp only
            omega
          · obtain ⟨-, hfm, hfk⟩ := cntE_iff.1 hfc
            have hfid : f.ti ≠ 0 := by
              have hs1k : e1.fk = r.kind := by rw [← hs1]; rfl
              have hfsk : f.fk = e1.tk := congrArg Vx.kind hfs
              obtain ⟨-, -, hk1⟩ := cntE_iff.1 hc1
              rcases mayV_iff.1 hfm with ⟨-, q1, q2⟩ | ⟨q0, -, -⟩
              · have : f.dst.id = f.ti := rfl
                omega
              · have : f.dst.kind = f.tk := rfl
                omega
            rw [h3]
            simp only [hfid, if_false]
            obtain ⟨d, hd, hle⟩ := (hD f.dst).closed e he hc c hcc
            obtain ⟨e1b, he1b, hle1⟩ := (hD r).closed e1 he1 hc1 ⟨0, 0⟩ (by rw [hs1]; exact (hD r).root)
            obtain ⟨e2b, he2b, hle2⟩ := (hD r).closed f hf hfc e1b (by rw [hfs]; exact he1b)
            obtain ⟨x, hx, hle3⟩ := dist_join hD he2b hd
            rw [hv] at hx
            cases hx
            refine ⟨e1, he1, hc1, hs1, a, hv, .inr ⟨f, hf, hfc, hfs, d, hd, ?_, rfl⟩⟩
            obtain ⟨-, -, hfk⟩ := cntE_iff.1 hfc
            have hs1k : e1.fk = r.kind := by rw [← hs1]; rfl
            have hfsk : f.fk = e1.tk := congrArg Vx.kind hfs
            obtain ⟨-, -, hk1⟩ := cntE_iff.1 hc1
            unfold leV stepV at hle hle1 hle2
            simp only at hle hle1 hle2 hab h2
            omega
      · rintro ⟨e1, he1, hc1, hs1, a', ha', hh⟩
        rw [hv] at ha'
        cases ha'
        have hs1k : e1.fk = r.kind := by rw [← hs1]; rfl
        obtain ⟨-, -, hk1⟩ := cntE_iff.1 hc1
        rcases hh with ⟨h1, h2, h3⟩ | ⟨f, hf, hfc, hfs, c, hcc, h2, h3⟩
        · refine ⟨e1, he1, hc1, h1, ⟨0, 0⟩, by rw [hs1]; exact (hD r).root, by simpa using h2, ?_⟩
          unfold extH
          rw [if_pos hs1, List.mem_singleton]
          exact h3
        · have hfsk : f.fk = e1.tk := congrArg Vx.kind hfs
          obtain ⟨-, hfm, hfk⟩ := cntE_iff.1 hfc
          have hfid : f.ti ≠ 0 := by
            rcases mayV_iff.1 hfm with ⟨-, q1, q2⟩ | ⟨q0, -, -⟩
            · have : f.dst.id = f.ti := rfl
              omega
            · have : f.dst.kind = f.tk := rfl
              omega
          obtain ⟨n1, hn1, hle1⟩ := (hD r).closed e1 he1 hc1 ⟨0, 0⟩ (by rw [hs1]; exact (hD r).root)
          obtain ⟨n2, hn2, hle2⟩ := (hD r).closed f hf hfc n1 (by rw [hfs]; exact hn1)
          rcases (hD f.dst).tight v c hcc with hvf | ⟨e, he, hc, rfl, b, hb, rfl⟩
          · subst hvf
            rw [(hD f.dst).root] at hcc
            cases hcc
            rw [hv] at hn2
            cases hn2
            unfold leV stepV at hle1 hle2
            simp only at hle1 hle2 h2
            have hne : ¬ f.src = r := fun e => by
              have := congrArg Vx.kind e
              have h4 : f.src.kind = f.fk := rfl
              omega
            refine ⟨f, hf, hfc, rfl, n1, by rw [hfs]; exact hn1, by omega, ?_⟩
            unfold extH
            rw [if_neg hne, List.mem_map]
            refine ⟨⟨e1.ti / 16, 0⟩, ?_, by simp [h3]⟩
            have hlt : rankV f.src n1 < n := by
              rw [← hn]
              have := rank_step hfc n1
              unfold rankV stepV at this
              unfold rankV
              simp only at this
              omega
            refine (ih _ hlt f.src n1 rfl (by rw [hfs]; exact hn1) _).2 ?_
            refine ⟨e1, he1, hc1, hs1, n1, by rw [hfs]; exact hn1, .inl ⟨hfs.symm, ?_, rfl⟩⟩
            omega
          · obtain ⟨u, hu, hle3⟩ := dist_join hD hn2 hb
            obtain ⟨v', hv', hle4⟩ := (hD r).closed e he hc u hu
            rw [hv] at hv'
            cases hv'
            obtain ⟨-, -, hk⟩ := cntE_iff.1 hc
            unfold leV stepV at hle1 hle2 hle4
            unfold stepV at h2
            simp only at hle1 hle2 hle4 h2
            have hne : ¬ e.src = r := fun e' => by
              rw [e', (hD r).root] at hu
              cases hu
              simp only at hle3 hle4
              omega
            have hlt : rankV e.src u < n := by
              rw [← hn]
              have := rank_step hc u
              unfold rankV stepV at this
              unfold rankV
              simp only at this
              omega
            refine ⟨e, he, hc, rfl, u, hu, by omega, ?_⟩
            unfold extH
            rw [if_neg hne, List.mem_map]
            refine ⟨h, ?_, ?_⟩
            · exact (ih _ hlt _ _ rfl hu h).2 ⟨e1, he1, hc1, hs1, u, hu, .inr ⟨f, hf, hfc, hfs, b, hb, by omega, h3⟩⟩
            · rw [h3]; simp [hfid]
  exact fun v a => key _ v a rfl
end

end Go.Proofs.YtpfjgecdlilkcaaGreat

/-
  Layer 21 in plain words: costs that are made less till none can be are the least ones.
-/
namespace Go.Proofs.YtpfjgecdlilkcaaGreat

/-- an address in an order; every vertex that may be -/
def allV : List Vx := (List.range 15).map (fun i => ⟨1, (i : Int) + 1⟩) ++ (List.range 64).map (fun i => ⟨2, (i : Int)⟩)
theorem allV_len : allV.length = 79 := by simp [allV]
theorem mem_allV {v : Vx} (h : mayV v = true) : v ∈ allV := by
  obtain ⟨k, i⟩ := v
  unfold allV
  rw [List.mem_append, List.mem_map, List.mem_map]
  rcases mayV_iff.1 h with ⟨h1, h2, h3⟩ | ⟨h1, h2, h3⟩
  · simp only at h1 h2 h3
    refine .inl ⟨i.toNat - 1, List.mem_range.2 (by omega), ?_⟩
    rw [h1]
    congr 1
    omega
  · simp only at h1 h2 h3
    refine .inr ⟨i.toNat, List.mem_range.2 (by omega), ?_⟩
    rw [h1]
    congr 1
    omega
theorem nodup_len {α : Type} [DecidableEq α] : ∀ (l m : List α), l.Nodup → (∀ x ∈ l, x ∈ m) → l.length ≤ m.length
  | [], _, _, _ => Nat.zero_le _
  | x :: l, m, hn, hs => by
    rw [List.nodup_cons] at hn
    have hx := hs x (by simp)
    have ih := nodup_len l (m.erase x) hn.2 fun y hy => (List.mem_erase_of_ne (fun e : y = x => hn.1 (by rw [← e]; exact hy))).2 (hs y (by simp [hy]))
    rw [List.length_erase_of_mem hx] at ih
    have := List.length_pos_of_mem hx
    rw [List.length_cons]
    omega
theorem may_len {l : List Vx} (hn : l.Nodup) (h : ∀ v ∈ l, mayV v = true) : l.length ≤ 79 := by
  have := nodup_len l allV hn fun v hv => mem_allV (h v hv)
  rwa [allV_len] at this

abbrev RowV := Vx × Val2
def ixV (v : Vx) (L : List RowV) : Nat := L.findIdx fun p => decide (p.1 = v)
def getR (L : List RowV) (v : Vx) : Option Val2 := (L[ixV v L]?).map (·.2)
def lessV (a b : Val2) : Bool := decide (a.c < b.c) || (decide (a.c = b.c) && decide (a.h < b.h))
theorem lessV_iff {a b : Val2} : lessV a b = true ↔ ¬ leV b a := by simp only [lessV, leV, Bool.or_eq_true, Bool.and_eq_true, decide_eq_true_eq]; omega
def relax (L : List RowV) (e : Ed) : List RowV :=
  if cntE e = true then
    match getR L e.src with
    | none => L
    | some a => match getR L e.dst with
      | none => L ++ [(e.dst, stepV a e)]
      | some b => if lessV (stepV a e) b = true then L.set (ixV e.dst L) (e.dst, stepV a e) else L
  else L
def roundR (E : List Ed) (L : List RowV) : List RowV := E.foldl relax L
def iterR (E : List Ed) : Nat → List RowV → List RowV
  | 0, L => L
  | n + 1, L => iterR E n (roundR E L)
theorem iterR_succ (E : List Ed) : ∀ (n : Nat) (L : List RowV), iterR E (n + 1) L = roundR E (iterR E n L)
  | 0, _ => rfl
  | n + 1, L => by rw [iterR, iterR_succ E n, iterR]
theorem iterR_fix {E : List Ed} {L : List RowV} (h : roundR E L = L) : ∀ n, iterR E n L = L
  | 0 => rfl
  | n + 1 => by rw [iterR, h, iterR_fix h n]
theorem iterR_stop {E : List Ed} {L : List RowV} {k : Nat} (hk : k ≤ 200) (h : roundR E (iterR E k L) = iterR E k L) : iterR E 200 L = iterR E k L := by
  have add : ∀ m n (M : List RowV), iterR E (m + n) M = iterR E n (iterR E m M) := by
    intro m
    induction m with
    | zero => intro n M; rw [Nat.zero_add, iterR]
    | succ m ih => intro n M; rw [Nat.succ_add, iterR, ih, iterR]
  have := add k (200 - k) L
  rw [show k + (200 - k) = 200 by omega] at this
  rw [this, iterR_fix h]
theorem relax_snoc (E : List Ed) {k : Nat} (hk : k < E.length) (L : List RowV) : roundR (E.take (k + 1)) L = relax (roundR (E.take k) L) E[k] := by
  unfold roundR
  rw [List.take_succ_eq_append_getElem hk, List.foldl_append]
  rfl

theorem ix_lt {L : List RowV} {v : Vx} {a : Val2} (h : getR L v = some a) : ∃ hi : ixV v L < L.length, L[ixV v L]'hi = (v, a) := by
  unfold getR at h
  obtain ⟨p, hp, rfl⟩ := Option.map_eq_some_iff.1 h
  obtain ⟨hi, hp⟩ := List.getElem?_eq_some_iff.1 hp
  refine ⟨hi, ?_⟩
  have := List.findIdx_getElem (p := fun p : RowV => decide (p.1 = v)) (xs := L) (w := hi)
  unfold ixV at hp ⊢
  rw [hp] at this ⊢
  rw [decide_eq_true_eq] at this
  rw [← this]
theorem get_none {L : List RowV} {v : Vx} : getR L v = none ↔ ∀ p ∈ L, p.1 ≠ v := by
  unfold getR ixV
  rw [Option.map_eq_none_iff, List.getElem?_eq_none_iff]
  have h1 := List.findIdx_le_length (p := fun p : RowV => decide (p.1 = v)) (xs := L)
  constructor
  · intro h p hp e
    have := List.findIdx_lt_length_of_exists (p := fun p : RowV => decide (p.1 = v)) (xs := L) ⟨p, hp, by simp [e]⟩
    omega
  · intro h
    have := (List.findIdx_eq_length (p := fun p : RowV => decide (p.1 = v)) (xs := L)).2 fun p hp => by simp [h p hp]
    omega
theorem getR_cons (p : RowV) (L : List RowV) (v : Vx) : getR (p :: L) v = if p.1 = v then some p.2 else getR L v := by
  unfold getR ixV
  rw [List.findIdx_cons]
  by_cases h : p.1 = v
  · simp [h]
  · simp [h]
theorem getR_snoc (x : Vx) (b : Val2) (v : Vx) : ∀ L : List RowV, getR L x = none → getR (L ++ [(x, b)]) v = if x = v then some b else getR L v
  | [], _ => by rw [List.nil_append, getR_cons]
  | p :: L, h => by
    rw [getR_cons] at h
    by_cases hp : p.1 = x
    · rw [if_pos hp] at h; cases h
    · rw [if_neg hp] at h
      rw [List.cons_append, getR_cons, getR_cons, getR_snoc x b v L h]
      by_cases h1 : p.1 = v
      · rw [if_pos h1, if_pos h1, if_neg]
        intro e
        exact hp (by rw [h1, e])
      · rw [if_neg h1, if_neg h1]
theorem getR_set (x : Vx) (b : Val2) (v : Vx) : ∀ L : List RowV, getR L x ≠ none → getR (L.set (ixV x L) (x, b)) v = if x = v then some b else getR L v
  | [], h => absurd rfl h
  | p :: L, h => by
    rw [getR_cons] at h
    unfold ixV
    rw [List.findIdx_cons]
    by_cases hp : p.1 = x
    · simp only [hp, decide_true, cond_true, List.set_cons_zero]
      rw [getR_cons, getR_cons]
      by_cases h1 : x = v
      · rw [if_pos h1, if_pos h1]
      · have h2 : ¬ p.1 = v := fun e => h1 (by rw [← hp, e])
        simp [h1, h2]
    · rw [if_neg hp] at h
      simp only [hp, decide_false, cond_false, List.set_cons_succ]
      rw [getR_cons, getR_cons]
      have ih := getR_set x b v L h
      unfold ixV at ih
      by_cases h1 : p.1 = v
      · rw [if_pos h1, if_pos h1, if_neg]
        intro e
        exact hp (by rw [h1, e])
      · rw [if_neg h1, if_neg h1, ih]
theorem keys_set (x : Vx) (b : Val2) (L : List RowV) (h : getR L x ≠ none) : (L.set (ixV x L) (x, b)).map (·.1) = L.map (·.1) := by
  cases hg : getR L x with
  | none => exact absurd hg h
  | some a =>
    obtain ⟨hi, e⟩ := ix_lt hg
    refine List.ext_getElem (by simp) fun n h1 h2 => ?_
    simp only [List.getElem_map, List.getElem_set]
    split
    · rename_i hn
      subst hn
      rw [e]
    · rfl
/-- what one edge does -/
theorem relax_get (L : List RowV) (e : Ed) (v : Vx) : getR (relax L e) v = if cntE e = true then (match getR L e.src with
    | none => getR L v
    | some a => if e.dst = v then (match getR L e.dst with | none => some (stepV a e) | some b => if lessV (stepV a e) b = true then some (stepV a e) else some b) else getR L v) else getR L v := by
  unfold relax
  split
  · cases h1 : getR L e.src with
    | none => rfl
    | some a =>
      simp only
      cases h2 : getR L e.dst with
      | none => simp only; rw [getR_snoc _ _ _ _ h2]
      | some b =>
        simp only
        split
        · rw [getR_set _ _ _ _ (by rw [h2]; simp)]
        · split
          · rename_i h3
            rw [← h3, h2]
          · rfl
  · rfl
structure RowsOk (E : List Ed) (r : Vx) (L : List RowV) : Prop where
  keys : (L.map (·.1)).Nodup
  may : ∀ p ∈ L, mayV p.1 = true
theorem RowsOk.start (E : List Ed) {r : Vx} (hr : mayV r = true) : RowsOk E r [(r, ⟨0, 0⟩)] := ⟨by simp, by simpa using hr⟩
theorem RowsOk.relax {E : List Ed} {r : Vx} {L : List RowV} (h : RowsOk E r L) (e : Ed) : RowsOk E r (relax L e) := by
  unfold Go.Proofs.YtpfjgecdlilkcaaGreat.relax
  split
  · rename_i hc
    cases h1 : getR L e.src with
    | none => exact h
    | some a =>
      simp only
      cases h2 : getR L e.dst with
      | none =>
        simp only
        refine ⟨?_, fun p hp => ?_⟩
        · rw [List.map_append, List.map_singleton, List.nodup_append]
          refine ⟨h.keys, by simp, fun x hx y hy => ?_⟩
          obtain ⟨p, hp, rfl⟩ := List.mem_map.1 hx
          rw [List.mem_singleton] at hy
          rw [hy]
          exact get_none.1 h2 p hp
        · rcases List.mem_append.1 hp with hp | hp
          · exact h.may p hp
          · rw [List.mem_singleton] at hp
            rw [hp]
            exact (cntE_iff.1 hc).2.1
      | some b =>
        simp only
        split
        · have hk := keys_set e.dst (stepV a e) L (by rw [h2]; simp)
          refine ⟨by rw [hk]; exact h.keys, fun p hp => ?_⟩
          have : p.1 ∈ L.map (·.1) := by rw [← hk]; exact List.mem_map_of_mem hp
          obtain ⟨q, hq, he⟩ := List.mem_map.1 this
          rw [← he]
          exact h.may q hq
        · exact h
  · exact h
theorem RowsOk.len {E : List Ed} {r : Vx} {L : List RowV} (h : RowsOk E r L) : L.length ≤ 79 := by
  have := may_len h.keys fun v hv => by
    obtain ⟨p, hp, rfl⟩ := List.mem_map.1 hv
    exact h.may p hp
  rwa [List.length_map] at this
theorem RowsOk.round {E : List Ed} {r : Vx} : ∀ (T : List Ed) {L : List RowV}, RowsOk E r L → RowsOk E r (roundR T L)
  | [], _, h => h
  | e :: T, _, h => RowsOk.round T (h.relax e)
theorem RowsOk.iter {E : List Ed} {r : Vx} : ∀ (n : Nat) {L : List RowV}, RowsOk E r L → RowsOk E r (iterR E n L)
  | 0, _, h => h
  | n + 1, _, h => RowsOk.iter n (h.round E)

section
variable {E : List Ed} {r : Vx} {D : Vx → Option Val2}
def SoundR (D : Vx → Option Val2) (L : List RowV) : Prop := ∀ v b, getR L v = some b → ∃ a, D v = some a ∧ leV a b
theorem SoundR.start (h : IsDist E r D) : SoundR D [(r, ⟨0, 0⟩)] := by
  intro v b hb
  rw [getR_cons] at hb
  split at hb
  · rename_i e
    cases hb
    exact ⟨_, by rw [← e]; exact h.root, leV_refl _⟩
  · cases hb
theorem SoundR.relax (h : IsDist E r D) {L : List RowV} (hs : SoundR D L) {e : Ed} (he : e ∈ E) : SoundR D (relax L e) := by
  intro v b hb
  rw [relax_get] at hb
  split at hb
  · rename_i hc
    cases h1 : getR L e.src with
    | none => rw [h1] at hb; exact hs v b hb
    | some a =>
      rw [h1] at hb
      simp only at hb
      split at hb
      · rename_i hv
        subst hv
        obtain ⟨a', ha', hle⟩ := hs _ _ h1
        obtain ⟨c, hc2, hle2⟩ := h.closed e he hc a' ha'
        have hst : ∃ x, D e.dst = some x ∧ leV x (stepV a e) := ⟨c, hc2, leV_trans hle2 (stepV_mono hle e)⟩
        cases h2 : getR L e.dst with
        | none => rw [h2] at hb; simp only at hb; cases hb; exact hst
        | some d =>
          rw [h2] at hb
          simp only at hb
          split at hb
          · cases hb; exact hst
          · cases hb; exact hs _ _ h2
      · exact hs v b hb
  · exact hs v b hb
/-- it is as it will be -/
def ExactR (D : Vx → Option Val2) (L : List RowV) (v : Vx) : Prop := ∃ a, D v = some a ∧ getR L v = some a
theorem relax_le (L : List RowV) (e : Ed) {v : Vx} {b : Val2} (h : getR L v = some b) : ∃ b', getR (relax L e) v = some b' ∧ leV b' b := by
  rw [relax_get]
  split
  · cases h1 : getR L e.src with
    | none => exact ⟨b, h, leV_refl _⟩
    | some a =>
      simp only
      split
      · rename_i hv
        subst hv
        rw [h]
        simp only
        split
        · rename_i hl
          refine ⟨_, rfl, ?_⟩
          have := lessV_iff.1 hl
          rcases leV_total (stepV a e) b with g | g
          · exact g
          · exact absurd g this
        · exact ⟨_, rfl, leV_refl _⟩
      · exact ⟨b, h, leV_refl _⟩
  · exact ⟨b, h, leV_refl _⟩
theorem ExactR.relax (h : IsDist E r D) {L : List RowV} (hs : SoundR D L) {e : Ed} (he : e ∈ E) {v : Vx} (hx : ExactR D L v) : ExactR D (relax L e) v := by
  obtain ⟨a, ha, hg⟩ := hx
  obtain ⟨b, hb, hle⟩ := relax_le L e hg
  obtain ⟨a', ha', hle2⟩ := (hs.relax h he) v b hb
  rw [ha] at ha'
  cases ha'
  rw [leV_anti hle hle2] at hb
  exact ⟨a, ha, hb⟩
theorem exact_over {L : List RowV} (hs : SoundR D L) {e : Ed} (hc : cntE e = true) {b : Val2} (hb : D e.src = some b) (hd : D e.dst = some (stepV b e)) (hx : ExactR D L e.src) : ExactR D (relax L e) e.dst := by
  obtain ⟨a, ha, hg⟩ := hx
  rw [hb] at ha
  cases ha
  refine ⟨_, hd, ?_⟩
  rw [relax_get, if_pos hc, hg]
  simp only [if_true]
  cases h2 : getR L e.dst with
  | none => rfl
  | some c =>
    simp only
    split
    · rfl
    · rename_i hl
      obtain ⟨x, hx, hle⟩ := hs _ _ h2
      rw [hd] at hx
      cases hx
      have : leV c (stepV b e) := by
        by_cases g : leV c (stepV b e)
        · exact g
        · exact absurd (lessV_iff.2 g) hl
      rw [leV_anti hle this]
theorem round_keep (h : IsDist E r D) : ∀ (T : List Ed) {L : List RowV}, (∀ e ∈ T, e ∈ E) → SoundR D L → SoundR D (roundR T L) ∧ ∀ v, ExactR D L v → ExactR D (roundR T L) v
  | [], _, _, hs => ⟨hs, fun _ hx => hx⟩
  | e :: T, L, hT, hs => by
    have he := hT e (by simp)
    obtain ⟨h1, h2⟩ := round_keep h T (fun x hx => hT x (by simp [hx])) (hs.relax h he)
    exact ⟨h1, fun v hx => h2 v (hx.relax h hs he)⟩
/-- it is had over so many edges -/
def ReachV (E : List Ed) (r : Vx) (D : Vx → Option Val2) : Nat → Vx → Prop
  | 0, v => v = r
  | k + 1, v => ∃ e ∈ E, cntE e = true ∧ e.dst = v ∧ ∃ b, D e.src = some b ∧ D e.dst = some (stepV b e) ∧ ReachV E r D k e.src
theorem round_reach (h : IsDist E r D) {L : List RowV} (hs : SoundR D L) {k : Nat} (hx : ∀ v, ReachV E r D k v → ExactR D L v) : ∀ v, ReachV E r D (k + 1) v → ExactR D (roundR E L) v := by
  rintro v ⟨e, he, hc, rfl, b, hb, hd, hre⟩
  obtain ⟨P, Q, hPQ⟩ := List.append_of_mem he
  have hr : roundR E L = roundR Q (relax (roundR P L) e) := by
    conv => lhs; rw [hPQ]
    unfold roundR
    rw [List.foldl_append, List.foldl_cons]
  rw [hr]
  have hP : ∀ x ∈ P, x ∈ E := fun x hx => by rw [hPQ]; simp [hx]
  have hQ : ∀ x ∈ Q, x ∈ E := fun x hx => by rw [hPQ]; simp [hx]
  obtain ⟨s1, k1⟩ := round_keep h P hP hs
  have x1 := k1 _ (hx _ hre)
  exact (round_keep h Q hQ (s1.relax h he)).2 _ (exact_over s1 hc hb hd x1)
theorem iter_reach (h : IsDist E r D) : ∀ n, SoundR D (iterR E n [(r, ⟨0, 0⟩)]) ∧ ∀ k, k ≤ n → ∀ v, ReachV E r D k v → ExactR D (iterR E n [(r, ⟨0, 0⟩)]) v
  | 0 => ⟨SoundR.start h, fun k hk v hv => by
    have : k = 0 := by omega
    subst this
    rw [show v = r from hv]
    exact ⟨_, h.root, by rw [iterR, getR_cons, if_pos rfl]⟩⟩
  | n + 1 => by
    obtain ⟨s1, x1⟩ := iter_reach h n
    rw [iterR_succ]
    obtain ⟨s2, k2⟩ := round_keep h E (fun _ h => h) s1
    refine ⟨s2, fun k hk v hv => ?_⟩
    by_cases hkn : k ≤ n
    · exact k2 v (x1 k hkn v hv)
    · have : k = n + 1 := by omega
      subst this
      exact round_reach h s1 (x1 n (Nat.le_refl _)) v hv
theorem reach_few (h : IsDist E r D) : ∀ v a, D v = some a → ∃ k, k ≤ 79 ∧ ReachV E r D k v := by
  have := h.induct (P := fun v a => ∃ l : List Vx, l.Nodup ∧ (∀ x ∈ l, mayV x = true ∧ ∃ b, D x = some b ∧ rankV x b < rankV v a) ∧ ReachV E r D l.length v) ⟨[], by simp, by simp, rfl⟩ (by
    rintro e he hc b hb hd ⟨l, hn, hl, hre⟩
    refine ⟨e.src :: l, ?_, ?_, ?_⟩
    · rw [List.nodup_cons]
      refine ⟨fun hm => ?_, hn⟩
      obtain ⟨-, b', hb', hlt⟩ := hl _ hm
      rw [hb] at hb'
      cases hb'
      omega
    · intro x hx
      have hstep := rank_step hc b
      rcases List.mem_cons.1 hx with rfl | hx
      · exact ⟨(cntE_iff.1 hc).1, b, hb, hstep⟩
      · obtain ⟨h1, b', hb', hlt⟩ := hl x hx
        exact ⟨h1, b', hb', by omega⟩
    · exact ⟨e, he, hc, rfl, b, hb, hd, hre⟩)
  intro v a hv
  obtain ⟨l, hn, hl, hre⟩ := this v a hv
  exact ⟨l.length, may_len hn fun x hx => (hl x hx).1, hre⟩
/-- the document's costs are the least ones -/
theorem costs_dist (h : IsDist E r D) (v : Vx) : getR (iterR E 200 [(r, ⟨0, 0⟩)]) v = D v := by
  obtain ⟨hs, hx⟩ := iter_reach h 200
  cases hv : D v with
  | some a =>
    obtain ⟨k, hk, hre⟩ := reach_few h v a hv
    obtain ⟨a', ha', hg⟩ := hx k (by omega) v hre
    rw [hv] at ha'
    rw [hg, ← ha']
  | none =>
    cases hg : getR (iterR E 200 [(r, ⟨0, 0⟩)]) v with
    | none => rfl
    | some b =>
      obtain ⟨a, ha, -⟩ := hs v b hg
      rw [hv] at ha
      cases ha
end

end Go.Proofs.YtpfjgecdlilkcaaGreat
