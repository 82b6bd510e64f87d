/-
  Keys put in, one behind the other, in order, each once: plain words.
-/
import Derived.Laws.CopyRow
import Derived.Test.YtpnbibokddhheaaGreatBaa
import Derived.Test.YtpnbibokddhheaaGreatBab
import Derived.Test.YtpnbibokddhheaaGreatBac
import Derived.Test.YtpnbibokddhheaaGreatBaj
namespace Go.Proofs.YtpnbibokddhheaaGreat

def addKy (k : K3) : List K3 → List K3
  | [] => [k]
  | x :: L => if x = k then x :: L else if lessK k x = true then k :: x :: L else x :: addKy k L
def goneL (ks : List K3) : List K3 := ks.foldl (fun L k => addKy k L) []
def StrictK (L : List K3) : Prop := L.Pairwise fun x y => lessK x y = true
theorem addKy_mem {k x : K3} : ∀ {L : List K3}, x ∈ addKy k L ↔ x = k ∨ x ∈ L
  | [] => by simp [addKy]
  | y :: L => by
    unfold addKy
    by_cases h : y = k
    · subst h; simp
    · rw [if_neg h]
      by_cases h2 : lessK k y = true
      · rw [if_pos h2]; simp
      · rw [if_neg h2, List.mem_cons, List.mem_cons, addKy_mem (L := L)]
        constructor
        · rintro (h | h | h)
          · exact .inr (.inl h)
          · exact .inl h
          · exact .inr (.inr h)
        · rintro (h | h | h)
          · exact .inr (.inl h)
          · exact .inl h
          · exact .inr (.inr h)
theorem addKy_len (k : K3) : ∀ L : List K3, (addKy k L).length ≤ L.length + 1
  | [] => by simp [addKy]
  | y :: L => by
    unfold addKy
    split
    · simp
    · split
      · simp
      · have := addKy_len k L; simp; omega
theorem addKy_strict {k : K3} : ∀ {L : List K3}, StrictK L → StrictK (addKy k L)
  | [], _ => List.pairwise_singleton _ _
  | y :: L, h => by
    obtain ⟨h1, h2⟩ := List.pairwise_cons.1 h
    unfold addKy
    by_cases he : y = k
    · rw [if_pos he]; exact h
    · rw [if_neg he]
      by_cases hl : lessK k y = true
      · rw [if_pos hl]
        refine List.pairwise_cons.2 ⟨fun z hz => ?_, h⟩
        rcases List.mem_cons.1 hz with rfl | hz
        · exact hl
        · exact lessK_trans hl (h1 z hz)
      · rw [if_neg hl]
        refine List.pairwise_cons.2 ⟨fun z hz => ?_, addKy_strict h2⟩
        rcases addKy_mem.1 hz with rfl | hz
        · cases h3 : lessK y z with
          | true => rfl
          | false => exact absurd (lessK_tot h3 (by simpa using hl)) he
        · exact h1 z hz
theorem fold_mem : ∀ (ks L : List K3) (x : K3), x ∈ ks.foldl (fun L k => addKy k L) L ↔ x ∈ ks ∨ x ∈ L
  | [], L, x => by simp
  | k :: ks, L, x => by
    rw [List.foldl_cons, fold_mem ks, addKy_mem, List.mem_cons]
    constructor
    · rintro (h | h | h)
      · exact .inl (.inr h)
      · exact .inl (.inl h)
      · exact .inr h
    · rintro ((h | h) | h)
      · exact .inr (.inl h)
      · exact .inl h
      · exact .inr (.inr h)
theorem fold_strict : ∀ (ks L : List K3), StrictK L → StrictK (ks.foldl (fun L k => addKy k L) L)
  | [], _, h => h
  | _ :: ks, _, h => fold_strict ks _ (addKy_strict h)
theorem fold_len : ∀ (ks L : List K3), (ks.foldl (fun L k => addKy k L) L).length ≤ L.length + ks.length
  | [], L => by simp
  | k :: ks, L => by
    rw [List.foldl_cons]
    have := fold_len ks (addKy k L)
    have := addKy_len k L
    simp
    omega
theorem strict_one : ∀ {L M : List K3}, StrictK L → StrictK M → (∀ x, x ∈ L ↔ x ∈ M) → L = M
  | [], [], _, _, _ => rfl
  | [], y :: M, _, _, h => by have := (h y).2 (by simp); cases this
  | x :: L, [], _, _, h => by have := (h x).1 (by simp); cases this
  | x :: L, y :: M, h1, h2, h => by
    obtain ⟨a1, a2⟩ := List.pairwise_cons.1 h1
    obtain ⟨b1, b2⟩ := List.pairwise_cons.1 h2
    have hxy : x = y := by
      rcases List.mem_cons.1 ((h x).1 (by simp)) with e | e
      · exact e
      · rcases List.mem_cons.1 ((h y).2 (by simp)) with g | g
        · exact g.symm
        · have := lessK_trans (a1 y g) (b1 x e)
          rw [lessK_irr] at this
          cases this
    subst hxy
    rw [strict_one a2 b2 fun z => ?_]
    constructor
    · intro hz
      rcases List.mem_cons.1 ((h z).1 (List.mem_cons_of_mem _ hz)) with rfl | e
      · have := a1 z hz; rw [lessK_irr] at this; cases this
      · exact e
    · intro hz
      rcases List.mem_cons.1 ((h z).2 (List.mem_cons_of_mem _ hz)) with rfl | e
      · have := b1 z hz; rw [lessK_irr] at this; cases this
      · exact e
theorem goneL_is (ks : List K3) : cptL (sortK ks) = goneL ks := by
  refine strict_one ?_ (fold_strict ks [] List.Pairwise.nil) fun x => ?_
  · refine cptN_sorted (R := fun x y => lessK x y = true) (fun a b => ?_) (fun _ _ _ => lessK_trans) ?_ _ (Nat.le_refl _)
    · cases h1 : lessK a b with
      | true => exact .inl rfl
      | false =>
        cases h2 : lessK b a with
        | true => exact .inr (.inr rfl)
        | false => exact .inr (.inl (lessK_tot h1 h2))
    · exact (sortK_sorted ks).imp fun h => by rw [h]; decide
  · rw [cptL_mem, (sortK_perm ks).mem_iff]
    unfold goneL
    rw [fold_mem]
    simp
theorem goneL_of {ks N : List K3} (hp : N.Perm ks) (hs : N.Pairwise fun x y => lessK y x = false) : cptL N = goneL ks := by
  rw [← goneL_is, sorted_one (hp.trans (sortK_perm ks).symm) hs (sortK_sorted ks)]
theorem goneL_more (ks : List K3) (k : K3) : goneL (ks ++ [k]) = addKy k (goneL ks) := by
  unfold goneL
  rw [List.foldl_append]
  rfl
theorem goneL_len (ks : List K3) : (goneL ks).length ≤ ks.length := by
  have := fold_len ks []
  unfold goneL
  simp at this
  omega
/-- of keys without repeats none goes -/
theorem addKy_new {k : K3} : ∀ {L : List K3}, k ∉ L → (addKy k L).length = L.length + 1
  | [], _ => rfl
  | y :: L, h => by
    unfold addKy
    rw [if_neg (fun e => h (by rw [e]; simp))]
    split
    · simp
    · rw [List.length_cons, addKy_new (fun e => h (List.mem_cons_of_mem _ e)), List.length_cons]
theorem fold_new : ∀ (ks L : List K3), ks.Nodup → (∀ x ∈ ks, x ∉ L) → (ks.foldl (fun L k => addKy k L) L).length = L.length + ks.length
  | [], L, _, _ => by simp
  | k :: ks, L, hn, h => by
    rw [List.nodup_cons] at hn
    rw [List.foldl_cons, fold_new ks (addKy k L) hn.2 fun x hx hm => ?_, addKy_new (h k (by simp)), List.length_cons]
    · omega
    · rcases addKy_mem.1 hm with rfl | hm
      · exact hn.1 hx
      · exact h x (List.mem_cons_of_mem _ hx) hm
theorem goneL_new {ks : List K3} (h : ks.Nodup) : (goneL ks).length = ks.length := by
  have := fold_new ks [] h (fun _ _ => by simp)
  simpa [goneL] using this
/-- behind a part P of a row: whether k was put in, or met; what was put -/
def InAt (k : K3) (P : List K3) (d : Bool) (N : List K3) : Prop := (d = false ∧ N = P ∧ ∀ x ∈ P, x ≠ k ∧ lessK k x = false) ∨ (d = true ∧ ∀ S, addKy k (P ++ S) = N ++ S)
theorem addKy_app {k : K3} {S : List K3} : ∀ {P : List K3}, (∀ x ∈ P, x ≠ k ∧ lessK k x = false) → addKy k (P ++ S) = P ++ addKy k S
  | [], _ => rfl
  | x :: P, h => by
    have := h x (by simp)
    rw [List.cons_append, addKy, if_neg this.1, if_neg (by rw [this.2]; decide), addKy_app fun y hy => h y (List.mem_cons_of_mem _ hy)]
    rfl
theorem InAt.start (k : K3) : InAt k [] false [] := .inl ⟨rfl, rfl, by simp⟩
theorem InAt.on {k x : K3} {P N : List K3} (h : InAt k P true N) : InAt k (P ++ [x]) true (N ++ [x]) := by
  rcases h with ⟨h, -⟩ | ⟨-, h⟩
  · cases h
  · exact .inr ⟨rfl, fun S => by simpa using h ([x] ++ S)⟩
theorem InAt.met {k : K3} {P N : List K3} (h : InAt k P false N) : InAt k (P ++ [k]) true (N ++ [k]) := by
  rcases h with ⟨-, rfl, h⟩ | ⟨h, -⟩
  · refine .inr ⟨rfl, fun S => ?_⟩
    rw [List.append_assoc, addKy_app h]
    simp [addKy]
  · cases h
theorem InAt.put {k x : K3} {P N : List K3} (h : InAt k P false N) (hne : x ≠ k) (hl : lessK k x = true) : InAt k (P ++ [x]) true ((N ++ [k]) ++ [x]) := by
  rcases h with ⟨-, rfl, h⟩ | ⟨h, -⟩
  · refine .inr ⟨rfl, fun S => ?_⟩
    rw [List.append_assoc, addKy_app h]
    simp [addKy, hne, hl]
  · cases h
theorem InAt.past {k x : K3} {P N : List K3} (h : InAt k P false N) (hne : x ≠ k) (hl : lessK k x = false) : InAt k (P ++ [x]) false (N ++ [x]) := by
  rcases h with ⟨-, rfl, h⟩ | ⟨h, -⟩
  · refine .inl ⟨rfl, rfl, fun y hy => ?_⟩
    rcases List.mem_append.1 hy with hy | hy
    · exact h y hy
    · rw [List.mem_singleton] at hy
      subst hy
      exact ⟨hne, hl⟩
  · cases h
theorem InAt.ends {k : K3} {P N : List K3} {d : Bool} (h : InAt k P d N) : addKy k P = if d = true then N else N ++ [k] := by
  rcases h with ⟨rfl, rfl, h⟩ | ⟨rfl, h⟩
  · have := addKy_app (S := []) h
    simpa [addKy] using this
  · simpa using h []

end Go.Proofs.YtpnbibokddhheaaGreat

/-
  clear of the end of a row of structs that the call made itself, whatever the struct; the row is cut there.
-/
namespace Go.Proofs.YtpnbibokddhheaaGreat
open Go.RowKit

theorem setRow_grown (w : World) (g : Nat) (cs : Array Value) : w.grownBy (w.setRow g cs) (some g) := by
  refine ⟨rfl, rfl, rfl, by simp, fun k hk hne => ?_⟩
  unfold World.setRow
  simp only
  have : g ≠ k := fun e => hne (by rw [e])
  simp [Array.getElem?_modify, this]
theorem zeroCells_one {z : Value} (h : ∀ u ∈ z.cells, u.oneCell' = true) (n : Nat) : ∀ u ∈ (Builtin.zeroCells z.cells n).toList, u.oneCell' = true := by
  intro u hu
  unfold Builtin.zeroCells at hu
  rw [Array.toList_map, List.mem_map] at hu
  obtain ⟨i, hi, rfl⟩ := hu
  by_cases h0 : z.cells.size = 0
  · simp [h0] at hi
  · have hlt : i % z.cells.size < z.cells.size := Nat.mod_lt _ (by omega)
    rw [getElem!_pos z.cells _ hlt]
    exact h _ (Array.getElem_mem hlt)
section
variable {α : Type} {e : TypeId} {C : Nat} {cells : α → List Value} {w : World} {B g cap n : Nat} {L : List α}
theorem flat_take (hC : ∀ x, (cells x).length = C) : ∀ (L : List α) (k : Nat), (L.take k).flatMap cells = (L.flatMap cells).take (k * C)
  | [], k => by simp
  | c :: L, 0 => by simp
  | c :: L, k + 1 => by
    rw [List.take_succ_cons, List.flatMap_cons, List.flatMap_cons, flat_take hC L k, List.take_append, hC]
    rw [show (k + 1) * C - C = k * C by rw [Nat.add_mul]; omega, List.take_of_length_le (l := cells c) (by rw [hC, Nat.add_mul]; omega)]
theorem OwnR.cut (hC : ∀ x, (cells x).length = C) (h : OwnR e C cells w B (.slice (some ⟨g, 0, none⟩) n cap) L) (hn : n = L.length) (k : Nat) (hk : k ≤ n) : OwnR e C cells w B (.slice (some ⟨g, 0, none⟩) k cap) (L.take k) := by
  subst hn
  have hl : (L.take k).length = k := by rw [List.length_take]; omega
  unfold OwnR
  rw [hl]
  rcases h.2 with ⟨hv, -⟩ | ⟨g', cap', cur, hv, hb, hg, hnc, hcm, hcs, ht⟩
  · cases hv
  · simp only [Value.slice.injEq, Option.some.injEq, Addr.mk.injEq, and_true, true_and] at hv
    obtain ⟨rfl, rfl⟩ := hv
    refine ⟨by rw [flatLenR cells C hC, hl], .inr ⟨g, cap, cur, rfl, hb, hg, by omega, hcm, hcs, ?_⟩⟩
    rw [flat_take hC, ← ht, List.take_take, Nat.min_eq_left (Nat.mul_le_mul_right C hk)]
theorem OwnR.clear_run (hC : ∀ x, (cells x).length = C) {sl : TypeId} (hsl : Tryz.prog.underlying sl = some (.slice e)) {z : Value} (hz : ∀ w, (zeroValue e).run Tryz.prog w = .ok z w) (hzc : z.cells.size = C) (hz1 : ∀ u ∈ z.cells, u.oneCell' = true)
    (h : OwnR e C cells w B (.slice (some ⟨g, 0, none⟩) n cap) L) (hn : n = L.length) (k : Nat) (hk : k ≤ n) (m c : Nat) (hm : k + m ≤ n) (ty : TypeId) :
    ∃ w', (Builtin.clear_ #[sl] ty #[.slice (some ⟨g, k * C, none⟩) m c]).run Tryz.prog w = .ok (.tuple #[]) w' ∧ OwnR e C cells w' B (.slice (some ⟨g, 0, none⟩) k cap) (L.take k) ∧ w.grownBy w' (some g) := by
  rcases Nat.eq_zero_or_pos m with rfl | hm0
  · refine ⟨w, ?_, h.cut hC hn k hk, rfl, rfl, rfl, Nat.le_refl _, fun _ _ _ => rfl⟩
    simp [Builtin.clear_, run_underlying hsl]
  · subst hn
    have hl : (L.take k).length = k := by rw [List.length_take]; omega
    rcases h.2 with ⟨hv, -⟩ | ⟨g', cap', cur, hv, hb, hg, hnc, hcm, hcs, ht⟩
    · cases hv
    · simp only [Value.slice.injEq, Option.some.injEq, Addr.mk.injEq, and_true, true_and] at hv
      obtain ⟨rfl, rfl⟩ := hv
      have hzl : (Builtin.zeroCells z.cells m).toList.length = m * C := by
        rw [Array.length_toList]
        unfold Builtin.zeroCells
        simp [hzc]
      have hle : k * C + m * C ≤ cur.size := by
        rw [hcs, ← Nat.add_mul]
        exact Nat.mul_le_mul_right C (by omega)
      have hst := run_storeCells_at (P := Tryz.prog) g (k * C) e (Builtin.zeroCells z.cells m).toList 0 cur w hg (by rw [hzl]; omega) (zeroCells_one hz1 m)
      simp only [Nat.add_zero] at hst
      refine ⟨w.setRow g (cur.toList.take (k * C) ++ (Builtin.zeroCells z.cells m).toList ++ cur.toList.drop (k * C + (Builtin.zeroCells z.cells m).toList.length)).toArray, ?_, ?_, setRow_grown w g _⟩
      · obtain ⟨m, rfl⟩ : ∃ j, m = j + 1 := ⟨m - 1, by omega⟩
        simp [Builtin.clear_, run_underlying hsl, hz, hst]
      · unfold OwnR
        rw [hl]
        refine ⟨by rw [flatLenR cells C hC, hl], .inr ⟨g, cap, _, rfl, hb, setRow_heap w g cur _ e (0, 0) hg, by omega, hcm, ?_, ?_⟩⟩
        · simp only [List.size_toArray, List.length_append, List.length_take, List.length_drop, Array.length_toList]
          rw [Array.length_toList] at hzl
          omega
        · rw [flat_take hC, ← ht]
          simp only
          have hkn := Nat.mul_le_mul_right C hk
          have e1 : ∀ X : List Value, (cur.toList.take (k * C) ++ X).take (k * C) = (cur.toList.take (L.length * C)).take (k * C) := by
            intro X
            rw [List.take_append_of_le_length (by rw [List.length_take, Array.length_toList]; omega), List.take_take, List.take_take, Nat.min_self, Nat.min_eq_left hkn]
          rw [List.append_assoc]
          exact e1 _
variable {ops : Array Oper} {Q : Exit → Act → World → Prop} {o : Oper} {rest : List Oper} {a : Act}
theorem wpList_clear_row (hC : ∀ x, (cells x).length = C) {sl : TypeId} (hsl : Tryz.prog.underlying sl = some (.slice e)) {z : Value} (hz : ∀ w, (zeroValue e).run Tryz.prog w = .ok z w) (hzc : z.cells.size = C) (hz1 : ∀ u ∈ z.cells, u.oneCell' = true)
    (hgd : o.guard = none) (s : Operand) (ho : o.op = .call { callee := .builtin .clear, args := #[s], argTypes := #[sl] })
    (h : OwnR e C cells w B (.slice (some ⟨g, 0, none⟩) n cap) L) (hn : n = L.length) (k : Nat) (hk : k ≤ n) (m c off : Nat) (hoff : off = k * C) (hm : k + m ≤ n) (hs : a.eval s = .slice (some ⟨g, off, none⟩) m c)
    (hK : ∀ w', OwnR e C cells w' B (.slice (some ⟨g, 0, none⟩) k cap) (L.take k) → w.grownBy w' (some g) → wpList Tryz.prog ops Q rest (a.put o.dst (.tuple #[])) w') : wpList Tryz.prog ops Q (o :: rest) a w := by
  subst hoff
  refine wpList_plain hgd fun K' hK' => ?_
  obtain ⟨w', hrun, h1, h2⟩ := h.clear_run hC hsl hz hzc hz1 hn k hk m c hm o.type
  unfold Oper.wp
  simp [execOp, ho, resolve, invoke, builtin, hs, hrun, Result.andThen]
  exact hK' _ _ (hK w' h1 h2)
end

theorem OwnR.froz {α : Type} {e : TypeId} {C : Nat} {cells : α → List Value} {w : World} {B g n cap : Nat} {l : List α} (h : OwnR e C cells w B (.slice (some ⟨g, 0, none⟩) n cap) l) (i : Nat) : w.frozen? ⟨g, i, none⟩ = false := by
  rcases h.2 with ⟨hv, -⟩ | ⟨g', cap', cur, hv, -, hb, -⟩
  · cases hv
  · simp only [Value.slice.injEq, Option.some.injEq, Addr.mk.injEq, and_true] at hv
    obtain ⟨rfl, -, -⟩ := hv
    simp [World.frozen?, hb]
theorem OwnR.first {α : Type} {e : TypeId} {C : Nat} {cells : α → List Value} {w : World} {B n cap : Nat} {A : Option Addr} {l : List α} (h : OwnR e C cells w B (.slice A n cap) l) (hl : 0 < l.length) : ∃ g, A = some ⟨g, 0, none⟩ := by
  rcases h.2 with ⟨hv, h0⟩ | ⟨g, cap', cur, hv, -⟩
  · omega
  · injection hv with hA
    exact ⟨g, hA⟩
theorem OwnR.far {α : Type} {e : TypeId} {C : Nat} {cells : α → List Value} {w : World} {B : Nat} {v : Value} {L : List α} (h : OwnR e C cells w B v L) {p : Addr} (hp : v.ownBlock ≠ some p.block) (u : Value) : OwnR e C cells (w.setCell p u) B v L :=
  h.kept (row := some p.block) ⟨rfl, rfl, rfl, by simp, fun k _ hne => Below.heap_setCell w p u k (fun e => hne (by rw [e]))⟩ (.inr hp)

/-- a row that was laid just now -/
theorem OwnR.lit {α : Type} {e : TypeId} {C : Nat} {cells : α → List Value} (hC : ∀ x, (cells x).length = C) {w : World} {g B n : Nat} {L : List α} (h : Blk w g e (L.flatMap cells).toArray) (hB : B ≤ g) (hn : n = L.length) (h0 : 0 < n) (hm : n ≤ maxLen) : OwnR e C cells w B (.slice (some ⟨g, 0, none⟩) n n) L := by
  subst hn
  refine ⟨flatLenR cells C hC L, .inr ⟨g, _, _, rfl, hB, h, Nat.le_refl _, hm, ?_, ?_⟩⟩
  · rw [List.size_toArray, flatLenR cells C hC L]
  · exact List.take_of_length_le (by rw [flatLenR cells C hC L]; exact Nat.le_refl _)

end Go.Proofs.YtpnbibokddhheaaGreat

/-
  slices.Compact at keys: each once, of those that stand side by side.
-/
namespace Go.Proofs.YtpnbibokddhheaaGreat
open Go.RowKit

theorem zeroK (w : World) : (zeroValue 69).run Tryz.prog w = .ok (.agg #[.int .i64 0, .int .i64 0, .int .i64 0]) w := by kernel_rfl
abbrev OwnKy (w : World) (B : Nat) (v : Value) (l : List K3) : Prop := OwnR 69 3 K3.cells w B v l
theorem set_flatK (l : List K3) (k : Nat) (c : K3) (hk : k < l.length) :
    (l.set k c).flatMap K3.cells = (((l.flatMap K3.cells).set (k * 3) (.int .i64 c.kind)).set (k * 3 + 1) (.int .i64 c.id)).set (k * 3 + 2) (.int .i64 c.adv) := by
  induction l generalizing k with
  | nil => simp at hk
  | cons d l ih =>
    cases k with
    | zero => simp [K3.cells]
    | succ k =>
      have h := ih k (by simpa using hk)
      simp only [List.set_cons_succ, List.flatMap_cons, h]
      have h4 : (K3.cells d).length = 3 := rfl
      rw [List.set_append_right _ _ (by omega), List.set_append_right _ _ (by omega), List.set_append_right _ _ (by omega)]
      simp only [h4, show (k + 1) * 3 - 3 = k * 3 by omega, show (k + 1) * 3 + 1 - 3 = k * 3 + 1 by omega, show (k + 1) * 3 + 2 - 3 = k * 3 + 2 by omega]
section
variable {w : World} {B g cap n : Nat} {l : List K3}
theorem OwnKy.set3 (h : OwnKy w B (.slice (some ⟨g, 0, none⟩) n cap) l) (hn : n = l.length) (k : Nat) (hk : k < l.length) (c : K3) :
    OwnKy (((w.setCell ⟨g, k * 3, none⟩ (.int .i64 c.kind)).setCell ⟨g, k * 3 + 1, none⟩ (.int .i64 c.id)).setCell ⟨g, k * 3 + 2, none⟩ (.int .i64 c.adv)) B (.slice (some ⟨g, 0, none⟩) n cap) (l.set k c) ∧ w.grownBy (((w.setCell ⟨g, k * 3, none⟩ (.int .i64 c.kind)).setCell ⟨g, k * 3 + 1, none⟩ (.int .i64 c.id)).setCell ⟨g, k * 3 + 2, none⟩ (.int .i64 c.adv)) (some g) := by
  subst hn
  have h1 := World.ownsRow.stored h (k * 3) (.int .i64 c.kind)
  have h2 := World.ownsRow.stored h1.1 (k * 3 + 1) (.int .i64 c.id)
  have h3 := World.ownsRow.stored h2.1 (k * 3 + 2) (.int .i64 c.adv)
  refine ⟨?_, grown_trans (grown_trans h1.2 h2.2) h3.2⟩
  unfold OwnKy OwnR
  rw [set_flatK l k c hk, List.length_set]
  exact h3.1
end
theorem eqKyN (a b c a' b' c' : Int) (w : World) : (Op.equalIn 10000 69 (.agg #[.int .i64 a, .int .i64 b, .int .i64 c]) (.agg #[.int .i64 a', .int .i64 b', .int .i64 c'])).run Tryz.prog w = .ok (decide ((⟨a, b, c⟩ : K3) = ⟨a', b', c'⟩)) w := by
  rw [eqKey]
  congr 1
  by_cases h1 : a = a' <;> by_cases h2 : b = b' <;> by_cases h3 : c = c' <;> simp [h1, h2, h3]
theorem neqKyN (a b c a' b' c' : Int) (w : World) : (binOp .neq 69 (.agg #[.int .i64 a, .int .i64 b, .int .i64 c]) (.agg #[.int .i64 a', .int .i64 b', .int .i64 c'])).run Tryz.prog w = .ok (.bool (!decide ((⟨a, b, c⟩ : K3) = ⟨a', b', c'⟩))) w := by
  have h := eqKyN a b c a' b' c' w
  simp only [binOp]
  simp [Op.equal, Op.maxDepth, h]
/-- what lies in the row while it is gone over: the first k, and from the place of reading on, what was there -/
structure CptAt (w wr : World) (B g n c : Nat) (L : List K3) (q k : Nat) : Prop where
  own : ∃ M, M.length = n ∧ OwnKy wr B (.slice (some ⟨g, 0, none⟩) n c) M ∧ M.take k = cptN L q ∧ ∀ i, q ≤ i + 1 → M[i]? = L[i]?
  len : k = (cptN L q).length
  lt : k + 1 ≤ q
  bel : w.grownBy wr (some g)
theorem grown_below2 {w wr W : World} {row : Option Nat} (h : w.grownBy wr row) (hb : Below wr.heap.size wr W) : w.grownBy W row := grown_below h hb
theorem cpt_keep {w wr : World} {B g n c k p m i : Nat} {L : List K3} {a b : K3} (h : CptAt w wr B g n c L (k + p) m) (hl : ∃ (h1 : k + i + 1 < L.length) (h2 : k + i < L.length), L[k + i + 1]'h1 = a ∧ L[k + i]'h2 = b) (he : a = b) (hi : p = i + 1) (q : Nat) : CptAt w (wr.drewN q) B g n c L (k + (p + 1)) m := by
  subst hi
  obtain ⟨h1, h2, h3, h4⟩ := hl
  have hc : cptN L (k + (i + 1 + 1)) = cptN L (k + (i + 1)) := cptN_same (n := k + i) h1 (by rw [h3, h4, he])
  obtain ⟨M, g1, g2, g3, g4⟩ := h.own
  refine ⟨⟨M, g1, g2.below (below_drewN (Below.refl _ _) q), by rw [hc]; exact g3, fun j hj => g4 j (by omega)⟩, by rw [hc]; exact h.len, by have := h.lt; omega, ?_⟩
  exact ⟨h.bel.os, h.bel.tape, h.bel.output, h.bel.size, h.bel.block⟩
theorem cpt_put {w wr : World} {B g n c k p m i : Nat} {L : List K3} {a b : K3} (h : CptAt w wr B g n c L (k + p) m) (hl : ∃ (h1 : k + i + 1 < L.length) (h2 : k + i < L.length), L[k + i + 1]'h1 = a ∧ L[k + i]'h2 = b) (he : a ≠ b) (hi : p = i + 1) (q : Nat) (hn : n = L.length) : CptAt w ((((wr.drewN q).setCell ⟨g, m * 3, none⟩ (.int .i64 a.kind)).setCell ⟨g, m * 3 + 1, none⟩ (.int .i64 a.id)).setCell ⟨g, m * 3 + 2, none⟩ (.int .i64 a.adv)) B g n c L (k + (p + 1)) (m + 1) := by
  subst hi
  obtain ⟨h1, h2, h3, h4⟩ := hl
  have hc : cptN L (k + (i + 1 + 1)) = cptN L (k + (i + 1)) ++ [a] := by
    have := cptN_new (n := k + i) h1 (by rw [h3, h4]; exact he)
    rw [h3] at this
    exact this
  obtain ⟨M, g1, g2, g3, g4⟩ := h.own
  have hm : m < M.length := by have := h.lt; omega
  have g5 := OwnKy.set3 (g2.below (below_drewN (Below.refl _ _) q)) g1.symm m hm a
  have hlt := h.lt
  refine ⟨⟨M.set m a, by rw [List.length_set]; exact g1, g5.1, ?_, fun j hj => ?_⟩, by rw [hc, List.length_append, ← h.len]; rfl, by omega, ?_⟩
  · rw [hc, ← g3, List.take_succ_eq_append_getElem (by rw [List.length_set]; exact hm), List.getElem_set_self, List.take_set_of_le (Nat.le_refl _)]
  · rw [List.getElem?_set_ne (by omega)]
    exact g4 j (by omega)
  · refine grown_trans (c := wr.drewN q) ⟨h.bel.os, h.bel.tape, h.bel.output, h.bel.size, h.bel.block⟩ g5.2
set_option maxHeartbeats 8000000 in
set_option maxRecDepth 100000 in
theorem compactK (A : Option Addr) (c n : Nat) (L : List K3) (w : World) (B : Nat) (h : OwnKy w B (.slice A n c) L) (hn : n = L.length) (hl : L.length ≤ 2 ^ 20) :
    Calls Tryz.prog 39 #[.slice A n c] w fun r w' => ∃ v, r = .returned v ∧ OwnKy w' B v (cptL L) ∧ w.grownBy w' (Value.slice A n c).ownBlock ∧ (v.ownBlock = (Value.slice A n c).ownBlock) := by
  have hni : (n : Int) ≤ 1048576 := by omega
  have hnp : 0 ≤ (n : Int) := by omega
  by_cases h2 : n < 2
  · have hc : cptL L = L := by
      unfold cptL
      rw [cptN_take _ (Nat.le_refl _) (fun i hi _ => by omega), List.take_length]
    have Hc := Lib.hid hc
    have H := Lib.hid h
    have h2i : (n : Int) < 2 := by omega
    clear h hc
    go_enter Tryz.func39, Tryz.ntmps39
    go_wp2
    go_ret
    exact ⟨_, rfl, by rw [Hc.out]; exact H.out, ⟨rfl, rfl, rfl, Nat.le_refl _, fun _ _ _ => rfl⟩, rfl⟩
  · have h2i : ¬ (n : Int) < 2 := by omega
    obtain ⟨g, rfl⟩ : ∃ g, A = some ⟨g, 0, none⟩ := by
      rcases h.2 with ⟨hv, h0⟩ | ⟨g, cap', cur, hv, -⟩
      · omega
      · injection hv with hA
        exact ⟨g, hA⟩
    have hnc : n ≤ c := by
      rcases h.2 with ⟨hv, h0⟩ | ⟨g', cap', cur, hv, -, -, hnc, -⟩
      · cases hv
      · injection hv with e1 e2 e3
        omega
    have hcm : c ≤ maxLen := by
      rcases h.2 with ⟨hv, h0⟩ | ⟨g', cap', cur, hv, -, -, -, hcm, -⟩
      · cases hv
      · injection hv with e1 e2 e3
        omega
    have hci : (c : Int) ≤ 9223372036854775807 := by unfold maxLen at hcm; omega
    have hnci : (n : Int) ≤ (c : Int) := by omega
    have H := Lib.hid h
    have Hn := Lib.hid hn
    have H2 := Lib.hid h2
    clear h hn hl hcm h2
    go_enter Tryz.func39, Tryz.ntmps39
    go_wp2
    go_loopw [3] (fun i wr => ∃ (k q : Nat), i = .int .i64 k ∧ 1 ≤ k ∧ k ≤ n ∧ (∀ i (h1 : i + 1 < k) (h2 : i + 1 < L.length), L[i + 1]'h2 ≠ L[i]'(by omega)) ∧ wr = w.drewN q) (fun i _ => n - (intOf i).toNat)
    case atStart => exact ⟨1, 0, rfl, Nat.le_refl _, by have := H2.out; omega, fun i h1 _ => by omega, rfl⟩
    case round =>
      obtain ⟨k, q, rfl, hk1, hk, hd, rfl⟩ := hrel
      have hk1i : 1 ≤ (k : Int) := by omega
      by_cases hlt : k < n
      · have hki : (k : Int) < (n : Int) := by omega
        obtain ⟨j, hj⟩ : ∃ j, k = j + 1 := ⟨k - 1, by omega⟩
        have hkL : k < L.length := by have := Hn.out; omega
        have hown := H.out
        obtain ⟨g1, o1, e1, -, x0, x1, x2⟩ := row_k3b (OwnR.rows (C := 3) (cells := K3.cells) (fun _ => rfl) hown).2 k hkL
        obtain ⟨g2, o2, e2, -, y0, y1, y2⟩ := row_k3b (OwnR.rows (C := 3) (cells := K3.cells) (fun _ => rfl) hown).2 j (by omega)
        injection e1 with e1
        injection e1 with e1 e1'
        injection e2 with e2
        injection e2 with e2 e2'
        subst e1 e1' e2 e2'
        simp only [Nat.zero_add] at x0 x1 x2 y0 y1 y2
        obtain ⟨a, ha⟩ : ∃ a, L[k]'hkL = a := ⟨_, rfl⟩
        obtain ⟨b, hb⟩ : ∃ b, L[j]'(by omega) = b := ⟨_, rfl⟩
        rw [ha] at x0 x1 x2
        rw [hb] at y0 y1 y2
        have Hd := Lib.hid hd
        have Hj1 := Lib.hid (show ∃ (h1 : k < L.length) (h2 : j < L.length), L[k]'h1 = a ∧ L[j]'h2 = b from ⟨hkL, by omega, ha, hb⟩)
        have hkj : (k : Int) - 1 = (j : Int) := by omega
        have hji : (j : Int) < (n : Int) := by omega
        have Hj := Lib.hid hj
        have Hlt := Lib.hid hlt
        clear hown hd ha hb hkL hj hlt
        obtain ⟨a1, a2, a3⟩ := a
        obtain ⟨b1, b2, b3⟩ := b
        simp only at x0 x1 x2 y0 y1 y2
        have heq := fun w => eqKyN a1 a2 a3 b1 b2 b3 w
        by_cases he : (⟨a1, a2, a3⟩ : K3) = ⟨b1, b2, b3⟩
        · rw [decide_eq_true he] at heq
          have He := Lib.hid he
          clear he
          have hst : ∀ W, Below w.heap.size w W → CptAt w W B g n c L (k + 1) k := by
            intro W hW
            obtain ⟨g1, g2, g3, g4⟩ := Hj1.out
            have hk := Hj.out
            subst hk
            have hcp : cptN L (j + 1 + 1) = L.take (j + 1) := by
              rw [cptN_same g1 (by rw [g3, g4]; exact He.out)]
              exact cptN_take _ (by omega) (fun i h1 h2 => Hd.out i h1 (by omega))
            refine ⟨⟨L, Hn.out.symm, H.out.below hW, hcp.symm, fun _ _ => rfl⟩, ?_, Nat.le_refl _, grown_below (World.grownBy.refl w (some g)) hW⟩
            rw [hcp, List.length_take]
            omega
          have Hst := Lib.hid hst
          have hnk : (n : Int) - (k : Int) = ((n - k : Nat) : Int) := by have := Hlt.out; omega
          clear hst
          go_wp2
          go_quiet (fail)
          go_wp2
          go_loopw [3, 5] (fun s i wr => ∃ (p m : Nat), i = .int .i64 p ∧ s = .int .i64 m ∧ 1 ≤ p ∧ p ≤ n - k ∧ CptAt w wr B g n c L (k + p) m) (fun _ i _ => (n - k) - (intOf i).toNat)
          case atStart => exact ⟨1, k, rfl, rfl, Nat.le_refl _, by have := Hlt.out; omega, Hst.out _ (below_drewN (Below.refl _ _) _)⟩
          case round =>
            obtain ⟨p, m, rfl, rfl, hp1, hp, hst⟩ := hrel
            clear x0 x1 x2 y0 y1 y2 heq Hst
            obtain ⟨M, hM, hown, hMt, hMs⟩ := hst.own
            have Hst := Lib.hid hst
            have Hown := Lib.hid hown
            have HM := Lib.hid hM
            have HMt := Lib.hid hMt
            have HMs := Lib.hid hMs
            have Hp1 := Lib.hid hp1
            have hpi1 : 1 ≤ (p : Int) := by omega
            by_cases hpl : p < n - k
            · have hpi : (p : Int) < ((n - k : Nat) : Int) := by omega
              have hpn : p ≤ 1048576 := by omega
              obtain ⟨i, hi⟩ : ∃ i, p = i + 1 := ⟨p - 1, by omega⟩
              have hpi2 : (p : Int) - 1 = (i : Int) := by omega
              have hii : (i : Int) < ((n - k : Nat) : Int) := by omega
              have h1 : k + p < M.length := by omega
              have h2 : k + i < M.length := by omega
              obtain ⟨g1, o1, e1, -, x0, x1, x2⟩ := row_k3b (OwnR.rows (C := 3) (cells := K3.cells) (fun _ => rfl) hown).2 (k + p) h1
              obtain ⟨g2, o2, e2, -, y0, y1, y2⟩ := row_k3b (OwnR.rows (C := 3) (cells := K3.cells) (fun _ => rfl) hown).2 (k + i) h2
              injection e1 with e1
              injection e1 with e1 e1'
              injection e2 with e2
              injection e2 with e2 e2'
              subst e1 e1' e2 e2'
              simp only [Nat.zero_add, Nat.add_mul] at x0 x1 x2 y0 y1 y2
              obtain ⟨a, ha⟩ : ∃ a, M[k + p]'h1 = a := ⟨_, rfl⟩
              obtain ⟨b, hb⟩ : ∃ b, M[k + i]'h2 = b := ⟨_, rfl⟩
              rw [ha] at x0 x1 x2
              rw [hb] at y0 y1 y2
              have hLa : ∃ (h1 : k + i + 1 < L.length) (h2 : k + i < L.length), L[k + i + 1]'h1 = a ∧ L[k + i]'h2 = b := by
                have g1 := hMs (k + p) (by omega)
                have g2 := hMs (k + i) (by omega)
                rw [List.getElem?_eq_getElem h1, ha] at g1
                rw [List.getElem?_eq_getElem h2, hb] at g2
                obtain ⟨q1, q2⟩ := List.getElem?_eq_some_iff.1 g1.symm
                obtain ⟨q3, q4⟩ := List.getElem?_eq_some_iff.1 g2.symm
                subst hi
                exact ⟨q1, q3, q2, q4⟩
              have HLa := Lib.hid hLa
              have Hi := Lib.hid hi
              have Hpl := Lib.hid hpl
              have hmk : (m : Int) < (n : Int) := by have := hst.lt; have := Hn.out; omega
              have hmn : m < M.length := by have := hst.lt; omega
              obtain ⟨g3, o3, e3, -, v0, v1, v2⟩ := row_k3b (OwnR.rows (C := 3) (cells := K3.cells) (fun _ => rfl) hown).2 m hmn
              injection e3 with e3
              injection e3 with e3 e3'
              subst e3 e3'
              simp only [Nat.zero_add] at v0 v1 v2
              obtain ⟨v, hv⟩ : ∃ v, M[m]'hmn = v := ⟨_, rfl⟩
              rw [hv] at v0 v1 v2
              clear hv
              have f0 := OwnR.froz hown (m * 3)
              have f1 := OwnR.froz hown (m * 3 + 1)
              have f2 := OwnR.froz hown (m * 3 + 2)
              have Hmn := Lib.hid hmn
              clear hst hown hM hMt hMs hi hpl h1 h2 ha hb hLa hp1 hp hmn
              obtain ⟨a1, a2, a3⟩ := a
              obtain ⟨b1, b2, b3⟩ := b
              simp only at x0 x1 x2 y0 y1 y2
              have hne := fun w => neqKyN a1 a2 a3 b1 b2 b3 w
              by_cases he : (⟨a1, a2, a3⟩ : K3) = ⟨b1, b2, b3⟩
              · rw [decide_eq_true he] at hne
                have He2 := Lib.hid he
                clear he
                clear v0 v1 v2 f0 f1 f2
                go_wp2
                go_quiet (fail)
                go_wp2
                go_roundw
                case measure => have := Hpl.out; simp [intOf]; omega
                case rel => exact ⟨p + 1, m, by go_num, rfl, by omega, Hpl.out, cpt_keep Hst.out HLa.out He2.out Hi.out _⟩
              · rw [decide_eq_false he] at hne
                have He2 := Lib.hid he
                clear he
                go_wp2
                go_quiet (fail)
                go_wp2
                go_roundw
                case measure => have := Hpl.out; simp [intOf]; omega
                case rel => exact ⟨p + 1, m + 1, by go_num, by go_num, by omega, Hpl.out, cpt_put Hst.out HLa.out He2.out Hi.out _ Hn.out⟩
            · have hpe : k + p = L.length := by have := Hn.out; have := Hlt.out; omega
              have hcm : M.take m = cptL L := by rw [hMt, hpe]; rfl
              have hlm : m = (cptL L).length := by rw [hst.len, hpe]; rfl
              have hmn : m < n := by have := hst.lt; have := Hn.out; omega
              have Hcm := Lib.hid hcm
              have Hbel := Lib.hid hst.bel
              have hmi : (m : Int) < (n : Int) := by omega
              have hmi2 : (m : Int) ≤ (c : Int) := by omega
              have hple : ¬ (p : Int) < ((n - k : Nat) : Int) := by omega
              have Hmn := Lib.hid hmn
              have hnm : (n : Int) - (m : Int) = ((n - m : Nat) : Int) := by omega
              clear hst hown hM hMt hMs hpl hp1 hp hcm hmn hpe hlm
              go_wp2_with ((refine wpList_clear_row (e := 69) (C := 3) (cells := K3.cells) (fun _ => rfl) Tryz.underlying54 zeroK rfl (by intro u hu; simp [Value.cells] at hu; subst hu; rfl) (by rfl) _ (by rfl) Hown.out HM.out.symm m (Nat.le_of_lt Hmn.out) (n - m) (c - m) (m * 3) rfl (by have := Hmn.out; omega) (by rfl) ?_); intro w5 hown5 hg5; have HO5 := Lib.hid hown5; have HG5 := Lib.hid hg5; clear hown5 hg5)
              go_ret
              exact ⟨_, rfl, by have h := HO5.out; rw [Hcm.out] at h; exact h, grown_trans Hbel.out HG5.out, rfl⟩
        · rw [decide_eq_false he] at heq
          have He := Lib.hid he
          clear he
          go_wp2
          go_quiet (fail)
          go_wp2
          go_roundw
          case measure => have := Hlt.out; simp [intOf]; omega
          case rel =>
            refine ⟨k + 1, _, by go_num, by omega, Hlt.out, fun i h1 h2 => ?_, rfl⟩
            by_cases hij : i = j
            · subst hij
              have hk := Hj.out
              subst hk
              obtain ⟨g1, g2, g3, g4⟩ := Hj1.out
              rw [g3, g4]
              exact He.out
            · exact Hd.out i (by omega) h2
      · have hkn : k = n := by omega
        subst hkn
        have hkk : ¬ (k : Int) < (k : Int) := by omega
        have hc : cptL L = L := by
          unfold cptL
          rw [cptN_take _ (Nat.le_refl _) (fun i hi h => hd i (by rw [Hn.out]; exact hi) (by omega)), List.take_length]
        have Hc := Lib.hid hc
        clear hd hc
        go_wp2
        go_ret
        exact ⟨_, rfl, by rw [Hc.out]; exact H.out.below (below_drewN (Below.refl _ _) q), ⟨rfl, rfl, rfl, Nat.le_refl _, fun _ _ _ => rfl⟩, rfl⟩

end Go.Proofs.YtpnbibokddhheaaGreat

/-
  A description that was handed in.
-/
namespace Go.Proofs.YtpnbibokddhheaaGreat
open Go.ChangeShapes Go.WideShapes Go.RowKit Go.Deep Go.Joins

section
variable {H : Type} {enc : TypeId × Value → H} {w : World} {base : Nat} {spare : Nat → Bool} {held : Bool}
set_option maxRecDepth 100000 in
theorem open_lsa9 {r : Reach} {b0 : Nat} {v : Value} {d : DataW H} {p : List MemPlace} (hv : Value.okWide Tryz.prog w r b0 31 v) (h : DataW.Trod enc Tryz.prog w base spare held 31 v d p) :
    ∃ x : Lsa, v = .agg x.cells.toArray ∧ x.ok w w.heap.size := by
  obtain ⟨cs, rfl, _⟩ := okWide_struct Tryz.underlying31 hv
  obtain ⟨n, hn⟩ := h
  obtain ⟨x, he, hx⟩ := dec_lsa hn
  refine ⟨x, ?_, hx⟩
  congr 1
  exact Array.toList_inj.1 he
end

end Go.Proofs.YtpnbibokddhheaaGreat

/-
  A row of truths that was handed in.
-/
namespace Go.Proofs.YtpnbibokddhheaaGreat
open Go.ChangeShapes Go.WideShapes Go.RowKit Go.Deep Go.Joins


end Go.Proofs.YtpnbibokddhheaaGreat
