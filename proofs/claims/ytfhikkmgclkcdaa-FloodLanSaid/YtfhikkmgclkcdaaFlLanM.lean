/-
  FloodLan: the map of who got it, and all that lies in memory.
-/
import Derived.Maps.OwnSet
import Derived.Test.YtfhikkmgclkcdaaFlSendW
namespace Go.Proofs.Ytfhikkmgclkcdaa
open Go.RowKit Go.Maps

theorem lawInt : Keyed Try.prog 3 := int_keyed Try.underlying3
theorem zeroInt (w : World) : (zeroValue 3).run Try.prog w = .ok (.int .i64 0) w := by kernel_rfl
def gotD (G : List Int) : DataW Unit := setOf (.lit (.int .i64 1)) (G.map (Lit.int .i64))
theorem gotD_snoc (G : List Int) (x : Int) : gotD (G ++ [x]) = (gotD G).put (.int .i64 x) (.lit (.int .i64 1)) := by
  unfold gotD
  rw [List.map_append, List.map_singleton, setOf_snoc]
theorem gotD_map (G : List Int) : IsMap (gotD G) := by
  have : ∀ L : List Int, IsMap (gotD L.reverse) := by
    intro L
    induction L with
    | nil => exact isMap_empty
    | cons y L ih => rw [List.reverse_cons, gotD_snoc]; exact ih.put _ _
  simpa using this G.reverse
theorem gotD_tidy (G : List Int) : Tidy (gotD G) := tidy_setOf _ _ (by
  intro x hx
  obtain ⟨y, _, rfl⟩ := List.mem_map.1 hx
  simp [WideAt.IsKeyLit])
theorem gotD_at (G : List Int) (x : Int) : (gotD G).atKey (.int .i64 x) (.lit (.int .i64 0)) = .lit (.int .i64 (if x ∈ G then 1 else 0)) := by
  have : ∀ L : List Int, (gotD L.reverse).atKey (.int .i64 x) (.lit (.int .i64 0)) = .lit (.int .i64 (if x ∈ L then 1 else 0)) := by
    intro L
    induction L with
    | nil => rfl
    | cons y L ih =>
      rw [List.reverse_cons, gotD_snoc]
      by_cases h : x = y
      · subst h
        rw [atKey_put_same (gotD_map _) (by simp [WideAt.IsKeyLit])]
        simp
      · rw [atKey_put_other (by intro e; injection e with _ e; exact h e), ih]
        simp [h]
  simpa using this G.reverse
theorem gotD_has (G : List Int) (x : Int) : has (gotD G) (.int .i64 x) = decide (x ∈ G) := by
  have : ∀ L : List Int, has (gotD L.reverse) (.int .i64 x) = decide (x ∈ L) := by
    intro L
    induction L with
    | nil => rfl
    | cons y L ih =>
      rw [List.reverse_cons, gotD_snoc]
      by_cases h : x = y
      · subst h
        rw [has_put_same (gotD_map _) (by simp [WideAt.IsKeyLit])]
        simp
      · rw [has_put_other (by intro e; injection e with _ e; exact h e), ih]
        simp [h]
  simpa using this G.reverse
theorem gotD_size {G : List Int} (h : G.Nodup) : size (gotD G) = G.length := by
  have : ∀ L : List Int, L.Nodup → size (gotD L.reverse) = L.length := by
    intro L
    induction L with
    | nil => intro _; rfl
    | cons y L ih =>
      intro hn
      rw [List.nodup_cons] at hn
      rw [List.reverse_cons, gotD_snoc, size_put (gotD_tidy _), gotD_has, ih hn.2]
      simp [hn.1]
  have := this G.reverse ((List.reverse_perm G).nodup_iff.2 h)
  simpa using this
theorem wpList_insert_own {H : Type} {P : Program} (w : World) {ops : Array Oper} {rest : List Oper} {o : Oper} {a : Act} {Q : Exit → Act → World → Prop}
    (hg : o.guard = none) (m x v : Operand) (t : TypeId) (hop : o.op = Op.insert t m x v)
    (k e : TypeId) (K : Keyed P k) (ht : P.underlying t = some (.map k e)) (R : Value → Option (DataW H × List MemPlace)) (b n : Nat) (D : DataW H)
    (hm : a.eval m = .map (some b)) (hown : w.ownsMap P k R b n D) (hn : n < maxLen) (key val : Value) (kl : Lit) (hx : a.eval x = key) (hv : a.eval v = val) (hkey : keyOf P k key = some kl)
    (d : DataW H) (ps : List MemPlace) (hval : R val = some (d, ps))
    (hK : ∀ w', w'.ownsMap P k R b (n + 1) (D.put kl d) → w.grownBy w' (some b) → wpList P ops Q rest (a.put o.dst undef) w') :
    wpList P ops Q (o :: rest) a w := by
  refine wpList_plain hg fun K' hK' => ?_
  obtain ⟨w', hrun, r1, r2⟩ := hown.update K ht hn hkey hval
  unfold Oper.wp
  simp [execOp, hop, hm, hx, hv, hrun, Result.andThen]
  exact hK' _ _ (hK w' r1 r2)

abbrev GotAt (w : World) (gm : Nat) (G : List Int) : Prop := w.ownsMap Try.prog 3 (plainElem Try.prog 3) gm G.length (gotD G)
/-- All that lies in memory as it goes round: the hall, the members' row, the map of who got it. -/
structure LanAt (w wr : World) (gh gm : Nat) (x : Hd) (A : Option Addr) (cap : Nat) (l : List Int) (dr bdr : Int) (fv : Value) (F : List Frm) (G : List Int) : Prop where
  hall : HallAt wr gh w.heap.size x A l.length cap dr bdr fv F
  got : GotAt wr gm G
  row : OwnI wr w.heap.size (.slice A l.length cap) l
  apM : gm ≠ gh
  apF : some gm ≠ fv.ownBlock
  apL : ∀ k, (Value.slice A l.length cap).ownBlock = some k → k ≠ gh ∧ k ≠ gm ∧ some k ≠ fv.ownBlock
  low : w.heap.size ≤ gh ∧ w.heap.size ≤ gm
  bel : Below w.heap.size w wr
section
variable {w wr w' : World} {gh gm : Nat} {x : Hd} {A : Option Addr} {cap : Nat} {l : List Int} {dr bdr : Int} {fv fv' : Value} {F F' : List Frm} {G : List Int}
theorem LanAt.below (h : LanAt w wr gh gm x A cap l dr bdr fv F G) (hb : Below wr.heap.size wr w') : LanAt w w' gh gm x A cap l dr bdr fv F G where
  hall := h.hall.below hb
  got := World.ownsMap.kept h.got (row := none) ⟨hb.os, hb.tape, hb.output, hb.size, fun k hk _ => hb.block k hk⟩ (by simp)
  row := h.row.below hb
  apM := h.apM
  apF := h.apF
  apL := h.apL
  low := h.low
  bel := h.bel.trans (hb.mono h.bel.size)
theorem LanAt.sent (h : LanAt w wr gh gm x A cap l dr bdr fv F G) (hh : HallAt w' gh w.heap.size x A l.length cap dr bdr fv' F') (hk : HallKept gh fv wr w') (hv : fv'.ownBlock = fv.ownBlock ∨ ∃ k, fv'.ownBlock = some k ∧ wr.heap.size ≤ k) :
    LanAt w w' gh gm x A cap l dr bdr fv' F' G where
  hall := hh
  got := by
    obtain ⟨es, clock, hb, r⟩ := h.got
    exact ⟨es, clock, (hk.block gm (World.ownsMap.lt h.got) h.apM h.apF).trans hb, r⟩
  row := by
    rcases h.row.2 with hn | ⟨g, c, cur, e, hb, hg, r⟩
    · exact ⟨h.row.1, .inl hn⟩
    · have hob : (Value.slice A l.length cap).ownBlock = some g := by rw [e]; rfl
      have := h.apL g hob
      exact ⟨h.row.1, .inr ⟨g, c, cur, e, hb, (hk.block g (h.row.block g hob).2 this.1 this.2.2).trans hg, r⟩⟩
  apM := h.apM
  apF := by
    rcases hv with e | ⟨k, e, hk'⟩
    · rw [e]; exact h.apF
    · rw [e]; intro e2; injection e2 with e2; have := World.ownsMap.lt h.got; omega
  apL := fun k hk' => by
    have := h.apL k hk'
    refine ⟨this.1, this.2.1, ?_⟩
    rcases hv with e | ⟨k', e, hk2⟩
    · rw [e]; exact this.2.2
    · rw [e]; intro e2; injection e2 with e2; have := (h.row.block k hk').2; omega
  low := h.low
  bel := h.bel.trans (hk.below h.bel.size h.low.1 (fun k hk' => (h.hall.own.block k hk').1))
theorem LanAt.put (h : LanAt w wr gh gm x A cap l dr bdr fv F G) {y : Int} (hm : w'.ownsMap Try.prog 3 (plainElem Try.prog 3) gm (G.length + 1) ((gotD G).put (.int .i64 y) (.lit (.int .i64 1)))) (hg : wr.grownBy w' (some gm)) :
    LanAt w w' gh gm x A cap l dr bdr fv F (G ++ [y]) where
  hall := ⟨h.hall.blk.grown hg (fun e => by injection e with e; exact h.apM e.symm), h.hall.own.kept hg (.inr (fun e => h.apF e.symm)), h.hall.apart⟩
  got := by
    show w'.ownsMap _ _ _ _ _ _
    rw [gotD_snoc, List.length_append, List.length_singleton]
    exact hm
  row := by
    refine h.row.kept hg ?_
    rcases hv : (Value.slice A l.length cap).ownBlock with _ | k
    · exact .inl rfl
    · exact .inr fun e => by injection e with e; exact (h.apL k hv).2.1 e
  apM := h.apM
  apF := h.apF
  apL := h.apL
  low := h.low
  bel := h.bel.grown hg h.bel.size (fun k e => by injection e with e; have := h.low.2; omega)
theorem LanAt.look (h : LanAt w wr gh gm x A cap l dr bdr fv F G) {y : Int} (hy : (Lit.int .i64 y).wf = true) :
    (Instr.lookup 32 (.map (some gm)) (.int .i64 y) false).run Try.prog wr = .ok (.int .i64 (if y ∈ G then 1 else 0)) wr := by
  obtain ⟨c, h1, h2, _⟩ := World.ownsMap.lookup_int h.got lawInt Try.underlying32 Try.underlying3 (zeroInt _) (keyOf_int_mk Try.underlying3 hy)
  rw [gotD_at] at h2
  simp only [DataW.lit.injEq, Lit.int.injEq, true_and] at h2
  rw [h2]
  exact h1
theorem LanAt.rows (h : LanAt w wr gh gm x A cap l dr bdr fv F G) : RowsAt 1 icell wr wr.heap.size A l := h.row.rows.2
end
theorem send_v {w0 : World} {gh : Nat} {x : Hd} {A : Option Addr} {cap : Nat} {l : List Int} {dr bdr : Int} {fv : Value} {F F' : List Frm} {me lan fr : Int} {w : World} (hh : HallAt w gh w0.heap.size x A l.length cap dr bdr fv F) (hl : RowsAt 1 icell w w.heap.size A l) (hlen : l.length ≤ 1000) (hF : F.length ≤ 100)
    (hBf : w0.heap.size ≤ w.heap.size) (h1 : ∀ y ∈ l, 1 ≤ y) (hc : (0 < fr ∧ lan = 1) ∨ fr = 0) (hF' : sendF dr bdr l (decide (0 < fr) && 1 == lan) fr me F = F') (h2 : F'.length ≤ 2) :
    Calls Try.prog 17 #[.pointer (some ⟨gh, 0, none⟩), .int .i64 me, .int .i64 lan, .int .i64 fr] w fun r w' => ∃ fv', r = .returned (.bool true) ∧ HallAt w' gh w0.heap.size x A l.length cap dr bdr fv' F' ∧ HallKept gh fv w w' ∧ (fv'.ownBlock = fv.ownBlock ∨ ∃ k, fv'.ownBlock = some k ∧ w.heap.size ≤ k) := by
  have := send_any gh w0.heap.size x A cap l dr bdr fv F me lan fr w w.heap.size hh hl (Nat.le_refl _) hlen hF hBf h1 hc hF'
  rw [decide_eq_true h2] at this
  exact this

end Go.Proofs.Ytfhikkmgclkcdaa
