/-
  FloodLan: the walk of send.
-/

import Derived.Test.YtfhikkmgclkcdaaHeld
import Derived.Test.YtfhikkmgclkcdaaFlRound
namespace Go.Proofs.Ytfhikkmgclkcdaa
open Go.RowKit

theorem wpOp_wp {P : Program} {ops : Array Oper} {Q : Exit → Act → World → Prop} {i : Nat} {o : Oper} {a : Act} {w : World} {K : Act → World → Prop} (hi : ops[i]? = some o) (hg : Region.wanted o (yielded ops a.tmps) = true) (h : o.wp P a w K Q) : wpOp P ops Q i K a w := by
  unfold wpOp
  simp only [hi, hg, if_true]
  exact .inl h
theorem wpOp_skip {P : Program} {ops : Array Oper} {Q : Exit → Act → World → Prop} {i : Nat} {o : Oper} {a : Act} {w w' : World} {K : Act → World → Prop} (hi : ops[i]? = some o) (hg : Region.wanted o (yielded ops a.tmps) = true)
    (hx : (execOp a.eval o).run P w = .ok .skip w') (hK : K (a.put o.dst undef) w') : wpOp P ops Q i K a w := by
  unfold wpOp
  simp only [hi, hg, if_true, Oper.wp, hx, Oper.upon]
  exact .inl hK
theorem cell_new {w : World} {g i : Nat} {u : Value} (h : w.cell? ⟨g, i, none⟩ = some u) (o : Obj) : (w.alloc o).cell? ⟨g, i, none⟩ = some u := cellIn h ((Below.refl _ _).alloc (Nat.le_refl _) o)
theorem wp_append_run {P : Program} {o : Oper} {a : Act} {K : Act → World → Prop} {Q : Exit → Act → World → Prop} {w w' : World} {s x : Operand} {t : TypeId} {v : Value}
    (ho : o.op = .call { callee := .builtin .append, args := #[s, x], argTypes := #[t, t] }) (hr : (Builtin.append_ #[t, t] o.type #[a.eval s, a.eval x]).run P w = .ok v w') (h : K (a.put o.dst v) w') : o.wp P a w K Q := by
  unfold Oper.wp execOp
  simp only [ho, resolve, invoke, builtin, Sem.run_bind, Sem.run_pure, Result.andThen_ok, List.map_toArray, List.map_cons, List.map_nil, hr]
  exact h
theorem ret_bool {a b : Bool} (h : a = b) : Ending.returned (.bool a) = .returned (.bool b) := by rw [h]
theorem hall_chain {gh : Nat} {fv : Value} {w w1 w2 w3 : World} (h1 : Below w.heap.size w w1) (h2 : Below w1.heap.size w1 w2) (h3 : HallKept gh fv w2 w3) : HallKept gh fv w w3 :=
  have h12 := h1.trans (h2.mono h1.size)
  ⟨h3.os.trans h12.os, h3.tape.trans h12.tape, h3.output.trans h12.output, Nat.le_trans h12.size h3.size, fun k hk a b => (h3.block k (Nat.lt_of_lt_of_le hk h12.size) a b).trans (h12.block k hk)⟩
theorem hall_blocks {fb : Option Nat} {v : Value} {w w1 w2 : World} (h1 : Below w.heap.size w w1) (h2 : Below w1.heap.size w1 w2) (h : v.ownBlock = fb ∨ ∃ k, v.ownBlock = some k ∧ w2.heap.size ≤ k) : v.ownBlock = fb ∨ ∃ k, v.ownBlock = some k ∧ w.heap.size ≤ k :=
  h.imp id fun ⟨k, e, hk⟩ => ⟨k, e, Nat.le_trans (Nat.le_trans h1.size h2.size) hk⟩
theorem cell_only {w w6 : World} {o : Obj} {fv : Value} {g i : Nat} {u : Value} (h : w.cell? ⟨g, i, none⟩ = some u) (hg : (w.alloc o).grownBy w6 fv.ownBlock) (hne : some g ≠ fv.ownBlock) : w6.cell? ⟨g, i, none⟩ = some u := by
  have hlt : g < w.heap.size := World.block_lt_of_cell? w _ h
  have e : w6.heap[g]? = w.heap[g]? := (hg.block g (by simp; omega) hne).trans (Below.heap_alloc w o g hlt)
  rw [← h]
  simp [World.cell?, e]
theorem HallAt.grow {w w6 : World} {gh Bf : Nat} {x : Hd} {A : Option Addr} {n cap : Nat} {dr bdr : Int} {fv v' : Value} {F F' : List Frm} {o : Obj} (h : HallAt w gh Bf x A n cap dr bdr fv F) (hown : OwnF w6 Bf v' F') (hg : (w.alloc o).grownBy w6 fv.ownBlock)
    (hv : v'.ownBlock = fv.ownBlock ∨ v'.ownBlock = some (w.alloc o).heap.size) :
    w6.cell? ⟨gh, 10, none⟩ = some fv ∧ w6.frozen? ⟨gh, 10, none⟩ = false ∧ HallAt (w6.setCell ⟨gh, 10, none⟩ v') gh Bf x A n cap dr bdr v' F' ∧ HallKept gh fv w (w6.setCell ⟨gh, 10, none⟩ v') ∧
      (v'.ownBlock = fv.ownBlock ∨ ∃ k, v'.ownBlock = some k ∧ w.heap.size ≤ k) := by
  have hlt := h.blk.lt
  have b6 := (h.blk.alloc o).grown hg (fun e => h.apart e.symm)
  have hne : v'.ownBlock ≠ some gh := by
    rcases hv with e | e
    · rw [e]; exact h.apart
    · rw [e]; intro e2; injection e2 with e2; simp at e2; omega
  refine ⟨b6.cell 10, b6.frozen 10, ⟨?_, ?_, hne⟩, ⟨hg.os, hg.tape, hg.output, ?_, fun k hk h1 h2 => ?_⟩, ?_⟩
  · simpa using b6.set_ 10 v'
  · refine hown.kept (row := some gh) ⟨rfl, rfl, rfl, by simp, fun k _ hn => Below.heap_setCell w6 _ _ k (fun e => hn (by rw [e]))⟩ (.inr hne)
  · have := hg.size; simp at this ⊢; omega
  · rw [Below.heap_setCell w6 _ _ k h1, hg.block k (by simp; omega) h2, Below.heap_alloc w o k hk]
  · rcases hv with e | e
    · exact .inl e
    · exact .inr ⟨_, e, by simp⟩

set_option maxHeartbeats 8000000 in
set_option maxRecDepth 100000 in
theorem send_any (gh Bf : Nat) (x : Hd) (A : Option Addr) (cap : Nat) (l : List Int) (dr bdr : Int) (fv : Value) (F : List Frm) (me lan fr : Int) (w : World) (B : Nat) (hh : HallAt w gh Bf x A l.length cap dr bdr fv F) (hl : RowsAt 1 icell w B A l) (hB : B ≤ w.heap.size) (hlen : l.length ≤ 1000) (hF : F.length ≤ 100)
    (hBf : Bf ≤ w.heap.size) (h1 : ∀ y ∈ l, 1 ≤ y) (hc : (0 < fr ∧ lan = 1) ∨ fr = 0) {F' : List Frm} (hF' : sendF dr bdr l (decide (0 < fr) && 1 == lan) fr me F = F') :
    Calls Try.prog 17 #[.pointer (some ⟨gh, 0, none⟩), .int .i64 me, .int .i64 lan, .int .i64 fr] w fun r w' => ∃ fv', r = .returned (.bool (decide (F'.length ≤ 2))) ∧ HallAt w' gh Bf x A l.length cap dr bdr fv' F' ∧ HallKept gh fv w w' ∧ (fv'.ownBlock = fv.ownBlock ∨ ∃ k, fv'.ownBlock = some k ∧ w.heap.size ≤ k) := by
  have hc' : ∀ y ∈ listedV me dr bdr l (decide (0 < fr) && 1 == lan) fr, (y == fr) = false ∧ (y == me) = false := fun y hy => listedV_not h1 (by
    rcases hc with ⟨h, rfl⟩ | h
    · exact .inl (by simp [h])
    · exact .inr h) hy
  have hFl : F'.length = if sentV me dr bdr l (decide (0 < fr) && 1 == lan) fr = true then F.length + 1 else F.length := by
    rw [← hF']; unfold sendF; split <;> simp
  have Hc := Lib.hid hc'
  have HF' := Lib.hid hF'
  have HFl := Lib.hid hFl
  clear hc' hF' hFl hc h1
  rcases x with ⟨a1, a2, a3, a4, a5, a6, a7⟩
  have hb := hh.blk
  have fW : ∀ W, Below w.heap.size w W → W.cell? ⟨gh, 0, none⟩ = _ ∧ W.cell? ⟨gh, 1, none⟩ = _ ∧ W.cell? ⟨gh, 2, none⟩ = _ ∧ W.cell? ⟨gh, 3, none⟩ = _ ∧ W.cell? ⟨gh, 4, none⟩ = _ ∧ W.cell? ⟨gh, 5, none⟩ = _ ∧ W.cell? ⟨gh, 6, none⟩ = _ ∧ W.cell? ⟨gh, 7, none⟩ = _ ∧ W.cell? ⟨gh, 8, none⟩ = _ ∧ W.cell? ⟨gh, 9, none⟩ = _ ∧ W.cell? ⟨gh, 10, none⟩ = _ := fun W hW =>
    ⟨(hb.below hW hb.lt).cell 0, (hb.below hW hb.lt).cell 1, (hb.below hW hb.lt).cell 2, (hb.below hW hb.lt).cell 3, (hb.below hW hb.lt).cell 4, (hb.below hW hb.lt).cell 5, (hb.below hW hb.lt).cell 6, (hb.below hW hb.lt).cell 7, (hb.below hW hb.lt).cell 8, (hb.below hW hb.lt).cell 9, (hb.below hW hb.lt).cell 10⟩
  have FW := Lib.hid fW
  have Hh := Lib.hid hh
  have Hl := Lib.hid (hl.more hB)
  clear fW hb hh hl hB
  go_enter Try.func17, Try.ntmps17
  go_wp2_with fail
  refine wp_region_held (S := fun W => Below w.heap.size w W) (by kernel_rfl) ?_
  obtain ⟨wd, hwd⟩ : ∃ wd : World, ({ w with drawn := w.drawn + 1 } : World) = wd := ⟨_, rfl⟩
  rw [hwd]
  have hS : Below w.heap.size w wd := by rw [← hwd]; exact (Below.refl _ _).drew
  clear hwd
  refine wpAnyH_take (i := 0) rfl (by kernel_rfl) (by kernel_rfl) (by kernel_rfl) (fun _ _ _ h => h) (Or.inl ⟨rfl, fun W hW => by (obtain ⟨c0, c1, c2, c3, c4, c5, c6, c7, c8, c9, c10⟩ := FW.out W hW); go_simp; try with_reducible rfl⟩) hS ?_
  refine wpAnyH_take (i := 1) rfl (by kernel_rfl) (by kernel_rfl) (by kernel_rfl) (fun _ _ _ h => h) (Or.inl ⟨rfl, fun W hW => by (obtain ⟨c0, c1, c2, c3, c4, c5, c6, c7, c8, c9, c10⟩ := FW.out W hW); go_simp; try with_reducible rfl⟩) hS ?_
  refine wpAnyH_take (i := 2) rfl (by kernel_rfl) (by kernel_rfl) (by kernel_rfl) (fun _ _ _ h => h) (Or.inl ⟨rfl, fun W hW => by (obtain ⟨c0, c1, c2, c3, c4, c5, c6, c7, c8, c9, c10⟩ := FW.out W hW); go_simp; try with_reducible rfl⟩) hS ?_
  refine wpAnyH_take (i := 3) rfl (by kernel_rfl) (by kernel_rfl) (by kernel_rfl) (fun _ _ _ h => h) (Or.inl ⟨rfl, fun W hW => by (obtain ⟨c0, c1, c2, c3, c4, c5, c6, c7, c8, c9, c10⟩ := FW.out W hW); go_simp; try with_reducible rfl⟩) hS ?_
  refine wpAnyH_take (i := 4) rfl (by kernel_rfl) (by kernel_rfl) (by kernel_rfl) (fun _ _ _ h => h) (Or.inl ⟨rfl, fun W hW => by (obtain ⟨c0, c1, c2, c3, c4, c5, c6, c7, c8, c9, c10⟩ := FW.out W hW); go_simp; try with_reducible rfl⟩) hS ?_
  refine wpAnyH_take (i := 5) rfl (by kernel_rfl) (by kernel_rfl) (by kernel_rfl) (fun _ _ _ h => h) (Or.inl ⟨rfl, fun W hW => by (obtain ⟨c0, c1, c2, c3, c4, c5, c6, c7, c8, c9, c10⟩ := FW.out W hW); go_simp; try with_reducible rfl⟩) hS ?_
  refine wpAnyH_take (i := 6) rfl (by kernel_rfl) (by kernel_rfl) (by kernel_rfl) (fun _ _ _ h => h) (Or.inl ⟨rfl, fun W hW => by (obtain ⟨c0, c1, c2, c3, c4, c5, c6, c7, c8, c9, c10⟩ := FW.out W hW); go_simp; try with_reducible rfl⟩) hS ?_
  refine wpAnyH_take (i := 7) rfl (by kernel_rfl) (by kernel_rfl) (by kernel_rfl) (fun _ _ _ h => h) (Or.inl ⟨rfl, fun W hW => by (obtain ⟨c0, c1, c2, c3, c4, c5, c6, c7, c8, c9, c10⟩ := FW.out W hW); go_simp; try with_reducible rfl⟩) hS ?_
  refine wpAnyH_take (i := 8) rfl (by kernel_rfl) (by kernel_rfl) (by kernel_rfl) (fun _ _ _ h => h) (Or.inl ⟨rfl, fun W hW => by (obtain ⟨c0, c1, c2, c3, c4, c5, c6, c7, c8, c9, c10⟩ := FW.out W hW); go_simp; try with_reducible rfl⟩) hS ?_
  refine wpAnyH_take (i := 9) rfl (by kernel_rfl) (by kernel_rfl) (by kernel_rfl) (fun _ _ _ h => h) (Or.inl ⟨rfl, fun W hW => by (obtain ⟨c0, c1, c2, c3, c4, c5, c6, c7, c8, c9, c10⟩ := FW.out W hW); go_simp; try with_reducible rfl⟩) hS ?_
  refine wpAnyH_take (i := 10) rfl (by kernel_rfl) (by kernel_rfl) (by kernel_rfl) (fun _ _ _ h => h) (Or.inl ⟨rfl, fun W hW => by (obtain ⟨c0, c1, c2, c3, c4, c5, c6, c7, c8, c9, c10⟩ := FW.out W hW); go_simp; try with_reducible rfl⟩) hS ?_
  refine wpAnyH_take (i := 11) rfl (by kernel_rfl) (by kernel_rfl) (by kernel_rfl) (fun _ _ _ h => h) (Or.inl ⟨rfl, fun W hW => by (obtain ⟨c0, c1, c2, c3, c4, c5, c6, c7, c8, c9, c10⟩ := FW.out W hW); go_simp; try with_reducible rfl⟩) hS ?_
  refine wpAnyH_take (i := 12) rfl (by kernel_rfl) (by kernel_rfl) (by kernel_rfl) (fun _ _ _ h => h) (Or.inl ⟨rfl, fun W hW => by (obtain ⟨c0, c1, c2, c3, c4, c5, c6, c7, c8, c9, c10⟩ := FW.out W hW); go_simp; try with_reducible rfl⟩) hS ?_
  refine wpAnyH_take (i := 13) rfl (by kernel_rfl) (by kernel_rfl) (by kernel_rfl) (fun _ _ _ h => h) (Or.inl ⟨rfl, fun W hW => by (obtain ⟨c0, c1, c2, c3, c4, c5, c6, c7, c8, c9, c10⟩ := FW.out W hW); go_simp; try with_reducible rfl⟩) hS ?_
  refine wpAnyH_take (i := 14) rfl (by kernel_rfl) (by kernel_rfl) (by kernel_rfl) (fun _ _ _ h => h) (Or.inl ⟨rfl, fun W hW => by (obtain ⟨c0, c1, c2, c3, c4, c5, c6, c7, c8, c9, c10⟩ := FW.out W hW); go_simp; try with_reducible rfl⟩) hS ?_
  refine wpAnyH_take (i := 15) rfl (by kernel_rfl) (by kernel_rfl) (by kernel_rfl) (fun _ _ _ h => h) (Or.inl ⟨rfl, fun W hW => by (obtain ⟨c0, c1, c2, c3, c4, c5, c6, c7, c8, c9, c10⟩ := FW.out W hW); go_simp; try with_reducible rfl⟩) hS ?_
  refine wpAnyH_take (i := 16) rfl (by kernel_rfl) (by kernel_rfl) (by kernel_rfl) (fun _ _ _ h => h) (Or.inl ⟨rfl, fun W hW => by (obtain ⟨c0, c1, c2, c3, c4, c5, c6, c7, c8, c9, c10⟩ := FW.out W hW); go_simp; try with_reducible rfl⟩) hS ?_
  refine wpAnyH_take (i := 17) rfl (by kernel_rfl) (by kernel_rfl) (by kernel_rfl) (fun _ _ _ h => h) (Or.inl ⟨rfl, fun W hW => by (obtain ⟨c0, c1, c2, c3, c4, c5, c6, c7, c8, c9, c10⟩ := FW.out W hW); go_simp; try with_reducible rfl⟩) hS ?_
  refine wpAnyH_take (i := 18) rfl (by kernel_rfl) (by kernel_rfl) (by kernel_rfl) (fun _ _ _ h => h) (Or.inl ⟨rfl, fun W hW => by (obtain ⟨c0, c1, c2, c3, c4, c5, c6, c7, c8, c9, c10⟩ := FW.out W hW); go_simp; try with_reducible rfl⟩) hS ?_
  refine wpAnyH_all (rs := [19]) (by kernel_rfl) (by simp) fun i0 hi0 => ?_
  obtain rfl := List.mem_singleton.1 hi0
  refine wpOp_enter (i := 19) rfl rfl (by go_simp; exact ⟨rfl, rfl⟩) ?_
  with_reducible refine Calls.mono (view_any me dr bdr A cap l wd w.heap.size (Hl.out.below hS) hS.size hlen) ?_
  rintro r w5 ⟨pv, rfl, hown5, hb5⟩
  have hS5 : Below w.heap.size w w5 := hS.trans (hb5.mono hS.size)
  refine ⟨_, rfl, hS5, ?_⟩
  obtain ⟨Ap, cp, rfl⟩ := hown5.shape
  refine wpAnyH_all (rs := [20]) (by kernel_rfl) (by simp) fun i0 hi0 => ?_
  obtain rfl := List.mem_singleton.1 hi0
  refine wpOp_value (i := 20) rfl rfl (by go_simp; exact ⟨rfl, rfl⟩) ?_
  refine ⟨hS5.alloc hS5.size _, ?_⟩
  rcases hSp : (⟨1, listedV me dr bdr l (decide (0 < fr) && 1 == lan) fr, sentV me dr bdr l (decide (0 < fr) && 1 == lan) fr, if sentV me dr bdr l (decide (0 < fr) && 1 == lan) fr = true then destI (viewSt me dr bdr) else 0⟩ : Spr) with ⟨one, L, sent, to⟩
  have hone : one = 1 := (congrArg Spr.lan hSp).symm
  subst hone
  refine wpAnyH_all (rs := [21]) (by kernel_rfl) (by simp) fun i0 hi0 => ?_
  obtain rfl := List.mem_singleton.1 hi0
  refine wpOp_enter (i := 21) rfl rfl (by go_simp; exact ⟨rfl, rfl⟩) ?_
  with_reducible refine Calls.mono (over_one a1 a2 a3 a4 a5 a6 a7 lan fr me dr bdr l hlen hown5 rfl hSp) ?_
  rintro r w7 ⟨v7, sv, rfl, hown7, hb7⟩
  have hS7 : Below w.heap.size w w7 := (hS5.alloc hS5.size _).trans (hb7.mono (hS5.alloc hS5.size _).size)
  refine ⟨_, rfl, hS7, ?_⟩
  refine wpAnyH_take (i := 22) rfl (by kernel_rfl) (by kernel_rfl) (by kernel_rfl) (fun _ _ _ h => h) (Or.inl ⟨rfl, fun W hW => by go_simp; try with_reducible rfl⟩) hS7 ?_
  refine wpAnyH_done (by kernel_rfl) ?_ _
  obtain ⟨g, cp7, rfl, hg1, hg2, x0, x1, x2, x3⟩ := hown7.at_ 0 (by simp)
  have hL := (hown7.each _ (List.mem_singleton.2 rfl)).1
  simp only [List.getElem_cons_zero, Nat.zero_mul, Nat.zero_add, List.length_singleton] at x0 x1 x2 x3 hL ⊢
  obtain ⟨As, cs, rfl⟩ := hL.shape
  have hrows := hL.rows.2
  have hLs : L = listedV me dr bdr l (decide (0 < fr) && 1 == lan) fr := (congrArg Spr.listed hSp).symm
  have hse : sentV me dr bdr l (decide (0 < fr) && 1 == lan) fr = sent := congrArg Spr.sent hSp
  have hto : (if sent = true then destI (viewSt me dr bdr) else 0) = to := by have := congrArg Spr.to hSp; rwa [hse] at this
  have hLlen : L.length ≤ 1000 := by
    rw [hLs]
    have h1 := listed_len (fun _ => false) (decide (0 < fr) && 1 == lan) fr (peersL me dr bdr l)
    have h2 := peersL_len me dr bdr l
    unfold listedV
    omega
  have hh7 := HallAt.below Hh.out hS7
  have hgh : g ≠ gh := by have := Hh.out.blk.lt; have := hS5.size; simp at hg1; omega
  have hgf : some g ≠ fv.ownBlock := fun e => by have := (Hh.out.own.block g e.symm).2; have := hS5.size; simp at hg1; omega
  have hFlen := HFl.out
  rw [hse] at hFlen
  have hFe : F' = if sent = true then F ++ [(me, to)] else F := by
    rw [← HF'.out]; unfold sendF; rw [hse]
    cases sent
    · rfl
    · simp only [if_true] at hto ⊢; rw [hto]
  have HF := Lib.hid hFe
  have HL := Lib.hid hrows
  have Hin := Lib.hid (show ∀ y ∈ L, (y == fr) = false ∧ (y == me) = false by rw [hLs]; exact Hc.out)
  have Hh7 := Lib.hid hh7
  have HS7 := Lib.hid hS7
  have Hne := Lib.hid (And.intro hgh hgf)
  clear hFe hS hS5 hS7 hb5 hb7 hown5 hown7 hL hrows hLs hse hto hSp hh7 hgh hgf hg1 hg2 HF' HFl Hc
  go_simp
  go_wp2
  go_loop [42] (fun i => ∃ k : Nat, k ≤ L.length ∧ i = .int .i64 k) (fun i => L.length - (intOf i).toNat)
  case atStart => exact ⟨0, Nat.zero_le _, rfl⟩
  case round =>
    obtain ⟨k, hk, rfl⟩ := hrel
    by_cases hlt : k < L.length
    · obtain ⟨b, o, hA, hbB, hcell⟩ := RowsAt.at_ HL.out k hlt
      have e0 := hcell 0 (.int .i64 L[k]) (by omega) rfl
      obtain ⟨n1, n2⟩ := Hin.out L[k] (List.getElem_mem hlt)
      simp only [Nat.mul_one, Nat.add_zero] at e0
      subst hA
      generalize L[k] = y at *
      clear hcell hbB
      go_wp2
      go_round
      case rel => exact ⟨k + 1, hlt, by go_num⟩
      case measure => simp [intOf]; omega
    · have hkk : k = L.length := by omega
      subst hkk
      clear HL Hin
      cases sent
      · have e := HF.out
        simp only [Bool.false_eq_true, if_false] at e
        subst e
        obtain ⟨A9, c9, rfl⟩ := Hh7.out.own.shape
        have y10 := Hh7.out.blk.cell 10
        have f10 : w7.cell? ⟨gh, 10, none⟩ = some (.slice A9 F'.length c9) := y10
        clear y10 hFlen
        go_wp2
        go_ret
        refine ⟨?_, _, Hh7.out, HallKept.of_below HS7.out, .inl rfl⟩; (simp; omega)
      · have e := HF.out
        simp only [if_true] at e
        subst e
        obtain ⟨A9, c9, rfl⟩ := Hh7.out.own.shape
        have f10 : w7.cell? ⟨gh, 10, none⟩ = some (.slice A9 F.length c9) := Hh7.out.blk.cell 10
        clear hFlen
        go_wp2_with fail
        refine wp_region_held (S := fun W => W.cell? ⟨g, 3, none⟩ = some (.int .i64 to)) (by kernel_rfl) ?_
        obtain ⟨wd, hwd⟩ : ∃ wd : World, ({ w7 with drawn := w7.drawn + 1 } : World) = wd := ⟨_, rfl⟩
        rw [hwd]
        have hb7d : Below w7.heap.size w7 wd := by rw [← hwd]; exact (Below.refl _ _).drew
        have hS : wd.cell? ⟨g, 3, none⟩ = some (.int .i64 to) := cellIn x3 hb7d
        clear hwd
        refine wpAnyH_take (i := 0) rfl (by kernel_rfl) (by kernel_rfl) (by kernel_rfl) (fun _ _ _ h => h) (Or.inl ⟨rfl, fun W hW => by (have hW' : W.cell? ⟨g, 3, none⟩ = some (.int .i64 to) := hW); go_simp; try with_reducible rfl⟩) hS ?_
        refine wpAnyH_take (i := 1) rfl (by kernel_rfl) (by kernel_rfl) (by kernel_rfl) (fun _ _ _ h => h) (Or.inl ⟨rfl, fun W hW => by (have hW' : W.cell? ⟨g, 3, none⟩ = some (.int .i64 to) := hW); go_simp; try with_reducible rfl⟩) hS ?_
        refine wpAnyH_take (i := 2) rfl (by kernel_rfl) (by kernel_rfl) (by kernel_rfl) (fun _ _ _ h => h) (Or.inl ⟨rfl, fun W hW => by (have hW' : W.cell? ⟨g, 3, none⟩ = some (.int .i64 to) := hW); go_simp; try with_reducible rfl⟩) hS ?_
        refine wpAnyH_take (i := 3) rfl (by kernel_rfl) (by kernel_rfl) (by kernel_rfl) (fun _ _ _ h => h) (Or.inl ⟨rfl, fun W hW => by (have hW' : W.cell? ⟨g, 3, none⟩ = some (.int .i64 to) := hW); go_simp; try with_reducible rfl⟩) hS ?_
        refine wpAnyH_take (i := 5) rfl (by kernel_rfl) (by kernel_rfl) (by kernel_rfl) (fun _ _ _ h => h) (Or.inl ⟨rfl, fun W hW => by (have hW' : W.cell? ⟨g, 3, none⟩ = some (.int .i64 to) := hW); go_simp; try with_reducible rfl⟩) hS ?_
        refine wpAnyH_take (i := 6) rfl (by kernel_rfl) (by kernel_rfl) (by kernel_rfl) (fun _ _ _ h => h) (Or.inl ⟨rfl, fun W hW => by (have hW' : W.cell? ⟨g, 3, none⟩ = some (.int .i64 to) := hW); go_simp; try with_reducible rfl⟩) hS ?_
        refine wpAnyH_take (i := 7) rfl (by kernel_rfl) (by kernel_rfl) (by kernel_rfl) (fun _ _ _ h => h) (Or.inl ⟨rfl, fun W hW => by (have hW' : W.cell? ⟨g, 3, none⟩ = some (.int .i64 to) := hW); go_simp; try with_reducible rfl⟩) hS ?_
        refine wpAnyH_take (i := 8) rfl (by kernel_rfl) (by kernel_rfl) (by kernel_rfl) (fun _ _ _ h => h) (Or.inl ⟨rfl, fun W hW => by (have hW' : W.cell? ⟨g, 3, none⟩ = some (.int .i64 to) := hW); go_simp; try with_reducible rfl⟩) hS ?_
        refine wpAnyH_take (i := 9) rfl (by kernel_rfl) (by kernel_rfl) (by kernel_rfl) (fun _ _ _ h => h) (Or.inl ⟨rfl, fun W hW => by (have hW' : W.cell? ⟨g, 3, none⟩ = some (.int .i64 to) := hW); go_simp; try with_reducible rfl⟩) hS ?_
        refine wpAnyH_take (i := 10) rfl (by kernel_rfl) (by kernel_rfl) (by kernel_rfl) (fun _ _ _ h => h) (Or.inl ⟨rfl, fun W hW => by (have hW' : W.cell? ⟨g, 3, none⟩ = some (.int .i64 to) := hW); go_simp; try with_reducible rfl⟩) hS ?_
        have hhd := Hh7.out.below hb7d
        have d10 : wd.cell? ⟨gh, 10, none⟩ = some (.slice A9 F.length c9) := hhd.blk.cell 10
        have Hhd := Lib.hid hhd
        have hFb : F.length + 1 ≤ 2 ^ 30 := by omega
        obtain ⟨i0, hi, hz0, hz1, hz2⟩ := info_parts infoFrm
        have happ : ∃ v' w6, (Builtin.append_ #[29, 29] 29 #[.slice A9 F.length c9, .slice (some ⟨wd.heap.size, 0, none⟩) 1 1]).run Try.prog (wd.alloc (.cells #[.int .i64 me, .int .i64 to] 35)) = .ok v' w6 ∧
            OwnF w6 Bf v' (F ++ [(me, to)]) ∧ (wd.alloc (.cells #[.int .i64 me, .int .i64 to] 35)).grownBy w6 (Value.slice A9 F.length c9).ownBlock ∧ (v'.ownBlock = (Value.slice A9 F.length c9).ownBlock ∨ v'.ownBlock = some (wd.alloc (.cells #[.int .i64 me, .int .i64 to] 35)).heap.size) := by
          obtain ⟨v', w6, h1, h2, h3, h4⟩ := run_append_any (P := Try.prog) (wd.alloc (.cells #[.int .i64 me, .int .i64 to] 35)) Bf 29 29 35 i0 _ 2 16 Try.underlying29 hi hz0 hz1 hz2 rfl (by decide) _ F.length (F.flatMap frmCells) (Hhd.out.own.alloc _) (wd.heap.size + 1) (some ⟨wd.heap.size, 0, none⟩) 1 1 (frmCells (me, to))
            ⟨rfl, fun _ => ⟨wd.heap.size, 0, rfl, Nat.lt_succ_self _, fun j y hj => by rw [Nat.zero_add, (Blk.new wd _ _).cell j, ← hj]; simp [frmCells]⟩⟩ (frm_ones _) (by unfold maxLen; omega) (by omega) (by have := Hhd.out.blk.lt; have := HS7.out.size; have := hb7d.size; simp; omega)
          exact ⟨v', w6, h1, by simpa [OwnR, List.flatMap_append] using h2, h3, h4⟩
        obtain ⟨v', w6, hrun, hown6, hg6, hv6⟩ := happ
        obtain ⟨q10, qf10, hh8, hk8, hv8⟩ := Hhd.out.grow hown6 hg6 hv6
        have q3 : w6.cell? ⟨g, 3, none⟩ = some (.int .i64 to) := cell_only hS hg6 Hne.out.2
        obtain ⟨A8, c8, rfl⟩ := hown6.shape
        have hlen8 : (F ++ [(me, to)]).length = F.length + 1 := by simp
        rw [hlen8] at hrun hh8 hk8 hv8
        clear hlen8
        have z10 := hh8.blk.cell 10
        have Hrun := Lib.hid hrun
        have Hh8 := Lib.hid hh8
        have Hk8 := Lib.hid hk8
        have Hv8 := Lib.hid hv8
        clear hrun hh8 hk8 hv8 hown6 hg6 hv6 hhd
        refine wpAnyH_all (rs := [4, 11]) (by kernel_rfl) (by simp) fun i1 hi1 => ?_
        rcases (by simpa using hi1 : i1 = 4 ∨ i1 = 11) with rfl | rfl
        · refine wpOp_value (i := 4) rfl rfl (by go_simp; first | done | rfl | exact ⟨rfl, rfl⟩) ⟨hS, ?_⟩
          refine wpAnyH_all (rs := [11]) (by kernel_rfl) (by simp) fun i2 hi2 => ?_
          obtain rfl := List.mem_singleton.1 hi2
          refine wpOp_value (i := 11) rfl rfl (by go_simp; first | done | rfl | exact ⟨rfl, rfl⟩) ?_
          refine ⟨cell_new hS _, ?_⟩
          refine wpAnyH_all (rs := [12]) (by kernel_rfl) (by simp) fun i3 hi3 => ?_
          obtain rfl := List.mem_singleton.1 hi3
          refine wpOp_wp (i := 12) rfl rfl ?_
          have hev : ∀ (x y x' y' : Value), x = x' → y = y' → (Builtin.append_ #[29, 29] 29 #[x', y']).run Try.prog (wd.alloc (.cells #[.int .i64 me, .int .i64 to] 35)) = .ok (Value.slice A8 (F.length + 1) c8) w6 → (Builtin.append_ #[29, 29] 29 #[x, y]).run Try.prog (wd.alloc (.cells #[.int .i64 me, .int .i64 to] 35)) = .ok (Value.slice A8 (F.length + 1) c8) w6 := fun x y x' y' h1 h2 h => by rw [h1, h2]; exact h
          refine wp_append_run (v := .slice A8 (F.length + 1) c8) (w' := w6) rfl (hev _ _ (.slice A9 F.length c9) (.slice (some ⟨wd.heap.size, 0, none⟩) 1 1) (by go_simp; try with_reducible rfl) (by go_simp; try with_reducible rfl) Hrun.out) ?_
          refine ⟨q3, ?_⟩
          clear hev
          refine wpAnyH_all (rs := [13]) (by kernel_rfl) (by simp) fun i4 hi4 => ?_
          obtain rfl := List.mem_singleton.1 hi4
          refine wpOp_value (i := 13) rfl rfl (by go_simp; try with_reducible rfl) ⟨q3, ?_⟩
          refine wpAnyH_all (rs := [14]) (by kernel_rfl) (by simp) fun i5 hi5 => ?_
          obtain rfl := List.mem_singleton.1 hi5
          refine wpOp_value (i := 14) rfl rfl (by go_simp; try with_reducible rfl) ⟨q3, ?_⟩
          refine wpAnyH_all (rs := [15]) (by kernel_rfl) (by simp) fun i6 hi6 => ?_
          obtain rfl := List.mem_singleton.1 hi6
          refine wpOp_skip (i := 15) (w' := w6.setCell ⟨gh, 10, none⟩ (.slice A8 (F.length + 1) c8)) rfl rfl (by go_simp; try with_reducible rfl) ?_
          refine ⟨?_, ?_⟩
          · exact (World.cell?_setCell_other (w := w6) (a := ⟨gh, 10, none⟩) (b := ⟨g, 3, none⟩) (v := .slice A8 (F.length + 1) c8) (by intro e; injection e with e; exact Hne.out.1 e.symm)).trans q3
          refine wpAnyH_done (by kernel_rfl) ?_ _
          go_simp
          go_wp2
          go_ret
          refine ⟨?_, _, Hh8.out, hall_chain HS7.out hb7d Hk8.out, hall_blocks HS7.out hb7d Hv8.out⟩; (simp; omega)
        · refine wpOp_value (i := 11) rfl rfl (by go_simp; first | done | rfl | exact ⟨rfl, rfl⟩) ?_
          refine ⟨cell_new hS _, ?_⟩
          have e10 : (wd.alloc (.cells #[.int .i64 me, .int .i64 to] 35)).cell? ⟨gh, 10, none⟩ = some (.slice A9 F.length c9) := cell_new d10 _
          refine wpAnyH_all (rs := [4]) (by kernel_rfl) (by simp) fun i2 hi2 => ?_
          obtain rfl := List.mem_singleton.1 hi2
          refine wpOp_value (i := 4) rfl rfl (by go_simp; first | done | rfl | exact ⟨rfl, rfl⟩) ?_
          refine ⟨cell_new hS _, ?_⟩
          refine wpAnyH_all (rs := [12]) (by kernel_rfl) (by simp) fun i3 hi3 => ?_
          obtain rfl := List.mem_singleton.1 hi3
          refine wpOp_wp (i := 12) rfl rfl ?_
          have hev : ∀ (x y x' y' : Value), x = x' → y = y' → (Builtin.append_ #[29, 29] 29 #[x', y']).run Try.prog (wd.alloc (.cells #[.int .i64 me, .int .i64 to] 35)) = .ok (Value.slice A8 (F.length + 1) c8) w6 → (Builtin.append_ #[29, 29] 29 #[x, y]).run Try.prog (wd.alloc (.cells #[.int .i64 me, .int .i64 to] 35)) = .ok (Value.slice A8 (F.length + 1) c8) w6 := fun x y x' y' h1 h2 h => by rw [h1, h2]; exact h
          refine wp_append_run (v := .slice A8 (F.length + 1) c8) (w' := w6) rfl (hev _ _ (.slice A9 F.length c9) (.slice (some ⟨wd.heap.size, 0, none⟩) 1 1) (by go_simp; try with_reducible rfl) (by go_simp; try with_reducible rfl) Hrun.out) ?_
          refine ⟨q3, ?_⟩
          clear hev
          refine wpAnyH_all (rs := [13]) (by kernel_rfl) (by simp) fun i4 hi4 => ?_
          obtain rfl := List.mem_singleton.1 hi4
          refine wpOp_value (i := 13) rfl rfl (by go_simp; try with_reducible rfl) ⟨q3, ?_⟩
          refine wpAnyH_all (rs := [14]) (by kernel_rfl) (by simp) fun i5 hi5 => ?_
          obtain rfl := List.mem_singleton.1 hi5
          refine wpOp_value (i := 14) rfl rfl (by go_simp; try with_reducible rfl) ⟨q3, ?_⟩
          refine wpAnyH_all (rs := [15]) (by kernel_rfl) (by simp) fun i6 hi6 => ?_
          obtain rfl := List.mem_singleton.1 hi6
          refine wpOp_skip (i := 15) (w' := w6.setCell ⟨gh, 10, none⟩ (.slice A8 (F.length + 1) c8)) rfl rfl (by go_simp; try with_reducible rfl) ?_
          refine ⟨?_, ?_⟩
          · exact (World.cell?_setCell_other (w := w6) (a := ⟨gh, 10, none⟩) (b := ⟨g, 3, none⟩) (v := .slice A8 (F.length + 1) c8) (by intro e; injection e with e; exact Hne.out.1 e.symm)).trans q3
          refine wpAnyH_done (by kernel_rfl) ?_ _
          go_simp
          go_wp2
          go_ret
          refine ⟨?_, _, Hh8.out, hall_chain HS7.out hb7d Hk8.out, hall_blocks HS7.out hb7d Hv8.out⟩; (simp; omega)

end Go.Proofs.Ytfhikkmgclkcdaa
