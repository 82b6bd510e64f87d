/-
  FloodLan: the walk of view.
-/
import Derived.Test.YtfhikkmgclkcdaaFlView
namespace Go.Proofs.Ytfhikkmgclkcdaa
open Go.RowKit

def fullB (me dr bdr x : Int) : Bool := me == dr || me == bdr || x == dr || x == bdr
def peerOf (me dr bdr x : Int) : Peer := ⟨x, 1, dr, bdr, if fullB me dr bdr x = true then 6 else 2, true, 0⟩
def peersL (me dr bdr : Int) (l : List Int) : List Peer := (l.filter fun x => x != me).map (peerOf me dr bdr)
def viewSt (me dr bdr : Int) : Int := if (me == dr) = true then 4 else if (me == bdr) = true then 3 else 2
theorem peersL_succ (me dr bdr : Int) (l : List Int) (k : Nat) (hk : k < l.length) : peersL me dr bdr (l.take (k + 1)) = peersL me dr bdr (l.take k) ++ (if (l[k] != me) = true then [peerOf me dr bdr l[k]] else []) := by
  unfold peersL
  rw [List.take_succ_eq_append_getElem hk, List.filter_append, List.map_append]
  congr 1
  by_cases h : (l[k] != me) = true <;> simp [h]
theorem peersL_len (me dr bdr : Int) (l : List Int) : (peersL me dr bdr l).length ≤ l.length := by
  unfold peersL; rw [List.length_map]; exact List.length_filter_le _ _
theorem infoPeer : (Try.prog.info? 112).map (fun i => (i.zero, i.size, i.bytes)) = some (some (.agg #[.int .i64 0, .int .i64 0, .int .i64 0, .int .i64 0, .int .i64 0, .bool false, .int .i64 0]), 7, 56) := by kernel_rfl
theorem peer_ones (x : Peer) : ∀ u ∈ Peer.cells x, u.oneCell' = true := by
  intro u hu
  simp [Peer.cells] at hu
  rcases hu with rfl | rfl | rfl | rfl | rfl | rfl | rfl <;> rfl
abbrev OwnP := OwnR 112 7 Peer.cells
/-- where the loop stands -/
structure VwAt (w wr : World) (me st dr bdr : Int) (pv : Value) (L : List Peer) : Prop where
  r : Blk wr w.heap.size 116 #[.int .i64 0, .int .i64 0, .int .i64 0, .int .i64 0, .int .i64 0, .int .i64 0, .int .i64 0, .slice none 0 0, .slice none 0 0]
  v : Blk wr (w.heap.size + 1) 116 #[.int .i64 1, .int .i64 0, .int .i64 me, .int .i64 1, .int .i64 st, .int .i64 dr, .int .i64 bdr, pv, .slice none 0 0]
  own : OwnP wr (w.heap.size + 2) pv L
  bel : Below w.heap.size w wr
  size : w.heap.size + 2 ≤ wr.heap.size
theorem vw_start (w : World) (me st dr bdr : Int) :
    VwAt w ((w.alloc (.cells #[.int .i64 0, .int .i64 0, .int .i64 0, .int .i64 0, .int .i64 0, .int .i64 0, .int .i64 0, .slice none 0 0, .slice none 0 0] 116)).alloc (.cells #[.int .i64 1, .int .i64 0, .int .i64 me, .int .i64 1, .int .i64 st, .int .i64 dr, .int .i64 bdr, .slice none 0 0, .slice none 0 0] 116)) me st dr bdr (.slice none 0 0) [] where
  r := (Blk.new w _ _).alloc _
  v := Blk.size (by simp)
  own := OwnR.nil _ _
  bel := ((Below.refl _ _).alloc (Nat.le_refl _) _).alloc (by simp) _
  size := by simp
section
variable {w wr w' : World} {me st dr bdr : Int} {pv : Value} {L : List Peer}
theorem VwAt.st_ (h : VwAt w wr me st dr bdr pv L) (st' : Int) : VwAt w (wr.setCell ⟨w.heap.size + 1, 4, none⟩ (.int .i64 st')) me st' dr bdr pv L where
  r := h.r.far (by simp) _
  v := by simpa using h.v.set_ 4 (.int .i64 st')
  own := h.own.set_ (by simp) _
  bel := h.bel.setCell (by simp) _
  size := by simpa using h.size
theorem VwAt.below (h : VwAt w wr me st dr bdr pv L) (hb : Below wr.heap.size wr w') : VwAt w w' me st dr bdr pv L where
  r := h.r.below hb h.r.lt
  v := h.v.below hb h.v.lt
  own := h.own.below hb
  bel := h.bel.trans (hb.mono h.bel.size)
  size := Nat.le_trans h.size hb.size
theorem VwAt.alloc (h : VwAt w wr me st dr bdr pv L) (o : Obj) : VwAt w (wr.alloc o) me st dr bdr pv L := h.below ((Below.refl _ _).alloc (Nat.le_refl _) o)
theorem VwAt.setFar (h : VwAt w wr me st dr bdr pv L) {p : Addr} (hp : w.heap.size + 2 ≤ p.block) (hne : ∀ k, pv.ownBlock = some k → k ≠ p.block) (u : Value) : VwAt w (wr.setCell p u) me st dr bdr pv L where
  r := h.r.far (by omega) _
  v := h.v.far (by omega) _
  own := h.own.kept (row := some p.block) ⟨rfl, rfl, rfl, by simp, fun k _ hn => Below.heap_setCell wr p u k (fun e => hn (by rw [e]))⟩ (by
    rcases hv : pv.ownBlock with _ | k
    · exact .inl rfl
    · right; intro e; injection e with e; exact hne k hv e)
  bel := h.bel.setCell (by omega) _
  size := by simpa using h.size
theorem VwAt.app (h : VwAt w wr me st dr bdr pv L) {pv' : Value} {x : Peer} (hown : OwnP w' (w.heap.size + 2) pv' (L ++ [x])) (hg : wr.grownBy w' pv.ownBlock) :
    Blk w' (w.heap.size + 1) 116 #[.int .i64 1, .int .i64 0, .int .i64 me, .int .i64 1, .int .i64 st, .int .i64 dr, .int .i64 bdr, pv, .slice none 0 0] ∧ VwAt w (w'.setCell ⟨w.heap.size + 1, 7, none⟩ pv') me st dr bdr pv' (L ++ [x]) := by
  have hk := h.own.block
  have n : ∀ j, j < w.heap.size + 2 → some j ≠ pv.ownBlock := fun j hj e => by have := (hk j e.symm).1; omega
  have b1 := h.v.grown hg (n _ (by omega))
  have hs := h.size
  have hgs := hg.size
  exact ⟨b1, (h.r.grown hg (n _ (by omega))).far (by simp) _, by simpa using b1.set_ 7 pv', hown.set_ (by simp) _, (h.bel.grown hg h.bel.size (fun k e => by have := (hk k e).1; omega)).setCell (by simp) _, by simp; omega⟩
end
theorem full_cases (me dr bdr x : Int) : ((me == dr) = true ∧ fullB me dr bdr x = true) ∨ ((me == dr) = false ∧ (me == bdr) = true ∧ fullB me dr bdr x = true) ∨ ((me == dr) = false ∧ (me == bdr) = false ∧ (x == dr) = true ∧ fullB me dr bdr x = true) ∨
    ((me == dr) = false ∧ (me == bdr) = false ∧ (x == dr) = false ∧ (x == bdr) = true ∧ fullB me dr bdr x = true) ∨ ((me == dr) = false ∧ (me == bdr) = false ∧ (x == dr) = false ∧ (x == bdr) = false ∧ fullB me dr bdr x = false) := by
  unfold fullB
  cases (me == dr) <;> cases (me == bdr) <;> cases (x == dr) <;> cases (x == bdr) <;> simp
theorem st_cases (me dr bdr : Int) : ((me == dr) = true ∧ viewSt me dr bdr = 4) ∨ ((me == dr) = false ∧ (me == bdr) = true ∧ viewSt me dr bdr = 3) ∨ ((me == dr) = false ∧ (me == bdr) = false ∧ viewSt me dr bdr = 2) := by
  unfold viewSt
  cases (me == dr) <;> cases (me == bdr) <;> simp

set_option maxHeartbeats 4000000 in
set_option maxRecDepth 100000 in
theorem view_any (me dr bdr : Int) (A : Option Addr) (cap : Nat) (l : List Int) (w : World) (B : Nat) (hl : RowsAt 1 icell w B A l) (hB : B ≤ w.heap.size) (hlen : l.length ≤ 1000) :
    Calls Try.prog 61 #[.int .i64 me, .int .i64 dr, .int .i64 bdr, .slice A l.length cap] w
      fun r w' => ∃ pv, r = .returned (.agg #[.int .i64 1, .int .i64 0, .int .i64 me, .int .i64 1, .int .i64 (viewSt me dr bdr), .int .i64 dr, .int .i64 bdr, pv, .slice none 0 0]) ∧ OwnP w' w.heap.size pv (peersL me dr bdr l) ∧ Below w.heap.size w w' := by
  have Hl := Lib.hid (hl.more hB)
  clear hl hB
  have hst := st_cases me dr bdr
  generalize hS : viewSt me dr bdr = st at *
  clear hS
  have H1 := Lib.hid (vw_start w me st dr bdr)
  rcases hst with ⟨t1, rfl⟩ | ⟨t1, t2, rfl⟩ | ⟨t1, t2, rfl⟩
  all_goals
    go_enter Try.func61, Try.ntmps61
    go_wp2
    go_loopw [30] (fun i wr => ∃ (k : Nat) (pv : Value), k ≤ l.length ∧ i = .int .i64 k ∧ VwAt w wr me _ dr bdr pv (peersL me dr bdr (l.take k))) (fun i _ => l.length - (intOf i).toNat)
    case atStart => exact ⟨0, _, Nat.zero_le _, rfl, H1.out⟩
    case round =>
      obtain ⟨k, pv, hk, rfl, hvw⟩ := hrel
      by_cases hlt : k < l.length
      · obtain ⟨b, o, rfl, hbB, hc⟩ := RowsAt.at_ (Hl.out.below hvw.bel) k hlt
        have e0 := hc 0 (.int .i64 l[k]) (by omega) rfl
        simp only [Nat.mul_one, Nat.add_zero] at e0
        have hsucc := peersL_succ me dr bdr l k hlt
        have hll := peersL_len me dr bdr (l.take k)
        rw [List.length_take] at hll
        generalize l[k] = x at *
        generalize peersL me dr bdr (l.take k) = M at *
        obtain ⟨Ap, cp, rfl⟩ := hvw.own.shape
        have Hll := Lib.hid (show M.length ≤ 1000 by omega)
        clear hc hll
        by_cases hx : x = me
        · have hs : (x != me) = false := by simp [hx]
          rw [hs] at hsucc
          have Hsucc := Lib.hid hsucc
          have Hvw := Lib.hid hvw
          have hx' : (x == me) = true := by simp [hx]
          clear hsucc hvw hx hs hbB
          go_wp2
          go_roundw
          case measure => simp [intOf]; omega
          case rel => exact ⟨k + 1, _, hlt, by go_num, by rw [Hsucc.out]; simpa using Hvw.out⟩
        · have hs : (x != me) = true := by simp [hx]
          have hx' : (x == me) = false := by simp [hx]
          rw [hs] at hsucc
          obtain ⟨fu, hfu⟩ : ∃ f, fullB me dr bdr x = f := ⟨_, rfl⟩
          have hp : peerOf me dr bdr x = ⟨x, 1, dr, bdr, if fu = true then 6 else 2, true, 0⟩ := by unfold peerOf; rw [hfu]
          have hfc := full_cases me dr bdr x
          rw [hfu] at hfc
          rw [hp] at hsucc
          have Hsucc := Lib.hid hsucc
          have Hvw := Lib.hid hvw
          clear hsucc hvw hx hs hbB hp hfu
          obtain ⟨wp, gp, hgp, hWp, hWp6, hvp, hbp, hge, hne⟩ : ∃ wp gp, wr.heap.size = gp ∧ wr.alloc (.cells #[.int .i64 x, .int .i64 1, .int .i64 dr, .int .i64 bdr, .int .i64 2, .bool true, .int .i64 0] 112) = wp ∧ wp.setCell ⟨gp, 6, none⟩ (.int .i64 0) = wp ∧ VwAt w wp me _ dr bdr (.slice Ap M.length cp) M ∧
              Blk wp gp 112 #[.int .i64 x, .int .i64 1, .int .i64 dr, .int .i64 bdr, .int .i64 2, .bool true, .int .i64 0] ∧ w.heap.size + 2 ≤ gp ∧ (∀ k, (Value.slice Ap M.length cp).ownBlock = some k → k ≠ gp) :=
            ⟨_, _, rfl, rfl, setCell_same (Blk.new _ _ _) rfl, Hvw.out.alloc _, Blk.new _ _ _, Hvw.out.size, fun k hk => by have := (Hvw.out.own.block k hk).2; omega⟩
          obtain ⟨wq, hWq, hvq, hbq⟩ : ∃ wq, wp.setCell ⟨gp, 4, none⟩ (.int .i64 6) = wq ∧ VwAt w wq me _ dr bdr (.slice Ap M.length cp) M ∧ Blk wq gp 112 #[.int .i64 x, .int .i64 1, .int .i64 dr, .int .i64 bdr, .int .i64 6, .bool true, .int .i64 0] :=
            ⟨_, rfl, hvp.setFar hge hne _, by simpa using hbp.set_ 4 (.int .i64 6)⟩
          obtain ⟨y0, y1, y2, y3, y4, y5, y6⟩ := Blk.cells7 hbp
          have yf := hbp.frozen 4
          have yf6 := hbp.frozen 6
          obtain ⟨q0, q1, q2, q3, q4, q5, q6⟩ := Blk.cells7 hbq
          obtain ⟨u0, u1, u2, u3, u4, u5, u6, u7, u8⟩ := Blk.cells9 hvp.v
          obtain ⟨r0, r1, r2, r3, r4, r5, r6, r7, r8⟩ := Blk.cells9 hvq.v
          have Hvp := Lib.hid hvp
          have Hvq := Lib.hid hvq
          clear hvp hvq hbp hbq hge hne
          rcases hfc with ⟨s1, rfl⟩ | ⟨s1, s2, rfl⟩ | ⟨s1, s2, s3, rfl⟩ | ⟨s1, s2, s3, s4, rfl⟩ | ⟨s1, s2, s3, s4, rfl⟩
          · first
              | (have hno := t1.symm.trans s1; cases hno; done)
              | (have hno := t2.symm.trans s2; cases hno; done)
              | (have HvX := Hvq
                 go_wp2_with (at_builtin; refine app_row Peer.cells (fun _ => rfl) (by decide) (by decide) infoPeer rfl Try.underlying113 peer_ones rfl _ _ rfl (w.heap.size + 2) (.slice Ap M.length cp) M rfl (HvX.out.alloc _).own wq.heap.size (⟨x, 1, dr, bdr, 6, true, 0⟩ : Peer) rfl (by exact Blk.new _ _ _) (by have := Hll.out; omega) (HvX.out.alloc (.cells #[.int .i64 x, .int .i64 1, .int .i64 dr, .int .i64 bdr, .int .i64 6, .bool true, .int .i64 0] 112)).size ?_; intro pv5 w5 hown5 hg5 _; have hap := (HvX.out.alloc _).app hown5 hg5; obtain ⟨A5, cap5, rfl⟩ := hown5.shape; have z7 : w5.cell? ⟨w.heap.size + 1, 7, none⟩ = some (.slice Ap M.length cp) := hap.1.cell 7; have j7 : w5.frozen? ⟨w.heap.size + 1, 7, none⟩ = false := hap.1.frozen 7; have Hap := Lib.hid hap.2; clear hap hown5 hg5)
                 refine ⟨⟨k + 1, _, hlt, by go_num, by rw [Hsucc.out]; simpa using Hap.out⟩, ?_⟩
                 simp [intOf]; omega)
          · first
              | (have hno := t1.symm.trans s1; cases hno; done)
              | (have hno := t2.symm.trans s2; cases hno; done)
              | (have HvX := Hvq
                 go_wp2_with (at_builtin; refine app_row Peer.cells (fun _ => rfl) (by decide) (by decide) infoPeer rfl Try.underlying113 peer_ones rfl _ _ rfl (w.heap.size + 2) (.slice Ap M.length cp) M rfl (HvX.out.alloc _).own wq.heap.size (⟨x, 1, dr, bdr, 6, true, 0⟩ : Peer) rfl (by exact Blk.new _ _ _) (by have := Hll.out; omega) (HvX.out.alloc (.cells #[.int .i64 x, .int .i64 1, .int .i64 dr, .int .i64 bdr, .int .i64 6, .bool true, .int .i64 0] 112)).size ?_; intro pv5 w5 hown5 hg5 _; have hap := (HvX.out.alloc _).app hown5 hg5; obtain ⟨A5, cap5, rfl⟩ := hown5.shape; have z7 : w5.cell? ⟨w.heap.size + 1, 7, none⟩ = some (.slice Ap M.length cp) := hap.1.cell 7; have j7 : w5.frozen? ⟨w.heap.size + 1, 7, none⟩ = false := hap.1.frozen 7; have Hap := Lib.hid hap.2; clear hap hown5 hg5)
                 refine ⟨⟨k + 1, _, hlt, by go_num, by rw [Hsucc.out]; simpa using Hap.out⟩, ?_⟩
                 simp [intOf]; omega)
          · first
              | (have hno := t1.symm.trans s1; cases hno; done)
              | (have hno := t2.symm.trans s2; cases hno; done)
              | (have HvX := Hvq
                 go_wp2_with (at_builtin; refine app_row Peer.cells (fun _ => rfl) (by decide) (by decide) infoPeer rfl Try.underlying113 peer_ones rfl _ _ rfl (w.heap.size + 2) (.slice Ap M.length cp) M rfl (HvX.out.alloc _).own wq.heap.size (⟨x, 1, dr, bdr, 6, true, 0⟩ : Peer) rfl (by exact Blk.new _ _ _) (by have := Hll.out; omega) (HvX.out.alloc (.cells #[.int .i64 x, .int .i64 1, .int .i64 dr, .int .i64 bdr, .int .i64 6, .bool true, .int .i64 0] 112)).size ?_; intro pv5 w5 hown5 hg5 _; have hap := (HvX.out.alloc _).app hown5 hg5; obtain ⟨A5, cap5, rfl⟩ := hown5.shape; have z7 : w5.cell? ⟨w.heap.size + 1, 7, none⟩ = some (.slice Ap M.length cp) := hap.1.cell 7; have j7 : w5.frozen? ⟨w.heap.size + 1, 7, none⟩ = false := hap.1.frozen 7; have Hap := Lib.hid hap.2; clear hap hown5 hg5)
                 refine ⟨⟨k + 1, _, hlt, by go_num, by rw [Hsucc.out]; simpa using Hap.out⟩, ?_⟩
                 simp [intOf]; omega)
          · first
              | (have hno := t1.symm.trans s1; cases hno; done)
              | (have hno := t2.symm.trans s2; cases hno; done)
              | (have HvX := Hvq
                 go_wp2_with (at_builtin; refine app_row Peer.cells (fun _ => rfl) (by decide) (by decide) infoPeer rfl Try.underlying113 peer_ones rfl _ _ rfl (w.heap.size + 2) (.slice Ap M.length cp) M rfl (HvX.out.alloc _).own wq.heap.size (⟨x, 1, dr, bdr, 6, true, 0⟩ : Peer) rfl (by exact Blk.new _ _ _) (by have := Hll.out; omega) (HvX.out.alloc (.cells #[.int .i64 x, .int .i64 1, .int .i64 dr, .int .i64 bdr, .int .i64 6, .bool true, .int .i64 0] 112)).size ?_; intro pv5 w5 hown5 hg5 _; have hap := (HvX.out.alloc _).app hown5 hg5; obtain ⟨A5, cap5, rfl⟩ := hown5.shape; have z7 : w5.cell? ⟨w.heap.size + 1, 7, none⟩ = some (.slice Ap M.length cp) := hap.1.cell 7; have j7 : w5.frozen? ⟨w.heap.size + 1, 7, none⟩ = false := hap.1.frozen 7; have Hap := Lib.hid hap.2; clear hap hown5 hg5)
                 refine ⟨⟨k + 1, _, hlt, by go_num, by rw [Hsucc.out]; simpa using Hap.out⟩, ?_⟩
                 simp [intOf]; omega)
          · first
              | (have hno := t1.symm.trans s1; cases hno; done)
              | (have hno := t2.symm.trans s2; cases hno; done)
              | (have HvX := Hvp
                 go_wp2_with (at_builtin; refine app_row Peer.cells (fun _ => rfl) (by decide) (by decide) infoPeer rfl Try.underlying113 peer_ones rfl _ _ rfl (w.heap.size + 2) (.slice Ap M.length cp) M rfl (HvX.out.alloc _).own wp.heap.size (⟨x, 1, dr, bdr, 2, true, 0⟩ : Peer) rfl (by exact Blk.new _ _ _) (by have := Hll.out; omega) (HvX.out.alloc (.cells #[.int .i64 x, .int .i64 1, .int .i64 dr, .int .i64 bdr, .int .i64 2, .bool true, .int .i64 0] 112)).size ?_; intro pv5 w5 hown5 hg5 _; have hap := (HvX.out.alloc _).app hown5 hg5; obtain ⟨A5, cap5, rfl⟩ := hown5.shape; have z7 : w5.cell? ⟨w.heap.size + 1, 7, none⟩ = some (.slice Ap M.length cp) := hap.1.cell 7; have j7 : w5.frozen? ⟨w.heap.size + 1, 7, none⟩ = false := hap.1.frozen 7; have Hap := Lib.hid hap.2; clear hap hown5 hg5)
                 refine ⟨⟨k + 1, _, hlt, by go_num, by rw [Hsucc.out]; simpa using Hap.out⟩, ?_⟩
                 simp [intOf]; omega)
      · have : k = l.length := by omega
        subst this
        rw [List.take_length] at hvw
        obtain ⟨Ap, cp, rfl⟩ := hvw.own.shape
        obtain ⟨u0, u1, u2, u3, u4, u5, u6, u7, u8⟩ := Blk.cells9 hvw.v
        obtain ⟨o0, o1, o2, o3, o4, o5, o6, o7, o8⟩ := Blk.cells9 hvw.r
        obtain ⟨f0, f1, f2, f3, f4, f5, f6, f7, f8⟩ : wr.frozen? ⟨w.heap.size, 0, none⟩ = false ∧ wr.frozen? ⟨w.heap.size, 1, none⟩ = false ∧ wr.frozen? ⟨w.heap.size, 2, none⟩ = false ∧ wr.frozen? ⟨w.heap.size, 3, none⟩ = false ∧ wr.frozen? ⟨w.heap.size, 4, none⟩ = false ∧ wr.frozen? ⟨w.heap.size, 5, none⟩ = false ∧ wr.frozen? ⟨w.heap.size, 6, none⟩ = false ∧ wr.frozen? ⟨w.heap.size, 7, none⟩ = false ∧ wr.frozen? ⟨w.heap.size, 8, none⟩ = false :=
          ⟨hvw.r.frozen 0, hvw.r.frozen 1, hvw.r.frozen 2, hvw.r.frozen 3, hvw.r.frozen 4, hvw.r.frozen 5, hvw.r.frozen 6, hvw.r.frozen 7, hvw.r.frozen 8⟩
        have Hvw := Lib.hid hvw
        clear hvw
        go_wp2
        refine bodyPost_ret (v := .agg #[.int .i64 1, .int .i64 0, .int .i64 me, .int .i64 1, .int .i64 _, .int .i64 dr, .int .i64 bdr, _, .slice none 0 0]) (by simp [results, Try.results61, go_sem, o0, o1, o2, o3, o4, o5, o6, o7, o8]; first | exact ⟨rfl, rfl⟩ | rfl) rfl ⟨_, rfl, OwnR.lower (B := w.heap.size + 2) ?_ (by omega), ?_⟩
        · repeat (refine OwnR.set_ ?_ (by simp) _)
          exact Hvw.out.own
        · repeat (refine Below.setCell ?_ (by simp) _)
          exact Hvw.out.bel

end Go.Proofs.Ytfhikkmgclkcdaa
