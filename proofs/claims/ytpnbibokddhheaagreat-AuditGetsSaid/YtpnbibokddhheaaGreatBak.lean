/-
  Layer 21: the search: the program's way.
-/
import Derived.Deep.LoopGhost
import Derived.Test.YtpnbibokddhheaaGreatBac
import Derived.Test.YtpnbibokddhheaaGreatBae
import Derived.Test.YtpnbibokddhheaaGreatBai
import Derived.Test.YtpnbibokddhheaaGreatBaj
namespace Go.Proofs.YtpnbibokddhheaaGreat
open Go.RowKit Go.Sort

theorem blk_ne_some {κ : Type} {enc : κ → Value} {w : World} {g b : Nat} {t : TypeId} {cs : Array Value} {L : List (κ × Value)} (hb : Blk w g t cs) (hm : MapAt enc w b L) : some g ≠ some b := fun e => blk_ne_map hb hm (by injection e)
theorem own_ne_some {α : Type} {e t : TypeId} {C g B : Nat} {cells : α → List Value} {w : World} {v : Value} {L : List α} {cs : Array Value} (ho : OwnR e C cells w B v L) (hb : Blk w g t cs) (hne : e ≠ t) : some g ≠ v.ownBlock := fun h => own_ne ho hb hne h.symm
theorem no_row (v : Value) : v.ownBlock = none ∨ v.ownBlock ≠ none := by cases v.ownBlock <;> simp
theorem zeroEs (w : World) : (zeroValue 87).run Tryz.prog w = .ok (.slice none 0 0) w := by kernel_rfl
structure NodesAt (w : World) (B : Nat) (v : Value) (N : List NodeM) : Prop where
  row : OwnR 90 5 NodeM.cells w B v N
  each : ∀ x ∈ N, OwnH w B x.nv x.next
def TreeOf (E : List Ed) (DD : Vx → Vx → Option Val2) (r : Vx) (L : List Nk) : Prop := (mayV r = true → TreeIs E DD r L) ∧ (mayV r = false → L = [])
theorem EdgAt.row {w : World} {B be : Nat} {G : EdG} (h : EdgAt w B be G) {k : Vx} {x0 : EdR} (hx0 : (getG k G).getD (.slice none 0 0, []) = x0) : OwnE w B x0.1 x0.2 := by
  cases hg : getG k G with
  | none => rw [hg] at hx0; simp only [Option.getD] at hx0; rw [← hx0]; exact OwnR.nil _ _
  | some y => rw [hg] at hx0; simp only [Option.getD] at hx0; have := h.own _ (getG_mem hg); rw [hx0] at this; exact this
structure SpMem (w wr : World) (ri : Int) (F : Fnd) (G : EdG) : Prop where
  fnd : FndAt wr w.heap.size (w.heap.size + 1) F
  edg : EdgAt wr w.heap.size w.heap.size G
  ks : Blk wr (w.heap.size + 1 + 1) 130 #[.int .i64 1, .int .i64 ri, .map (some w.heap.size), .map (some (w.heap.size + 1))]
  bel : Below w.heap.size w wr
theorem SpMem.below {w wr wr' : World} {ri : Int} {F : Fnd} {G : EdG} (h : SpMem w wr ri F G) (hb : Below wr.heap.size wr wr') : SpMem w wr' ri F G := ⟨h.fnd.below hb, h.edg.below hb, h.ks.below hb h.ks.lt, below_trans h.bel h.bel.size hb⟩
theorem SpMem.mv {w wr wr' : World} {ri : Int} {F F' : Fnd} {G : EdG} (h : SpMem w wr ri F G) (hf : FndAt wr' w.heap.size (w.heap.size + 1) F') (hm : Mv w.heap.size (w.heap.size + 1) wr wr') : SpMem w wr' ri F' G := ⟨hf, h.edg.mv hm (by omega) h.fnd.map, hm.blk h.ks (blk_ne_map h.ks h.fnd.map) (by decide), h.bel.trans hm.below⟩
theorem own_grow {α : Type} {e t : TypeId} {C B g : Nat} {cells : α → List Value} {w w' : World} {v : Value} {L : List α} {cs : Array Value} (ho : OwnR e C cells w B v L) (hg : w.grownBy w' (some g)) (hb : Blk w g t cs) (hne : e ≠ t) : OwnR e C cells w' B v L := ho.kept hg (.inr (own_ne ho hb hne))
/-- a block that is neither a place nor a row is turned -/
theorem SpMem.turn {w wr wr' : World} {ri : Int} {F : Fnd} {G : EdG} {g : Nat} {cs : Array Value} (h : SpMem w wr ri F G) (hg : wr.grownBy wr' (some g)) (hb : Blk wr g 39 cs) (hB : w.heap.size ≤ g) : SpMem w wr' ri F G where
  fnd := ⟨h.fnd.map.grown hg (fun e => blk_ne_map hb h.fnd.map (by injection e with e; exact e.symm)), h.fnd.base, fun e he => ⟨(h.fnd.blk e he).1.grown hg (fun e' => by
      have e2 : e.2.p = g := by injection e'
      have h1 := (h.fnd.blk e he).1
      rw [e2] at h1
      have h2 : wr.heap[g]? = some (.cells cs 39 (0, 0)) := hb
      have h3 : wr.heap[g]? = some (.cells e.2.cells 138 (0, 0)) := h1
      rw [h2] at h3
      injection h3 with h3
      injection h3 with _ h3
      revert h3
      decide), (h.fnd.blk e he).2⟩, fun e he => own_grow (h.fnd.own e he) hg hb (by decide), h.fnd.apart⟩
  edg := ⟨h.edg.map.grown hg (fun e => blk_ne_map hb h.edg.map (by injection e with e; exact e.symm)), h.edg.base, fun e he => own_grow (h.edg.own e he) hg hb (by decide), h.edg.apart⟩
  ks := h.ks.grown hg (fun e => by
    have e2 : w.heap.size + 1 + 1 = g := by injection e
    have h1 := h.ks
    rw [e2] at h1
    have h2 : wr.heap[g]? = some (.cells cs 39 (0, 0)) := hb
    have h3 : wr.heap[g]? = some (.cells _ 130 (0, 0)) := h1
    rw [h2] at h3
    injection h3 with h3
    injection h3 with _ h3
    revert h3
    decide)
  bel := h.bel.grown hg h.bel.size (fun m e => by injection e with e; omega)
theorem own_two {α β : Type} {e e' : TypeId} {C C' B B' : Nat} {cells : α → List Value} {cells' : β → List Value} {w : World} {v v' : Value} {L : List α} {L' : List β} (h : OwnR e C cells w B v L) (h' : OwnR e' C' cells' w B' v' L') (hne : e ≠ e') : v.ownBlock = none ∨ v.ownBlock ≠ v'.ownBlock := by
  rcases h.2 with ⟨g, -⟩ | ⟨g, cap, cur, h1, h2, h3, h4⟩
  · rw [g]; exact .inl rfl
  · right
    rcases h'.2 with ⟨g', -⟩ | ⟨g', cap', cur', h1', h2', h3', h4'⟩
    · rw [h1, g']; simp [Value.ownBlock]
    · rw [h1, h1']
      intro e2
      have e3 : g = g' := by injection e2
      rw [e3, h3'] at h3
      injection h3 with h3
      injection h3 with _ h3
      exact hne h3.symm
def nodM (e : Vx × PlW) : NodeM := ⟨e.1, e.2.pl.a, e.2.A, e.2.c, e.2.pl.next⟩
theorem nodes_apart {D : Fnd} (hn : (D.map (·.1)).Nodup) : (D.map nodM).Pairwise fun x y => ltX x.v y.v ∨ ltX y.v x.v := by
  rw [List.pairwise_map]
  have h : D.Pairwise fun a b => a.1 ≠ b.1 := by
    have := hn
    unfold List.Nodup at this
    rw [List.pairwise_map] at this
    exact this
  refine h.imp fun {a b} hab => ?_
  obtain ⟨⟨a1, a2⟩, _⟩ := a
  obtain ⟨⟨b1, b2⟩, _⟩ := b
  unfold ltX nodM
  simp only at hab ⊢
  by_cases h1 : a1 = b1
  · have h2 : a2 ≠ b2 := fun e => hab (by rw [h1, e])
    omega
  · omega
theorem keys_few {F : Fnd} (hn : (F.map (·.1)).Nodup) (hm : ∀ e ∈ F, mayV e.1 = true) : F.length ≤ 79 := by
  have := may_len hn (fun v hv => by obtain ⟨e, he, rfl⟩ := List.mem_map.1 hv; exact hm e he)
  rwa [List.length_map] at this
set_option maxHeartbeats 16000000 in
set_option maxRecDepth 100000 in
theorem Tree_any (ri : Int) (A : Option Addr) (cap : Nat) (E : List Ed) (w : World) (hE : RowsAt 5 Ed.cells w w.heap.size A E) (hlen : E.length ≤ 4000) (n : Nat) (hn : n = E.length) (DD : Vx → Vx → Option Val2) (hD : Dists E DD) :
    Calls Tryz.prog 27 #[.int .i64 ri, .slice A n cap] w fun r w' => (∃ v N, r = .returned v ∧ NodesAt w' w.heap.size v N ∧ TreeOf E DD ⟨1, ri⟩ (N.map NodeM.nk)) ∧ Below w.heap.size w w' := by
  subst hn
  have hmm := @run_makeMap Tryz.prog
  obtain ⟨g, hg⟩ : ∃ g, w.heap.size = g := ⟨_, rfl⟩
  obtain ⟨wa, hwa⟩ : ∃ wa, w.alloc (.map #[] 0) = wa := ⟨_, rfl⟩
  have hba := below_new w (.map #[] 0)
  have hma : MapAt Vx.enc (w.alloc (.map #[] 0)) w.heap.size [] := MapAt.new w
  have hsa : (w.alloc (.map #[] 0)).heap.size = w.heap.size + 1 := by simp
  rw [hwa] at hba hma hsa
  obtain ⟨wb, hwb⟩ : ∃ wb, wa.alloc (.map #[] 0) = wb := ⟨_, rfl⟩
  have hbb := below_new wa (.map #[] 0)
  have hmb : MapAt Vx.enc (wa.alloc (.map #[] 0)) wa.heap.size [] := MapAt.new wa
  have hsb : (wa.alloc (.map #[] 0)).heap.size = wa.heap.size + 1 := by simp
  rw [hwb] at hbb hmb hsb
  rw [hsa] at hmb hsb
  obtain ⟨wc, hwc⟩ : ∃ wc, wb.alloc (.cells #[.int .i64 1, .int .i64 ri, .map (some w.heap.size), .map (some (w.heap.size + 1))] 130) = wc := ⟨_, rfl⟩
  have hbc := below_new wb (.cells #[.int .i64 1, .int .i64 ri, .map (some w.heap.size), .map (some (w.heap.size + 1))] 130)
  have hkc := Blk.new wb 130 #[.int .i64 1, .int .i64 ri, .map (some w.heap.size), .map (some (w.heap.size + 1))]
  rw [hwc] at hbc hkc
  rw [hsb] at hkc
  obtain ⟨s0, s1, s2, s3, -⟩ := hkc.cells4
  have HMa := Lib.hid ((hma.below hbb hma.lt).below hbc (Nat.lt_of_lt_of_le hma.lt hbb.size))
  have HMb := Lib.hid (hmb.below hbc hmb.lt)
  have HKc := Lib.hid hkc
  have HBc := Lib.hid (below_trans hba hba.size (below_trans hbb hbb.size hbc))
  have HE := Lib.hid hE
  have HD := Lib.hid hD
  have Hlen := Lib.hid hlen
  have hlen' : (E.length : Int) ≤ 4000 := by omega
  obtain ⟨tm, htm⟩ : ∃ t, mayV ⟨1, ri⟩ = t := ⟨_, rfl⟩
  have HMay := Lib.hid (fun W => within_any 1 ri W htm)
  have Htm := Lib.hid htm
  clear hE hlen hD hba hma hbb hmb hbc hkc htm hg
  go_enter Tryz.func27, Tryz.ntmps27
  go_wp2_with fail
  clear s0 s1 s2 s3
  with_reducible refine Calls.mono (HMay.out _) ?_
  rintro r wd ⟨rfl, hbd⟩
  have hMa := HMa.out.below hbd HMa.out.lt
  have hMb := HMb.out.below hbd HMb.out.lt
  have hKc := HKc.out.below hbd HKc.out.lt
  have HMa := Lib.hid hMa
  have HMb := Lib.hid hMb
  have HKc := Lib.hid hKc
  have HBd := Lib.hid (below_trans HBc.out HBc.out.size hbd)
  clear hMa hMb hKc hbd hwa hwb hwc hsa hsb
  cases tm with
  | false =>
    go_wp2
    go_ret
    exact ⟨⟨_, [], rfl, ⟨OwnR.nil _ _, fun x hx => (by cases hx)⟩, fun h => (by rw [Htm.out] at h; cases h), fun _ => rfl⟩, HBd.out⟩
  | true =>
    clear hmm
    go_wp2
    go_loopw [29] (fun i wr => ∃ (k : Nat) (G : EdG), i = .int .i64 k ∧ k ≤ E.length ∧ EdgAt wr w.heap.size w.heap.size G ∧ EdgOf (E.take k) G ∧ Blk wr (w.heap.size + 1 + 1) 130 #[.int .i64 1, .int .i64 ri, .map (some w.heap.size), .map (some (w.heap.size + 1))] ∧ MapAt Vx.enc wr (w.heap.size + 1) [] ∧ Below w.heap.size w wr) (fun i _ => E.length - (intOf i).toNat)
    case atStart => exact ⟨0, [], rfl, Nat.zero_le _, ⟨HMa.out, Nat.le_refl _, fun e he => (by cases he), fun e he => (by cases he)⟩, edgOf_nil, HKc.out, HMb.out, HBd.out⟩
    case round =>
      obtain ⟨k, G, rfl, hk, hG, hGE, hks, hmf, hb⟩ := hrel
      clear HMa HMb HKc HBd HBc HMay
      by_cases hlt : k < E.length
      · have hkl : (k : Int) < (E.length : Int) := by omega
        obtain ⟨g', o', hA', -, x0, x1, x2, x3, x4⟩ := row_ed ((HE.out.below hb).more hb.size) k hlt
        have HA' := Lib.hid hA'
        rw [hA']
        have htk : E.take (k + 1) = E.take k ++ [E[k]] := (List.take_succ_eq_append_getElem hlt)
        have Hlt := Lib.hid hlt
        generalize hx : E[k] = x at *
        obtain ⟨e1, e2, e3, e4, e5⟩ := x
        simp only at x0 x1 x2 x3 x4
        have hb9 := below_new wr (.cells #[.int .i64 e1, .int .i64 e2, .int .i64 e3, .int .i64 e4, .int .i64 e5] 133)
        have hk9 := Blk.new wr 133 #[.int .i64 e1, .int .i64 e2, .int .i64 e3, .int .i64 e4, .int .i64 e5]
        obtain ⟨w9, hw9⟩ : ∃ w9, wr.alloc (.cells #[.int .i64 e1, .int .i64 e2, .int .i64 e3, .int .i64 e4, .int .i64 e5] 133) = w9 := ⟨_, rfl⟩
        rw [hw9] at hb9 hk9
        obtain ⟨t, ht⟩ : ∃ t, cntE ⟨e1, e2, e3, e4, e5⟩ = t := ⟨_, rfl⟩
        have HC := Lib.hid (fun W => counts_any e1 e2 e3 e4 e5 W ht)
        have Ht := Lib.hid ht
        have Htk := Lib.hid htk
        have HGE := Lib.hid hGE
        have Hb9 := Lib.hid hb9
        have Hk9 := Lib.hid hk9
        have HG := Lib.hid hG
        have Hks := Lib.hid hks
        have Hmf := Lib.hid hmf
        have Hb := Lib.hid hb
        obtain ⟨z0, z1, z2, z3, z4, -⟩ := hk9.cells5
        clear hA' hk hG hGE hks hmf hb hlt htk hx hb9 hk9 ht
        go_wp2_with fail
        clear x0 x1 x2 x3 x4 z0 z1 z2 z3 z4
        with_reducible refine Calls.mono (HC.out _) ?_
        rintro r we ⟨rfl, hbe⟩
        have hbre := Hb9.out.trans (hbe.mono Hb9.out.size)
        have HGe := Lib.hid (HG.out.below hbre)
        have Hkse := Lib.hid (Hks.out.below hbre Hks.out.lt)
        have Hmfe := Lib.hid (Hmf.out.below hbre Hmf.out.lt)
        have Hbe := Lib.hid (below_trans Hb.out Hb.out.size hbre)
        have Hk9e := Lib.hid (Hk9.out.below hbe Hk9.out.lt)
        clear hbe hbre Hks Hmf
        cases t with
        | false =>
          have Hs := Lib.hid (edgOf_skip HGE.out Ht.out)
          go_wp2
          go_roundw
          case measure => have := Hlt.out; simp [intOf]; omega
          case rel => exact ⟨k + 1, G, by go_num, Hlt.out, HGe.out, by rw [Htk.out]; exact Hs.out, Hkse.out, Hmfe.out, Hbe.out⟩
        | true =>
          obtain ⟨⟨vo, Lo⟩, hx0⟩ : ∃ x, (getG ⟨e1, e2⟩ G).getD (.slice none 0 0, []) = x := ⟨_, rfl⟩
          have hval : (getL (⟨e1, e2⟩ : Vx) (edV G)).getD (.slice none 0 0) = vo := by
            rw [getL_edV]
            cases hg : getG (⟨e1, e2⟩ : Vx) G with
            | none => rw [hg] at hx0; injection hx0
            | some y => rw [hg] at hx0; simp only [Option.getD] at hx0; rw [hx0]; rfl
          have hvo : OwnE we w.heap.size vo Lo := by
            cases hg : getG (⟨e1, e2⟩ : Vx) G with
            | none => rw [hg] at hx0; injection hx0 with e1 e2; rw [← e1, ← e2]; exact OwnR.nil _ _
            | some y => rw [hg] at hx0; simp only [Option.getD] at hx0; have := HGe.out.own _ (getG_mem hg); rw [hx0] at this; exact this
          have hLo : (((getG (⟨e1, e2⟩ : Vx) G).map (·.2)).getD []) = Lo := by
            cases hg : getG (⟨e1, e2⟩ : Vx) G with
            | none => rw [hg] at hx0; injection hx0
            | some y => rw [hg] at hx0; simp only [Option.getD] at hx0; rw [hx0]; rfl
          have hLol : Lo.length ≤ 4000 := by
            rw [← hLo, HGE.out]
            have h1 := List.length_filter_le (fun e => cntE e && decide (e.src = (⟨e1, e2⟩ : Vx))) (E.take k)
            rw [List.length_take] at h1
            have := Hlen.out
            omega
          have hvr : vo.ownBlock ≠ some wr.heap.size := by
            cases hg : getG (⟨e1, e2⟩ : Vx) G with
            | none => rw [hg] at hx0; injection hx0 with e1 e2; rw [← e1]; simp [Value.ownBlock]
            | some y => rw [hg] at hx0; simp only [Option.getD] at hx0; have := (HG.out.own _ (getG_mem hg)).block; rw [hx0] at this; exact fun e => Nat.lt_irrefl _ (this _ e).2
          obtain ⟨A7, c7, hv7⟩ := hvo.shape
          subst hv7
          have hfarv := hvr
          obtain ⟨nl, hnl⟩ : ∃ n, Lo.length = n := ⟨_, rfl⟩
          rw [hnl] at hval hx0 hvo hfarv
          have Hx0 := Lib.hid hx0
          have Hval := Lib.hid hval
          have Hvo := Lib.hid hvo
          have HLo := Lib.hid hLo
          have HLol := Lib.hid hLol
          have HBs := Lib.hid (show w.heap.size ≤ we.heap.size from Hbe.out.size)
          have Hne1 := Lib.hid (blk_ne_map Hkse.out HGe.out.map)
          have Hne2 := Lib.hid (blk_ne_map Hk9e.out HGe.out.map)
          have Hfar := Lib.hid (show (Value.slice A7 nl c7).ownBlock ≠ some wr.heap.size from hfarv)
          have Hbt := Lib.hid (show (getG (⟨e1, e2, e3, e4, e5⟩ : Ed).src G).map (·.2) = (getG (⟨e1, e2⟩ : Vx) G).map (·.2) from rfl)
          clear hx0 hval hvo hLo hLol hvr hfarv HG
          go_wp2_with fail
          refine wp_region_F (F := fun W => Blk W (w.heap.size + 1 + 1) 130 #[.int .i64 1, .int .i64 ri, .map (some w.heap.size), .map (some (w.heap.size + 1))] ∧ Blk W wr.heap.size 133 #[.int .i64 e1, .int .i64 e2, .int .i64 e3, .int .i64 e4, .int .i64 e5]) (n := 12) (m := 13) (s := #[false, false, false, false, false, false, false, false, false, false, false, false, false]) (by kernel_rfl) (by kernel_rfl) (by kernel_rfl) ?_
          intro wd hwd
          have hF : (fun W => Blk W (w.heap.size + 1 + 1) 130 #[.int .i64 1, .int .i64 ri, .map (some w.heap.size), .map (some (w.heap.size + 1))] ∧ Blk W wr.heap.size 133 #[.int .i64 e1, .int .i64 e2, .int .i64 e3, .int .i64 e4, .int .i64 e5]) wd := by rw [hwd.out]; exact ⟨Hkse.out.drew, Hk9e.out.drew⟩
          have hbwd : Below we.heap.size we wd := by rw [hwd.out]; exact (Below.refl _ _).drew
          have hMd := HGe.out.map.below hbwd HGe.out.map.lt
          clear hwd
          refine F_take (i := 0) (d := some 35) (by kernel_rfl) (by kernel_rfl) (by decide) (s' := #[true, false, false, false, false, false, false, false, false, false, false, false, false]) (by kernel_rfl) rfl rfl (by kernel_rfl) (by kernel_rfl) (by kernel_rfl) (fun _ _ _ h => h) (Or.inl ⟨by kernel_rfl, fun W hW => by go_simp; try with_reducible rfl⟩) hF ?_
          go_frame
          refine F_take (i := 1) (d := some 36) (by kernel_rfl) (by kernel_rfl) (by decide) (s' := #[true, true, false, false, false, false, false, false, false, false, false, false, false]) (by kernel_rfl) rfl rfl (by kernel_rfl) (by kernel_rfl) (by kernel_rfl) (fun _ _ _ h => h) (Or.inl ⟨by kernel_rfl, fun W hW => by go_simp; try with_reducible rfl⟩) hF ?_
          go_frame
          refine F_take (i := 2) (d := some 37) (by kernel_rfl) (by kernel_rfl) (by decide) (s' := #[true, true, true, false, false, false, false, false, false, false, false, false, false]) (by kernel_rfl) rfl rfl (by kernel_rfl) (by kernel_rfl) (by kernel_rfl) (fun _ _ _ h => h) (Or.inl ⟨by kernel_rfl, fun W hW => by go_simp; try with_reducible rfl⟩) hF ?_
          go_frame
          refine F_take (i := 3) (d := some 38) (by kernel_rfl) (by kernel_rfl) (by decide) (s' := #[true, true, true, true, false, false, false, false, false, false, false, false, false]) (by kernel_rfl) rfl rfl (by kernel_rfl) (by kernel_rfl) (by kernel_rfl) (fun _ _ _ h => h) (Or.inl ⟨by kernel_rfl, fun W hW => by obtain ⟨s0, s1, s2, s3, -⟩ := hW.1.cells4; go_simp; try with_reducible rfl⟩) hF ?_
          go_frame
          refine F_take (i := 4) (d := some 39) (by kernel_rfl) (by kernel_rfl) (by decide) (s' := #[true, true, true, true, true, false, false, false, false, false, false, false, false]) (by kernel_rfl) rfl rfl (by kernel_rfl) (by kernel_rfl) (by kernel_rfl) (fun _ _ _ h => h) (Or.inl ⟨by kernel_rfl, fun W hW => by go_simp; try with_reducible rfl⟩) hF ?_
          go_frame
          refine F_take (i := 5) (d := some 40) (by kernel_rfl) (by kernel_rfl) (by decide) (s' := #[true, true, true, true, true, true, false, false, false, false, false, false, false]) (by kernel_rfl) rfl rfl (by kernel_rfl) (by kernel_rfl) (by kernel_rfl) (fun _ _ _ h => h) (Or.inl ⟨by kernel_rfl, fun W hW => by obtain ⟨a0, a1, a2, a3, a4, -⟩ := hW.2.cells5; go_simp; try with_reducible rfl⟩) hF ?_
          go_frame
          refine F_take (i := 6) (d := some 42) (by kernel_rfl) (by kernel_rfl) (by decide) (s' := #[true, true, true, true, true, true, true, false, false, false, false, false, false]) (by kernel_rfl) rfl rfl (by kernel_rfl) (by kernel_rfl) (by kernel_rfl) (fun _ _ _ h => h) (Or.inl ⟨by kernel_rfl, fun W hW => by obtain ⟨a0, a1, a2, a3, a4, -⟩ := hW.2.cells5; go_simp; try with_reducible rfl⟩) hF ?_
          go_frame
          obtain ⟨wq, hV⟩ : ∃ v, wd.alloc (.cells #[.int .i64 e1, .int .i64 e2, .int .i64 e3, .int .i64 e4, .int .i64 e5] 133) = v := ⟨_, rfl⟩
          have hbq := below_new wd (.cells #[.int .i64 e1, .int .i64 e2, .int .i64 e3, .int .i64 e4, .int .i64 e5] 133)
          have kq := Blk.new wd 133 #[.int .i64 e1, .int .i64 e2, .int .i64 e3, .int .i64 e4, .int .i64 e5]
          obtain ⟨pq, hpq⟩ : ∃ p, wd.heap.size = p := ⟨_, rfl⟩
          rw [hV] at hbq kq
          rw [hpq] at kq
          have hF := show (fun W => Blk W (w.heap.size + 1 + 1) 130 #[.int .i64 1, .int .i64 ri, .map (some w.heap.size), .map (some (w.heap.size + 1))] ∧ Blk W wr.heap.size 133 #[.int .i64 e1, .int .i64 e2, .int .i64 e3, .int .i64 e4, .int .i64 e5]) wq from ⟨hF.1.below hbq hF.1.lt, hF.2.below hbq hF.2.lt⟩
          refine F_one (i := 7) (s' := #[true, true, true, true, true, true, true, true, false, false, false, false, false]) (by kernel_rfl) (by kernel_rfl) (wpOp_valueL (i := 7) (d := some 43) (w' := wq) (v := .slice (some ⟨pq, 0, none⟩) 1 1) rfl rfl (by kernel_rfl) (by go_simp) ⟨fun _ => hF, ?_⟩)
          go_frame
          clear hV hpq
          obtain ⟨w8, st, hrun, hen, hg1, -⟩ := MapAt.entry_run (P := Tryz.prog) (mt := 127) (hMd.below hbq hMd.lt) keyVx Tryz.underlying127 zeroEs ⟨e1, e2⟩
          rw [Hval.out] at hrun hen
          simp only [Vx.enc] at hrun
          have hF := show (fun W => Blk W (w.heap.size + 1 + 1) 130 #[.int .i64 1, .int .i64 ri, .map (some w.heap.size), .map (some (w.heap.size + 1))] ∧ Blk W wr.heap.size 133 #[.int .i64 e1, .int .i64 e2, .int .i64 e3, .int .i64 e4, .int .i64 e5]) w8 from ⟨hF.1.grown hg1 (fun e => Hne1.out (by injection e)), hF.2.grown hg1 (fun e => Hne2.out (by injection e))⟩
          refine F_one (i := 8) (s' := #[true, true, true, true, true, true, true, true, true, false, false, false, false]) (by kernel_rfl) (by kernel_rfl) (wpOp_valueL (i := 8) (d := some 44) (w' := w8) (v := .tuple #[.slice A7 nl c7, goInt st]) rfl rfl (by kernel_rfl) (by go_simp) ⟨fun _ => hF, ?_⟩)
          go_frame
          clear hrun
          refine F_take (i := 9) (d := some 41) (by kernel_rfl) (by kernel_rfl) (by decide) (s' := #[true, true, true, true, true, true, true, true, true, true, false, false, false]) (by kernel_rfl) rfl rfl (by kernel_rfl) (by kernel_rfl) (by kernel_rfl) (fun _ _ _ h => h) (Or.inl ⟨by kernel_rfl, fun W hW => by go_simp; try with_reducible rfl⟩) hF ?_
          go_frame
          refine F_take (i := 11) (d := some 46) (by kernel_rfl) (by kernel_rfl) (by decide) (s' := #[true, true, true, true, true, true, true, true, true, true, false, true, false]) (by kernel_rfl) rfl rfl (by kernel_rfl) (by kernel_rfl) (by kernel_rfl) (fun _ _ _ h => h) (Or.inl ⟨by kernel_rfl, fun W hW => by go_simp; try with_reducible rfl⟩) hF ?_
          go_frame
          have hg01 := grown_trans (grown_below (World.grownBy.refl we (some w.heap.size)) (below_trans hbwd hbwd.size hbq)) hg1
          have hB10 : w.heap.size ≤ w8.heap.size := Nat.le_trans HBs.out hg01.size
          have hov := OwnR.kept (OwnR.kept Hvo.out (grown_below (World.grownBy.refl we none) (below_trans hbwd hbwd.size hbq)) (no_row _)) hg1 (own_ne_map (OwnR.kept Hvo.out (grown_below (World.grownBy.refl we none) (below_trans hbwd hbwd.size hbq)) (no_row _)) (hMd.below hbq hMd.lt))
          have kq8 := kq.grown hg1 (blk_ne_some (kq) (hMd.below hbq hMd.lt))
          have hn1 := own_ne_some hov hF.1 (by decide)
          have hn2 : some wr.heap.size ≠ (Value.slice A7 nl c7).ownBlock := fun e => Hfar.out e.symm
          obtain ⟨v10, w10, hrun, ho10, hg2, hor⟩ := app_row_run (e := 133) (sl := 87) Ed.cells (fun _ => rfl) (by decide) (bytes := 40) (by decide) infoE rfl Tryz.underlying87 onesE (w := w8) 87 w.heap.size (.slice A7 nl c7) Lo hov pq ⟨e1, e2, e3, e4, e5⟩ kq8 (by have := HLol.out; omega) hB10
          have hF := show (fun W => Blk W (w.heap.size + 1 + 1) 130 #[.int .i64 1, .int .i64 ri, .map (some w.heap.size), .map (some (w.heap.size + 1))] ∧ Blk W wr.heap.size 133 #[.int .i64 e1, .int .i64 e2, .int .i64 e3, .int .i64 e4, .int .i64 e5]) w10 from ⟨hF.1.grown hg2 hn1, hF.2.grown hg2 hn2⟩
          obtain ⟨A8, c8, hv8⟩ := ho10.shape
          subst hv8
          have e8 : (Lo ++ [(⟨e1, e2, e3, e4, e5⟩ : Ed)]).length = nl + 1 := by rw [List.length_append, hnl]; rfl
          rw [e8] at ho10 hrun hor
          refine F_one (i := 10) (s' := #[true, true, true, true, true, true, true, true, true, true, true, true, false]) (by kernel_rfl) (by kernel_rfl) (wpOp_appendL (i := 10) (d := some 45) (t := 87) rfl rfl rfl (by kernel_rfl) rfl (by rfl) (by rfl) hrun ⟨fun _ => hF, ?_⟩)
          go_frame
          clear hrun
          have hen2 := hen.grown hg2 (fun e => (own_ne_map hov hen.map).elim (fun g => by rw [g] at e; cases e) (fun g => g e.symm))
          obtain ⟨w12, hrun, hm12, hg3, -⟩ := hen2.store_run (P := Tryz.prog) (mt := 127) (.slice A8 (nl + 1) c8)
          simp only [goInt] at hrun
          refine F_one (i := 12) (s' := #[true, true, true, true, true, true, true, true, true, true, true, true, true]) (by kernel_rfl) (by kernel_rfl) (wpOp_skipL (i := 12) (w' := w12) rfl rfl (by kernel_rfl) (by go_simp) ⟨fun h => absurd h (by decide), ?_⟩)
          go_frame
          refine F_done (by kernel_rfl) ?_ _
          have hputG := HGe.out.put Hx0.out hen hg01 (x := (.slice A8 (nl + 1) c8, Lo ++ [(⟨e1, e2, e3, e4, e5⟩ : Ed)])) ho10 hg2 hor hm12 hg3 Hbe.out.size
          have hputE := edgOf_put HGE.out Ht.out (v' := .slice A8 (nl + 1) c8)
          rw [Hbt.out, HLo.out] at hputE
          have hks12 := hF.1.grown hg3 (fun e => Hne1.out (by injection e))
          have hbfne : (some (w.heap.size + 1) : Option Nat) ≠ some w.heap.size := by simp
          have hmf8 := (Hmfe.out.grown hg01 hbfne)
          have hmf12 := (hmf8.grown hg2 (fun e => (own_ne_map hov hmf8).elim (fun g => by rw [g] at e; cases e) (fun g => g e.symm))).grown hg3 hbfne
          have hb12 := ((Hbe.out.grown hg01 Hbe.out.size (fun m e => by injection e with e; omega)).grown hg2 (by have := Hbe.out.size; have := hg01.size; omega) (fun m e => (hov.block m e).1)).grown hg3 (by have := Hbe.out.size; have := hg01.size; have := hg2.size; omega) (fun m e => by injection e with e; omega)
          have HputG := Lib.hid hputG
          have HputE := Lib.hid hputE
          have Hks12 := Lib.hid hks12
          have Hmf12 := Lib.hid hmf12
          have Hb12 := Lib.hid hb12
          clear hputG hputE hks12 hbfne hmf8 hmf12 hb12 hm12 hg3 hrun hen2 ho10 hg2 hor hn1 hn2 kq8 hov hB10 hg01 hen hg1 kq hbq hF hbwd hMd hnl e8
          go_wp2
          go_roundw
          case measure => have := Hlt.out; simp [intOf]; omega
          case rel => exact ⟨k + 1, _, by go_num, Hlt.out, HputG.out, by rw [Htk.out]; exact HputE.out, Hks12.out, Hmf12.out, Hb12.out⟩
      · have hke : k = E.length := by omega
        subst hke
        have hjk : ¬ (E.length : Int) < (E.length : Int) := by omega
        rw [List.take_length] at hGE
        have HGE := Lib.hid hGE
        have HG := Lib.hid hG
        have Hks := Lib.hid hks
        have Hf0 := Lib.hid (show FndAt wr w.heap.size (w.heap.size + 1) [] from ⟨hmf, by omega, fun e he => (by cases he), fun e he => (by cases he), fun e he => (by cases he)⟩)
        have Hb := Lib.hid hb
        clear hk hG hGE hks hmf hb hlt
        go_wp2
        refine wp_region_F (F := fun W => Below wr.heap.size wr W) (n := 10) (m := 11) (s := #[false, false, false, false, false, false, false, false, false, false, false]) (by kernel_rfl) (by kernel_rfl) (by kernel_rfl) ?_
        intro wd hwd
        have hF : Below wr.heap.size wr wd := by rw [hwd.out]; exact (Below.refl _ _).drew
        clear hwd
        refine F_take (i := 0) (d := some 48) (by kernel_rfl) (by kernel_rfl) (by decide) (s' := #[true, false, false, false, false, false, false, false, false, false, false]) (by kernel_rfl) rfl rfl (by kernel_rfl) (by kernel_rfl) (by kernel_rfl) (fun _ _ _ h => h) (Or.inl ⟨by kernel_rfl, fun W hW => by go_simp; try with_reducible rfl⟩) hF ?_
        go_frame
        refine F_take (i := 1) (d := some 49) (by kernel_rfl) (by kernel_rfl) (by decide) (s' := #[true, true, false, false, false, false, false, false, false, false, false]) (by kernel_rfl) rfl rfl (by kernel_rfl) (by kernel_rfl) (by kernel_rfl) (fun _ _ _ h => h) (Or.inl ⟨by kernel_rfl, fun W hW => by go_simp; try with_reducible rfl⟩) hF ?_
        go_frame
        refine F_take (i := 2) (d := some 50) (by kernel_rfl) (by kernel_rfl) (by decide) (s' := #[true, true, true, false, false, false, false, false, false, false, false]) (by kernel_rfl) rfl rfl (by kernel_rfl) (by kernel_rfl) (by kernel_rfl) (fun _ _ _ h => h) (Or.inl ⟨by kernel_rfl, fun W hW => by go_simp; try with_reducible rfl⟩) hF ?_
        go_frame
        refine F_take (i := 3) (d := some 51) (by kernel_rfl) (by kernel_rfl) (by decide) (s' := #[true, true, true, true, false, false, false, false, false, false, false]) (by kernel_rfl) rfl rfl (by kernel_rfl) (by kernel_rfl) (by kernel_rfl) (fun _ _ _ h => h) (Or.inl ⟨by kernel_rfl, fun W hW => by obtain ⟨s0, s1, s2, s3, -⟩ := (Hks.out.below hW Hks.out.lt).cells4; go_simp; try with_reducible rfl⟩) hF ?_
        go_frame
        refine F_take (i := 4) (d := some 52) (by kernel_rfl) (by kernel_rfl) (by decide) (s' := #[true, true, true, true, true, false, false, false, false, false, false]) (by kernel_rfl) rfl rfl (by kernel_rfl) (by kernel_rfl) (by kernel_rfl) (fun _ _ _ h => h) (Or.inl ⟨by kernel_rfl, fun W hW => by go_simp; try with_reducible rfl⟩) hF ?_
        go_frame
        refine F_take (i := 5) (d := some 53) (by kernel_rfl) (by kernel_rfl) (by decide) (s' := #[true, true, true, true, true, true, false, false, false, false, false]) (by kernel_rfl) rfl rfl (by kernel_rfl) (by kernel_rfl) (by kernel_rfl) (fun _ _ _ h => h) (Or.inl ⟨by kernel_rfl, fun W hW => by go_simp; try with_reducible rfl⟩) hF ?_
        go_frame
        refine F_take (i := 6) (d := some 54) (by kernel_rfl) (by kernel_rfl) (by decide) (s' := #[true, true, true, true, true, true, true, false, false, false, false]) (by kernel_rfl) rfl rfl (by kernel_rfl) (by kernel_rfl) (by kernel_rfl) (fun _ _ _ h => h) (Or.inl ⟨by kernel_rfl, fun W hW => by go_simp; try with_reducible rfl⟩) hF ?_
        go_frame
        refine F_take (i := 7) (d := some 55) (by kernel_rfl) (by kernel_rfl) (by decide) (s' := #[true, true, true, true, true, true, true, true, false, false, false]) (by kernel_rfl) rfl rfl (by kernel_rfl) (by kernel_rfl) (by kernel_rfl) (fun _ _ _ h => h) (Or.inl ⟨by kernel_rfl, fun W hW => by obtain ⟨s0, s1, s2, s3, -⟩ := (Hks.out.below hW Hks.out.lt).cells4; go_simp; try with_reducible rfl⟩) hF ?_
        go_frame
        refine F_take (i := 8) (d := some 56) (by kernel_rfl) (by kernel_rfl) (by decide) (s' := #[true, true, true, true, true, true, true, true, true, false, false]) (by kernel_rfl) rfl rfl (by kernel_rfl) (by kernel_rfl) (by kernel_rfl) (fun _ _ _ h => h) (Or.inl ⟨by kernel_rfl, fun W hW => by go_simp; try with_reducible rfl⟩) hF ?_
        go_frame
        refine F_one (i := 9) (s' := #[true, true, true, true, true, true, true, true, true, true, false]) (by kernel_rfl) (by kernel_rfl) ?_
        obtain ⟨w9, hV⟩ : ∃ v, wd.alloc (.cells #[.complex .f64 0 0, .slice none 0 0, .bool false] 138) = v := ⟨_, rfl⟩
        have hb9 := below_new wd (.cells #[.complex .f64 0 0, .slice none 0 0, .bool false] 138)
        have k9 := Blk.new wd 138 #[.complex .f64 0 0, .slice none 0 0, .bool false]
        obtain ⟨px, hpx⟩ : ∃ p, wd.heap.size = p := ⟨_, rfl⟩
        rw [hV] at hb9 k9
        rw [hpx] at k9
        have hszx : wr.heap.size ≤ px := by have := hF.size; omega
        have hF := below_trans hF hF.size hb9
        refine wpOp_valueL (i := 9) (d := some 57) (w' := w9) (v := .pointer (some ⟨px, 0, none⟩)) rfl rfl (by kernel_rfl) (by go_simp) ⟨fun _ => hF, ?_⟩
        go_frame
        clear hV hpx hb9
        have hm9 := (Hf0.out.below hF).map
        obtain ⟨wx, hrun, hmx, hgx, -⟩ := hm9.update_run (P := Tryz.prog) keyVx Tryz.underlying128 ⟨1, ri⟩ (.pointer (some ⟨px, 0, none⟩))
        simp only [Vx.enc] at hrun
        refine F_one (i := 10) (s' := #[true, true, true, true, true, true, true, true, true, true, true]) (by kernel_rfl) (by kernel_rfl) (wpOp_skipL (i := 10) (w' := wx) rfl rfl (by kernel_rfl) (by go_simp) ⟨fun h => absurd h (by decide), ?_⟩)
        go_frame
        refine F_done (by kernel_rfl) ?_ _
        have hput := Hf0.out.put (v := ⟨1, ri⟩) (y := ⟨px, none, 0, ⟨⟨0, 0⟩, []⟩, false⟩) hF hszx (by unfold PlW.cells; simp only [flt_zero0]; exact k9) (OwnR.nil _ _) Hb.out.size hmx hgx
        have Hfx := Lib.hid hput.1
        have Hmv := Lib.hid hput.2
        have Hksx := Lib.hid (hput.2.blk Hks.out (blk_ne_map Hks.out Hf0.out.map) (by decide))
        have HGx := Lib.hid (HG.out.mv hput.2 (by omega) Hf0.out.map)
        have Hbx := Lib.hid (Hb.out.trans hput.2.below)
        clear hput hrun hmx hgx hm9 hF hszx k9
        have hd0 := DjSt.start (E := E) (r := ⟨1, ri⟩) Htm.out (x := ⟨px, none, 0, ⟨⟨0, 0⟩, []⟩, false⟩) rfl rfl
        have hm0 : SpMem w wx ri (setF ⟨1, ri⟩ ⟨px, none, 0, ⟨⟨0, 0⟩, []⟩, false⟩ []) G := ⟨Hfx.out, HGx.out, Hksx.out, Hbx.out⟩
        obtain ⟨F0, hF0⟩ : ∃ F0, setF (⟨1, ri⟩ : Vx) (⟨px, none, 0, ⟨⟨0, 0⟩, []⟩, false⟩ : PlW) [] = F0 := ⟨_, rfl⟩
        rw [hF0] at hd0 hm0
        have HN := Lib.hid (nearest_any ri (w.heap.size + 1 + 1) w.heap.size (w.heap.size + 1) F0 w.heap.size wx hm0.ks hm0.fnd (hd0.may hm0.fnd.keys) (hd0.low hm0.fnd.keys))
        have Hd0 := Lib.hid hd0
        have Hm0 := Lib.hid hm0
        clear hd0 hm0 hF0 Hfx HGx Hksx Hbx Hmv HG Hks Hf0 Hb
        go_wp2_with fail
        with_reducible refine Calls.mono HN.out ?_
        rintro r wn ⟨⟨b, rfl, hB⟩, hbn⟩
        obtain ⟨⟨bk, bi⟩, hbv⟩ : ∃ v, bestV b = v := ⟨_, rfl⟩
        rw [hbv]
        have Hbv := Lib.hid hbv
        have HB := Lib.hid hB
        have Hmn := Lib.hid (Hm0.out.below hbn)
        clear hB hbn hbv HN Hm0
        go_wp2
        go_loopg [8, 9] 80 (fun k pv is wr => ∃ (F : Fnd) (O : List Vx) (Z : List Ed) (b : Option (Vx × PlW)) (g8 : Nat), pv = .pointer (some ⟨g8, 0, none⟩) ∧ is = .bool b.isSome ∧ k + O.length = 80 ∧ SpMem w wr ri F G ∧ DjSt E ⟨1, ri⟩ F O Z ∧ BestOf F b ∧ Blk wr g8 39 #[.int .i64 (bestV b).kind, .int .i64 (bestV b).id])
        case atStart => exact ⟨F0, [], [], b, wn.heap.size, rfl, rfl, rfl, Hmn.out.below (below_new _ _), Hd0.out, HB.out, by rw [Hbv.out]; exact Blk.new _ _ _⟩
        case round =>
          obtain ⟨F, O, Z, b, g8, rfl, rfl, hgk, hm, hd, hB, hc⟩ := hrel
          clear HB Hmn Hd0 Hbv
          have Hm := Lib.hid hm
          have Hd := Lib.hid hd
          have HB := Lib.hid hB
          have Hc := Lib.hid hc
          have Hgk := Lib.hid hgk
          clear hm hd hB hc hgk
          cases b with
          | none =>
            obtain ⟨wo, hwo⟩ : ∃ wo, wo = wr := ⟨_, rfl⟩
            subst hwo
            obtain ⟨s0, s1, s2, s3, -⟩ := Hm.out.ks.cells4
            have HFl := Lib.hid (keys_few Hm.out.fnd.keys (Hd.out.may Hm.out.fnd.keys))
            go_wp2_with (at_range; refine wpList_range_st _ rfl _ 128 rfl 39 135 Tryz.underlying128 rfl Hm.out.fnd.map ?_; intro w3 hr3 hb3 hs3; have HR3 := Lib.hid hr3; have Hb3 := Lib.hid hb3; have Hs3 := Lib.hid hs3; clear hr3 hb3 hs3)
            clear s0 s1 s2 s3
            go_frame
            go_loopw [12] (fun v wq => ∃ D R, RangeAt Vx.enc wq (w.heap.size + 1) wo.heap.size (valsF F) (valsF R) ∧ (D ++ R).Perm F ∧ OwnR 90 5 NodeM.cells wq (wo.heap.size + 1) v (D.map nodM) ∧ Below wo.heap.size wo wq ∧ wo.heap.size + 1 ≤ wq.heap.size) (fun _ wq => wq.rangeLeft (w.heap.size + 1) wo.heap.size)
            case atStart => exact ⟨[], F, HR3.out, by rw [List.nil_append], OwnR.nil _ _, Hb3.out, by rw [Hs3.out]; exact Nat.le_refl _⟩
            case round =>
              obtain ⟨D, R, hrg, hperm, hown, hb, hsz⟩ := hrel
              have hDl : D.length ≤ 79 := by
                have h1 := hperm.length_eq
                rw [List.length_append] at h1
                have := HFl.out
                omega
              obtain ⟨A9, c9, hv9⟩ := hown.shape
              subst hv9
              obtain ⟨nE, hnE⟩ : ∃ nE, (D.map nodM).length = nE := ⟨_, rfl⟩
              have hnE2 : nE ≤ 79 := by rw [← hnE, List.length_map]; exact hDl
              rw [hnE] at hown ⊢
              have Hrg := Lib.hid hrg
              have Hperm := Lib.hid hperm
              have Hown := Lib.hid hown
              have Hb := Lib.hid hb
              have Hsz := Lib.hid hsz
              have HnE := Lib.hid hnE
              have HnE2 := Lib.hid hnE2
              clear hrg hperm hown hb hsz HR3 Hb3 Hs3 hnE hnE2 hDl
              go_wp2_with (at_next; refine wpList_next_st _ rfl _ rfl keyVx.inj rfl Hrg.out ?_ ?_)
              · intro h0
                have hR0 : R = [] := by simpa [valsF] using h0
                subst hR0
                clear h0
                have hperm : D.Perm F := by simpa using Hperm.out
                have hnd : (D.map (·.1)).Nodup := ((hperm.map _).nodup_iff).2 Hm.out.fnd.keys
                have HS := Lib.hid (fun W hO => sortNs (.slice A9 nE c9) (D.map nodM) (wo.heap.size + 1) W hO (by have := HnE2.out; have := HnE.out; omega) (nodes_apart hnd))
                have Hp := Lib.hid hperm
                clear hperm hnd
                go_wp2_with (go_at_call 57; (with_reducible refine Calls.mono (HS.out _ Hown.out) ?_); rintro r w4 ⟨rfl, ⟨N, hown4, hpN, hsN⟩, hg4⟩; have HO4 := Lib.hid hown4; have HpN := Lib.hid hpN; have HsN := Lib.hid hsN; have Hg4 := Lib.hid hg4; clear hown4 hpN hsN hg4)
                go_ret
                refine ⟨⟨_, N, rfl, ⟨HO4.out.lower (by have := Hm.out.bel.size; omega), fun x hx => ?_⟩, fun _ => ?_, fun h => by rw [Htm.out] at h; cases h⟩, ?_⟩
                · obtain ⟨e, he, rfl⟩ := List.mem_map.1 (HpN.out.mem_iff.1 hx)
                  have h1 := (Hm.out.fnd.below Hb.out).own e (Hp.out.mem_iff.1 he)
                  exact OwnR.kept h1 Hg4.out (own_two h1 Hown.out (by decide))
                · refine Hd.out.tree Hm.out.fnd.keys HB.out HD.out rfl ?_ ?_
                  · rw [List.pairwise_map]
                    exact HsN.out
                  · intro n
                    rw [List.mem_map]
                    constructor
                    · rintro ⟨x, hx, rfl⟩
                      obtain ⟨e, he, rfl⟩ := List.mem_map.1 (HpN.out.mem_iff.1 hx)
                      exact ⟨e, Hp.out.mem_iff.1 he, rfl⟩
                    · rintro ⟨e, he, rfl⟩
                      exact ⟨nodM e, HpN.out.mem_iff.2 (List.mem_map.2 ⟨e, Hp.out.mem_iff.2 he, rfl⟩), rfl⟩
                · exact (below_trans Hm.out.bel Hm.out.bel.size Hb.out).grown Hg4.out (below_trans Hm.out.bel Hm.out.bel.size Hb.out).size (fun m e => by have := (Hown.out.block m e).1; have := Hm.out.bel.size; omega)
              · intro pre e ev post w5 hsplit hrg5 hg5 hs5 hen
                obtain ⟨P, ⟨vk, vi⟩, x, Q, hR, rfl, rfl, he⟩ := valsF_split hsplit
                injection he with he1 he2
                subst he1 he2
                rw [valsF_append] at hrg5
                have hmeas : (valsF (P ++ Q)).length < (valsF R).length := by rw [hR]; simp [valsF]
                have hperm2 : (D ++ [((⟨vk, vi⟩ : Vx), x)] ++ (P ++ Q)).Perm F := by
                  refine List.Perm.trans ?_ Hperm.out
                  rw [hR, List.append_assoc]
                  refine List.Perm.append_left D ?_
                  rw [List.singleton_append]
                  exact List.perm_middle.symm
                have hxF : ((⟨vk, vi⟩ : Vx), x) ∈ F := hperm2.mem_iff.1 (by simp)
                have hb5 : Below wo.heap.size wo w5 := Hb.out.grown hg5 Hb.out.size (fun m e => by injection e with e; omega)
                have hx5 := (Hm.out.fnd.below hb5).blk _ hxF
                have hlow := Hd.out.low Hm.out.fnd.keys _ hxF
                have hlow2 := (Hd.out.dij.low (tabF_some (getF_of_mem Hm.out.fnd.keys hxF))).2
                have ho5 := Hown.out.kept hg5 (.inr (fun e => by
                  have := (Hown.out.block _ e).1
                  omega))
                have hsz5 : wo.heap.size + 1 ≤ w5.heap.size := by rw [hs5]; exact Hsz.out
                obtain ⟨p, xA, xc, ⟨⟨ac, ah⟩, pn⟩, pd⟩ := x
                unfold PlW.cells at hx5
                simp only at hx5 hlow hlow2
                obtain ⟨np, hnp⟩ : ∃ n, pn.length = n := ⟨_, rfl⟩
                rw [hnp] at hx5
                unfold Vx.enc PlW.val at hen
                simp only at hen
                have i1 := fltInt (flt ac) ac (flt_toInt ac (by omega))
                have i2 := fltInt (flt ah) ah (flt_toInt ah (by omega))
                obtain ⟨w6, hw6⟩ : ∃ w6, w5.alloc (.cells #[.int .i64 vk, .int .i64 vi] 39) = w6 := ⟨_, rfl⟩
                have hk6 := Blk.new w5 39 #[.int .i64 vk, .int .i64 vi]
                have hb6 := below_new w5 (.cells #[.int .i64 vk, .int .i64 vi] 39)
                rw [hw6] at hk6 hb6
                have HR6 := Lib.hid (hrg5.below hb6 hrg5.map.lt hrg5.lt)
                have HB6 := Lib.hid (below_trans hb5 hb5.size hb6)
                have HO6 := Lib.hid (ho5.below hb6)
                have Hx6 := Lib.hid (hx5.1.below hb6 hx5.1.lt)
                have Hk6 := Lib.hid hk6
                have Hsz6 := Lib.hid (Nat.le_trans hsz5 hb6.size)
                have Hmeas := Lib.hid hmeas
                have Hperm2 := Lib.hid hperm2
                have Hnp := Lib.hid hnp
                have Hi1 := Lib.hid i1
                have Hi2 := Lib.hid i2
                obtain ⟨k0, k1, -, -⟩ := hk6.cells2
                clear hsplit hrg5 hg5 hs5 hR hmeas hperm2 hxF hb5 hx5 hlow hlow2 ho5 hsz5 hk6 hb6 i1 i2 hnp
                go_wp2
                clear k0 k1 hen
                refine wp_region_F (F := fun W => Blk W w5.heap.size 39 #[.int .i64 vk, .int .i64 vi] ∧ Blk W p 138 #[.complex .f64 (flt ac) (flt ah), .slice xA np xc, .bool pd]) (n := 21) (m := 22) (s := #[false, false, false, false, false, false, false, false, false, false, false, false, false, false, false, false, false, false, false, false, false, false]) (by kernel_rfl) (by kernel_rfl) (by kernel_rfl) ?_
                intro wd hwd
                have hF : (fun W => Blk W w5.heap.size 39 #[.int .i64 vk, .int .i64 vi] ∧ Blk W p 138 #[.complex .f64 (flt ac) (flt ah), .slice xA np xc, .bool pd]) wd := by rw [hwd.out]; exact ⟨Hk6.out.drew, Hx6.out.drew⟩
                have hbwd : Below w6.heap.size w6 wd := by rw [hwd.out]; exact (Below.refl _ _).drew
                clear hwd  
                refine F_take (i := 0) (d := some 103) (by kernel_rfl) (by kernel_rfl) (by decide) (s' := #[true, false, false, false, false, false, false, false, false, false, false, false, false, false, false, false, false, false, false, false, false, false]) (by kernel_rfl) rfl rfl (by kernel_rfl) (by kernel_rfl) (by kernel_rfl) (fun _ _ _ h => h) (Or.inl ⟨by kernel_rfl, fun W hW => by go_simp; try with_reducible rfl⟩) hF ?_
                go_frame
                refine F_take (i := 1) (d := some 104) (by kernel_rfl) (by kernel_rfl) (by decide) (s' := #[true, true, false, false, false, false, false, false, false, false, false, false, false, false, false, false, false, false, false, false, false, false]) (by kernel_rfl) rfl rfl (by kernel_rfl) (by kernel_rfl) (by kernel_rfl) (fun _ _ _ h => h) (Or.inl ⟨by kernel_rfl, fun W hW => by obtain ⟨k0, k1, -, -⟩ := hW.1.cells2; go_simp; try with_reducible rfl⟩) hF ?_
                go_frame
                refine F_take (i := 2) (d := some 105) (by kernel_rfl) (by kernel_rfl) (by decide) (s' := #[true, true, true, false, false, false, false, false, false, false, false, false, false, false, false, false, false, false, false, false, false, false]) (by kernel_rfl) rfl rfl (by kernel_rfl) (by kernel_rfl) (by kernel_rfl) (fun _ _ _ h => h) (Or.inl ⟨by kernel_rfl, fun W hW => by go_simp; try with_reducible rfl⟩) hF ?_
                go_frame
                refine F_take (i := 3) (d := some 106) (by kernel_rfl) (by kernel_rfl) (by decide) (s' := #[true, true, true, true, false, false, false, false, false, false, false, false, false, false, false, false, false, false, false, false, false, false]) (by kernel_rfl) rfl rfl (by kernel_rfl) (by kernel_rfl) (by kernel_rfl) (fun _ _ _ h => h) (Or.inl ⟨by kernel_rfl, fun W hW => by go_simp; try with_reducible rfl⟩) hF ?_
                go_frame
                refine F_take (i := 4) (d := some 107) (by kernel_rfl) (by kernel_rfl) (by decide) (s' := #[true, true, true, true, true, false, false, false, false, false, false, false, false, false, false, false, false, false, false, false, false, false]) (by kernel_rfl) rfl rfl (by kernel_rfl) (by kernel_rfl) (by kernel_rfl) (fun _ _ _ h => h) (Or.inl ⟨by kernel_rfl, fun W hW => by go_simp; try with_reducible rfl⟩) hF ?_
                go_frame
                refine F_take (i := 5) (d := some 108) (by kernel_rfl) (by kernel_rfl) (by decide) (s' := #[true, true, true, true, true, true, false, false, false, false, false, false, false, false, false, false, false, false, false, false, false, false]) (by kernel_rfl) rfl rfl (by kernel_rfl) (by kernel_rfl) (by kernel_rfl) (fun _ _ _ h => h) (Or.inl ⟨by kernel_rfl, fun W hW => by obtain ⟨x0, x1, x2⟩ := blk3 hW.2; go_simp; try with_reducible rfl⟩) hF ?_
                go_frame
                refine F_take (i := 6) (d := some 109) (by kernel_rfl) (by kernel_rfl) (by decide) (s' := #[true, true, true, true, true, true, true, false, false, false, false, false, false, false, false, false, false, false, false, false, false, false]) (by kernel_rfl) rfl rfl (by kernel_rfl) (by kernel_rfl) (by kernel_rfl) (fun _ _ _ h => h) (Or.inl ⟨by kernel_rfl, fun W hW => by go_simp; try with_reducible rfl⟩) hF ?_
                go_frame
                refine F_take (i := 7) (d := some 110) (by kernel_rfl) (by kernel_rfl) (by decide) (s' := #[true, true, true, true, true, true, true, true, false, false, false, false, false, false, false, false, false, false, false, false, false, false]) (by kernel_rfl) rfl rfl (by kernel_rfl) (by kernel_rfl) (by kernel_rfl) (fun _ _ _ h => h) (Or.inl ⟨by kernel_rfl, fun W hW => by have i1 := Hi1.out; go_simp; try with_reducible rfl⟩) hF ?_
                go_frame
                refine F_take (i := 8) (d := some 111) (by kernel_rfl) (by kernel_rfl) (by decide) (s' := #[true, true, true, true, true, true, true, true, true, false, false, false, false, false, false, false, false, false, false, false, false, false]) (by kernel_rfl) rfl rfl (by kernel_rfl) (by kernel_rfl) (by kernel_rfl) (fun _ _ _ h => h) (Or.inl ⟨by kernel_rfl, fun W hW => by go_simp; try with_reducible rfl⟩) hF ?_
                go_frame
                refine F_take (i := 9) (d := some 112) (by kernel_rfl) (by kernel_rfl) (by decide) (s' := #[true, true, true, true, true, true, true, true, true, true, false, false, false, false, false, false, false, false, false, false, false, false]) (by kernel_rfl) rfl rfl (by kernel_rfl) (by kernel_rfl) (by kernel_rfl) (fun _ _ _ h => h) (Or.inl ⟨by kernel_rfl, fun W hW => by go_simp; try with_reducible rfl⟩) hF ?_
                go_frame
                refine F_take (i := 10) (d := some 113) (by kernel_rfl) (by kernel_rfl) (by decide) (s' := #[true, true, true, true, true, true, true, true, true, true, true, false, false, false, false, false, false, false, false, false, false, false]) (by kernel_rfl) rfl rfl (by kernel_rfl) (by kernel_rfl) (by kernel_rfl) (fun _ _ _ h => h) (Or.inl ⟨by kernel_rfl, fun W hW => by go_simp; try with_reducible rfl⟩) hF ?_
                go_frame
                refine F_take (i := 11) (d := some 114) (by kernel_rfl) (by kernel_rfl) (by decide) (s' := #[true, true, true, true, true, true, true, true, true, true, true, true, false, false, false, false, false, false, false, false, false, false]) (by kernel_rfl) rfl rfl (by kernel_rfl) (by kernel_rfl) (by kernel_rfl) (fun _ _ _ h => h) (Or.inl ⟨by kernel_rfl, fun W hW => by obtain ⟨x0, x1, x2⟩ := blk3 hW.2; go_simp; try with_reducible rfl⟩) hF ?_
                go_frame
                refine F_take (i := 12) (d := some 115) (by kernel_rfl) (by kernel_rfl) (by decide) (s' := #[true, true, true, true, true, true, true, true, true, true, true, true, true, false, false, false, false, false, false, false, false, false]) (by kernel_rfl) rfl rfl (by kernel_rfl) (by kernel_rfl) (by kernel_rfl) (fun _ _ _ h => h) (Or.inl ⟨by kernel_rfl, fun W hW => by go_simp; try with_reducible rfl⟩) hF ?_
                go_frame
                refine F_take (i := 13) (d := some 116) (by kernel_rfl) (by kernel_rfl) (by decide) (s' := #[true, true, true, true, true, true, true, true, true, true, true, true, true, true, false, false, false, false, false, false, false, false]) (by kernel_rfl) rfl rfl (by kernel_rfl) (by kernel_rfl) (by kernel_rfl) (fun _ _ _ h => h) (Or.inl ⟨by kernel_rfl, fun W hW => by have i2 := Hi2.out; go_simp; try with_reducible rfl⟩) hF ?_
                go_frame
                refine F_take (i := 14) (d := some 117) (by kernel_rfl) (by kernel_rfl) (by decide) (s' := #[true, true, true, true, true, true, true, true, true, true, true, true, true, true, true, false, false, false, false, false, false, false]) (by kernel_rfl) rfl rfl (by kernel_rfl) (by kernel_rfl) (by kernel_rfl) (fun _ _ _ h => h) (Or.inl ⟨by kernel_rfl, fun W hW => by go_simp; try with_reducible rfl⟩) hF ?_
                go_frame
                refine F_take (i := 15) (d := some 118) (by kernel_rfl) (by kernel_rfl) (by decide) (s' := #[true, true, true, true, true, true, true, true, true, true, true, true, true, true, true, true, false, false, false, false, false, false]) (by kernel_rfl) rfl rfl (by kernel_rfl) (by kernel_rfl) (by kernel_rfl) (fun _ _ _ h => h) (Or.inl ⟨by kernel_rfl, fun W hW => by go_simp; try with_reducible rfl⟩) hF ?_
                go_frame
                refine F_take (i := 16) (d := some 119) (by kernel_rfl) (by kernel_rfl) (by decide) (s' := #[true, true, true, true, true, true, true, true, true, true, true, true, true, true, true, true, true, false, false, false, false, false]) (by kernel_rfl) rfl rfl (by kernel_rfl) (by kernel_rfl) (by kernel_rfl) (fun _ _ _ h => h) (Or.inl ⟨by kernel_rfl, fun W hW => by go_simp; try with_reducible rfl⟩) hF ?_
                go_frame
                refine F_take (i := 17) (d := some 120) (by kernel_rfl) (by kernel_rfl) (by decide) (s' := #[true, true, true, true, true, true, true, true, true, true, true, true, true, true, true, true, true, true, false, false, false, false]) (by kernel_rfl) rfl rfl (by kernel_rfl) (by kernel_rfl) (by kernel_rfl) (fun _ _ _ h => h) (Or.inl ⟨by kernel_rfl, fun W hW => by obtain ⟨x0, x1, x2⟩ := blk3 hW.2; go_simp; try with_reducible rfl⟩) hF ?_
                go_frame
                refine F_take (i := 18) (d := some 121) (by kernel_rfl) (by kernel_rfl) (by decide) (s' := #[true, true, true, true, true, true, true, true, true, true, true, true, true, true, true, true, true, true, true, false, false, false]) (by kernel_rfl) rfl rfl (by kernel_rfl) (by kernel_rfl) (by kernel_rfl) (fun _ _ _ h => h) (Or.inl ⟨by kernel_rfl, fun W hW => by go_simp; try with_reducible rfl⟩) hF ?_
                go_frame
                obtain ⟨wq, hV⟩ : ∃ v, wd.alloc (.cells #[.int .i64 vk, .int .i64 vi, .int .i64 ac, .int .i64 ah, .slice xA np xc] 90) = v := ⟨_, rfl⟩
                have hbq := below_new wd (.cells #[.int .i64 vk, .int .i64 vi, .int .i64 ac, .int .i64 ah, .slice xA np xc] 90)
                have kq := Blk.new wd 90 #[.int .i64 vk, .int .i64 vi, .int .i64 ac, .int .i64 ah, .slice xA np xc]
                obtain ⟨pq, hpq⟩ : ∃ p, wd.heap.size = p := ⟨_, rfl⟩
                rw [hV] at hbq kq
                rw [hpq] at kq
                have hF := show (fun W => Blk W w5.heap.size 39 #[.int .i64 vk, .int .i64 vi] ∧ Blk W p 138 #[.complex .f64 (flt ac) (flt ah), .slice xA np xc, .bool pd]) wq from ⟨hF.1.below hbq hF.1.lt, hF.2.below hbq hF.2.lt⟩
                refine F_one (i := 19) (s' := #[true, true, true, true, true, true, true, true, true, true, true, true, true, true, true, true, true, true, true, true, false, false]) (by kernel_rfl) (by kernel_rfl) (wpOp_valueL (i := 19) (d := some 122) (w' := wq) (v := .slice (some ⟨pq, 0, none⟩) 1 1) rfl rfl (by kernel_rfl) (by go_simp) ⟨fun _ => hF, ?_⟩)
                go_frame
                clear hV hpq
                have hb6q := below_trans hbwd hbwd.size hbq
                have hoq := HO6.out.below hb6q
                have hn1 := own_ne_some hoq hF.1 (by decide)
                have hn2 := own_ne_some hoq hF.2 (by decide)
                obtain ⟨v20, w20, hrun, ho20, hg2, hor⟩ := app_row_run (e := 90) (sl := 85) NodeM.cells (fun _ => rfl) (by decide) (bytes := 56) (by decide) infoN rfl Tryz.underlying85 onesN (w := wq) 85 (wo.heap.size + 1) (.slice A9 nE c9) (D.map nodM) hoq pq (nodM (⟨vk, vi⟩, ⟨p, xA, xc, ⟨⟨ac, ah⟩, pn⟩, pd⟩)) (by unfold NodeM.cells nodM; simp only; rw [Hnp.out]; exact kq) (by have := HnE.out; have := HnE2.out; omega) (by have := hb6q.size; have := Hsz6.out; omega)
                have hF := show (fun W => Blk W w5.heap.size 39 #[.int .i64 vk, .int .i64 vi] ∧ Blk W p 138 #[.complex .f64 (flt ac) (flt ah), .slice xA np xc, .bool pd]) w20 from ⟨hF.1.grown hg2 hn1, hF.2.grown hg2 hn2⟩
                refine F_one (i := 20) (s' := #[true, true, true, true, true, true, true, true, true, true, true, true, true, true, true, true, true, true, true, true, true, false]) (by kernel_rfl) (by kernel_rfl) (wpOp_appendL (i := 20) (d := some 123) (t := 85) rfl rfl rfl (by kernel_rfl) rfl (by rfl) (by rfl) hrun ⟨fun _ => hF, ?_⟩)
                go_frame
                clear hrun
                refine F_one (i := 21) (s' := #[true, true, true, true, true, true, true, true, true, true, true, true, true, true, true, true, true, true, true, true, true, true]) (by kernel_rfl) (by kernel_rfl) (wpOp_valueL (i := 21) (d := some 12) (w' := w20) (v := v20) rfl rfl (by kernel_rfl) (by go_simp) ⟨fun h => absurd h (by decide), ?_⟩)
                go_frame
                refine F_done (by kernel_rfl) ?_ _
                have HRz := Lib.hid ((HR6.out.below hb6q HR6.out.map.lt HR6.out.lt).grown hg2 (fun e => (own_ne_map hoq (HR6.out.below hb6q HR6.out.map.lt HR6.out.lt).map).elim (fun g => by rw [g] at e; cases e) (fun g => g e.symm)) (fun e => by have := (hoq.block _ e.symm).1; omega))
                have HOz := Lib.hid (show OwnR 90 5 NodeM.cells w20 (wo.heap.size + 1) v20 ((D ++ [((⟨vk, vi⟩ : Vx), (⟨p, xA, xc, ⟨⟨ac, ah⟩, pn⟩, pd⟩ : PlW))]).map nodM) by rw [List.map_append]; exact ho20)
                have HBz := Lib.hid ((below_trans HB6.out HB6.out.size hb6q).grown hg2 (below_trans HB6.out HB6.out.size hb6q).size (fun m e => by have := (hoq.block m e).1; omega))
                have HSz := Lib.hid (show wo.heap.size + 1 ≤ w20.heap.size by have := hg2.size; have := hb6q.size; have := Hsz6.out; omega)
                clear ho20 hg2 hor hn1 hn2 hoq hb6q kq hbq hF hbwd
                go_wp2
                go_roundw
                case measure => rw [HRz.out.left_eq, Hrg.out.left_eq]; exact Hmeas.out
                case rel => exact ⟨_, _, HRz.out, Hperm2.out, HOz.out, HBz.out, HSz.out⟩
          | some b =>
            obtain ⟨⟨uk, ui⟩, ⟨xp, xA, xc, ⟨⟨xa, xh⟩, xn⟩, xd⟩⟩ := b
            have hgu := getF_of_mem Hm.out.fnd.keys HB.out.1
            have hc8 := Hc.out
            unfold bestV at hc8
            simp only at hgu hc8
            have Hc8 := Lib.hid hc8
            have hxb := (Hm.out.fnd.get hgu).1
            have hxo := (Hm.out.fnd.get hgu).2.2
            unfold PlW.cells at hxb
            unfold PlW.nv at hxo
            simp only at hxb hxo
            have Hxb := Lib.hid hxb
            have Hxo := Lib.hid hxo
            have Hgu := Lib.hid hgu
            have HPk := Lib.hid (Hd.out.pick Hm.out.fnd.keys HB.out)
            have Hlk := Lib.hid (fun W (hW : Below wr.heap.size wr W) => (show (Instr.lookup 128 (.map (some (w.heap.size + 1))) (.agg #[.int .i64 uk, .int .i64 ui]) false).run Tryz.prog W = .ok (.pointer (some ⟨xp, 0, none⟩)) W from by
              have h := ((Hm.out.fnd.below hW).map).look_run keyVx Tryz.underlying128 (zeroPl _) ⟨uk, ui⟩ false
              rw [getL_vals, hgu] at h
              exact h))
            have Hns := Lib.hid (own_ne hxo hxb (by decide))
            clear hgu hc8 hxb hxo
            go_wp2
            refine wp_region_F (F := fun W => Below wr.heap.size wr W) (n := 8) (m := 9) (s := #[false, false, false, false, false, false, false, false, false]) (by kernel_rfl) (by kernel_rfl) (by kernel_rfl) ?_
            intro wd hwd
            have hF : Below wr.heap.size wr wd := by rw [hwd.out]; exact (Below.refl _ _).drew
            clear hwd
            refine F_take (i := 0) (d := some 69) (by kernel_rfl) (by kernel_rfl) (by decide) (s' := #[true, false, false, false, false, false, false, false, false]) (by kernel_rfl) rfl rfl (by kernel_rfl) (by kernel_rfl) (by kernel_rfl) (fun _ _ _ h => h) (Or.inl ⟨by kernel_rfl, fun W hW => by go_simp; try with_reducible rfl⟩) hF ?_
            go_frame
            refine F_take (i := 1) (d := some 70) (by kernel_rfl) (by kernel_rfl) (by decide) (s' := #[true, true, false, false, false, false, false, false, false]) (by kernel_rfl) rfl rfl (by kernel_rfl) (by kernel_rfl) (by kernel_rfl) (fun _ _ _ h => h) (Or.inl ⟨by kernel_rfl, fun W hW => by go_simp; try with_reducible rfl⟩) hF ?_
            go_frame
            refine F_take (i := 2) (d := some 71) (by kernel_rfl) (by kernel_rfl) (by decide) (s' := #[true, true, true, false, false, false, false, false, false]) (by kernel_rfl) rfl rfl (by kernel_rfl) (by kernel_rfl) (by kernel_rfl) (fun _ _ _ h => h) (Or.inl ⟨by kernel_rfl, fun W hW => by go_simp; try with_reducible rfl⟩) hF ?_
            go_frame
            refine F_take (i := 3) (d := some 72) (by kernel_rfl) (by kernel_rfl) (by decide) (s' := #[true, true, true, true, false, false, false, false, false]) (by kernel_rfl) rfl rfl (by kernel_rfl) (by kernel_rfl) (by kernel_rfl) (fun _ _ _ h => h) (Or.inl ⟨by kernel_rfl, fun W hW => by obtain ⟨s0, s1, s2, s3, -⟩ := (Hm.out.ks.below hW Hm.out.ks.lt).cells4; go_simp; try with_reducible rfl⟩) hF ?_
            go_frame
            refine F_take (i := 4) (d := some 73) (by kernel_rfl) (by kernel_rfl) (by decide) (s' := #[true, true, true, true, true, false, false, false, false]) (by kernel_rfl) rfl rfl (by kernel_rfl) (by kernel_rfl) (by kernel_rfl) (fun _ _ _ h => h) (Or.inl ⟨by kernel_rfl, fun W hW => by obtain ⟨c0, c1, -, -⟩ := (Hc8.out.below hW Hc8.out.lt).cells2; go_simp; try with_reducible rfl⟩) hF ?_
            go_frame
            refine F_take (i := 5) (d := some 74) (by kernel_rfl) (by kernel_rfl) (by decide) (s' := #[true, true, true, true, true, true, false, false, false]) (by kernel_rfl) rfl rfl (by kernel_rfl) (by kernel_rfl) (by kernel_rfl) (fun _ _ _ h => h) (Or.inl ⟨by kernel_rfl, fun W hW => by have hlk := Hlk.out W hW; go_simp; try with_reducible rfl⟩) hF ?_
            go_frame
            refine F_take (i := 6) (d := some 75) (by kernel_rfl) (by kernel_rfl) (by decide) (s' := #[true, true, true, true, true, true, true, false, false]) (by kernel_rfl) rfl rfl (by kernel_rfl) (by kernel_rfl) (by kernel_rfl) (fun _ _ _ h => h) (Or.inl ⟨by kernel_rfl, fun W hW => by go_simp; try with_reducible rfl⟩) hF ?_
            go_frame
            refine F_take (i := 7) (d := some 76) (by kernel_rfl) (by kernel_rfl) (by decide) (s' := #[true, true, true, true, true, true, true, true, false]) (by kernel_rfl) rfl rfl (by kernel_rfl) (by kernel_rfl) (by kernel_rfl) (fun _ _ _ h => h) (Or.inl ⟨by kernel_rfl, fun W hW => by go_simp; try with_reducible rfl⟩) hF ?_
            go_frame
            have kx := Hxb.out.below hF Hxb.out.lt
            have d2 := kx.cell 2
            have f2 := kx.frozen 2
            simp only [List.getElem?_toArray, List.getElem?_cons_zero, List.getElem?_cons_succ] at d2
            obtain ⟨w5, hw5⟩ : ∃ v, wd.setCell ⟨xp, 2, none⟩ (.bool true) = v := ⟨_, rfl⟩
            refine F_one (i := 8) (s' := #[true, true, true, true, true, true, true, true, true]) (by kernel_rfl) (by kernel_rfl) (wpOp_skipL (i := 8) (w' := w5) rfl rfl (by kernel_rfl) (by go_simp) ⟨fun h => absurd h (by decide), ?_⟩)
            go_frame
            clear d2 f2
            refine F_done (by kernel_rfl) ?_ _
            have hfl := (Hm.out.fnd.below hF).fill (w' := w5) (v := ⟨uk, ui⟩) (y := ⟨xp, xA, xc, ⟨⟨xa, xh⟩, xn⟩, true⟩) Hgu.out rfl (by rw [← hw5]; exact (kx.set_ 2 _).to (by simp [PlW.cells])) (by rw [← hw5]; exact OwnR.far (Hxo.out.below hF) Hns.out _) (by rw [← hw5]; exact grown_setC _ _ _ _)
            have hm5 := (Hm.out.below hF).mv hfl.1 hfl.2
            have hc5 := hfl.2.blk (Hc8.out.below hF Hc8.out.lt) (blk_ne_map (Hc8.out.below hF Hc8.out.lt) (Hm.out.fnd.below hF).map) (by decide)
            have Hm5 := Lib.hid hm5
            have Hc5 := Lib.hid hc5
            clear hfl hm5 hc5 hw5 kx hF Hlk Hns Hxb Hxo Hm Hc Hc8
            obtain ⟨⟨vo, Lo⟩, hx0⟩ : ∃ x, (getG ⟨uk, ui⟩ G).getD (.slice none 0 0, []) = x := ⟨_, rfl⟩
            have hval : (getL (⟨uk, ui⟩ : Vx) (edV G)).getD (.slice none 0 0) = vo := by
              rw [getL_edV]
              cases hg : getG (⟨uk, ui⟩ : Vx) G with
              | none => rw [hg] at hx0; injection hx0
              | some y => rw [hg] at hx0; simp only [Option.getD] at hx0; rw [hx0]; rfl
            have hLo : Lo = E.filter fun e => cntE e && decide (e.src = (⟨uk, ui⟩ : Vx)) := by
              rw [← HGE.out]
              cases hg : getG (⟨uk, ui⟩ : Vx) G with
              | none => rw [hg] at hx0; injection hx0 with e1 e2; rw [← e2]; rfl
              | some y => rw [hg] at hx0; simp only [Option.getD] at hx0; rw [hx0]; rfl
            have hLol : Lo.length ≤ 4000 := by
              rw [hLo]
              have h1 := List.length_filter_le (fun e => cntE e && decide (e.src = (⟨uk, ui⟩ : Vx))) E
              have := Hlen.out
              omega
            have hvo := Hm5.out.edg.row hx0
            obtain ⟨A7, c7, hv7⟩ := hvo.shape
            simp only at hv7
            subst hv7
            obtain ⟨nl, hnl⟩ : ∃ n, Lo.length = n := ⟨_, rfl⟩
            rw [hnl] at hval hx0
            have hlk := fun n => (Hm5.out.edg.map.drewN n).look_run keyVx Tryz.underlying127 (zeroEs _) ⟨uk, ui⟩ false
            rw [hval] at hlk
            simp only [Bool.false_eq_true, if_false, Vx.enc] at hlk
            have hnl2 : (nl : Int) ≤ 4000 := by omega
            have HLo := Lib.hid hLo
            have Hx0 := Lib.hid hx0
            have Hnl := Lib.hid hnl
            obtain ⟨s0, s1, s2, s3, -⟩ := Hm5.out.ks.cells4
            obtain ⟨c0, c1, -, -⟩ := Hc5.out.cells2
            clear hval hLo hx0 hLol hvo hnl
            go_wp2
            go_quiet (fail)
            go_wp2
            clear hlk s0 s1 s2 s3 c0 c1
            go_loopw [84] (fun i wq => ∃ (k : Nat) (F' : Fnd) (Z' : List Ed), i = .int .i64 k ∧ k ≤ nl ∧ SpMem w wq ri F' G ∧ DjIn E ⟨1, ri⟩ F' (O ++ [⟨uk, ui⟩]) Z' ⟨uk, ui⟩ ⟨⟨xa, xh⟩, xn⟩ ∧ (∀ e ∈ Z, e ∈ Z') ∧ (∀ e ∈ Lo.take k, e ∈ Z') ∧ Blk wq g8 39 #[.int .i64 uk, .int .i64 ui]) (fun i _ => nl - (intOf i).toNat)
            case atStart => exact ⟨0, _, Z, rfl, Nat.zero_le _, Hm5.out.below (below_drewN (Below.refl _ _) _), HPk.out, fun e he => he, fun e he => (by simp at he), Hc5.out.drewN _⟩
            case round =>
              obtain ⟨k, F', Z', rfl, hk, hm, hdj, hsub, htk, hc⟩ := hrel
              by_cases hlt : k < nl
              · have hkl : (k : Int) < (nl : Int) := by omega
                have hkL : k < Lo.length := by rw [Hnl.out]; exact hlt
                have hrow := hm.edg.row Hx0.out
                simp only at hrow
                obtain ⟨g', o', hA', -, x0, x1, x2, x3, x4⟩ := row_ed (OwnR.rows (C := 5) (cells := Ed.cells) (fun _ => rfl) (by rw [← Hnl.out] at hrow; exact hrow)).2 k hkL
                have hmem : Lo[k] ∈ Lo := List.getElem_mem hkL
                have htk1 : Lo.take (k + 1) = Lo.take k ++ [Lo[k]] := List.take_succ_eq_append_getElem hkL
                obtain ⟨⟨e1, e2, e3, e4, e5⟩, hx⟩ : ∃ x, Lo[k]'hkL = x := ⟨_, rfl⟩
                rw [hx] at x0 x1 x2 x3 x4 hmem htk1
                rw [HLo.out, List.mem_filter, Bool.and_eq_true, decide_eq_true_eq] at hmem
                obtain ⟨heE, hcn, hsr⟩ := hmem
                simp only at x0 x1 x2 x3 x4
                injection hsr with h1 h2
                simp only at h1 h2
                obtain ⟨hsm, hdm, hkk⟩ := cntE_iff.1 hcn
                simp only at hkk
                obtain ⟨cn, rfl⟩ : ∃ n : Nat, e5 = (n : Int) := ⟨e5.toNat, by omega⟩
                have hcn100 : cn ≤ 100 := by omega
                have hne : (⟨e1, e2⟩ : Vx) ≠ ⟨e3, e4⟩ := fun e => by injection e with e6 e7; omega
                subst h1 h2
                obtain ⟨x', hgx, hxp⟩ := tabF_get hdj.at_
                have hb9 := below_new wr (.cells #[.int .i64 e1, .int .i64 e2, .int .i64 e3, .int .i64 e4, .int .i64 cn] 133)
                have hk9 := Blk.new wr 133 #[.int .i64 e1, .int .i64 e2, .int .i64 e3, .int .i64 e4, .int .i64 cn]
                obtain ⟨w9, hw9⟩ : ∃ w9, wr.alloc (.cells #[.int .i64 e1, .int .i64 e2, .int .i64 e3, .int .i64 e4, .int .i64 cn] 133) = w9 := ⟨_, rfl⟩
                rw [hw9] at hb9 hk9
                have hm9 := hm.below hb9
                have hc9 := hc.below hb9 hc.lt
                have HST := Lib.hid (step_any e1 e2 e3 e4 ri cn (w.heap.size + 1 + 1) w.heap.size (w.heap.size + 1) F' w.heap.size w9 hm9.ks hm9.fnd hm9.bel.size hne hcn100 x' hgx (hdj.low rfl hgx) (fun y hy => hdj.low rfl hy))
                rw [hxp] at HST
                have Hm9 := Lib.hid hm9
                have Hc9 := Lib.hid hc9
                have Hdj := Lib.hid hdj
                have Hsub := Lib.hid hsub
                have Htk := Lib.hid htk
                have Htk1 := Lib.hid htk1
                have HeE := Lib.hid heE
                have Hcn := Lib.hid hcn
                have Hlt := Lib.hid hlt
                have HA' := Lib.hid hA'
                obtain ⟨z0, z1, z2, z3, z4, -⟩ := hk9.cells5
                subst hA'
                clear hk hm hdj hsub htk hc hlt hkL hrow htk1 hx heE hcn hsm hdm hkk hcn100 hne hgx hxp hb9 hk9 hm9 hc9 HA'
                go_wp2_with fail
                clear x0 x1 x2 x3 x4 z0 z1 z2 z3 z4
                with_reducible refine Calls.mono HST.out ?_
                rintro r wz ⟨rfl, F2, hSF, hFA, hMv⟩
                have Hmz := Lib.hid (Hm9.out.mv hFA hMv)
                have Hdz := Lib.hid (Hdj.out.step HeE.out Hcn.out rfl rfl hSF)
                have Hcz := Lib.hid (hMv.blk Hc9.out (blk_ne_map Hc9.out Hm9.out.fnd.map) (by decide))
                clear hSF hFA hMv HST
                go_wp2
                go_roundw
                case measure => have := Hlt.out; simp [intOf]; omega
                case rel => exact ⟨k + 1, F2, _, by go_num, Hlt.out, Hmz.out, Hdz.out, fun e he => List.mem_append_left _ (Hsub.out e he), fun e he => by
                  rw [Htk1.out] at he
                  rcases List.mem_append.1 he with he | he
                  · exact List.mem_append_left _ (Htk.out e he)
                  · exact List.mem_append_right _ he, Hcz.out⟩
              · have hke : k = nl := by omega
                subst hke
                have hkk : ¬ (k : Int) < (k : Int) := by omega
                rw [← Hnl.out, List.take_length] at htk
                have hdd := hdj.ends (O' := O) rfl (fun e he hc' hs' => hsub e (Hd.out.all e he hc' hs')) (fun e he hc' hs' => htk e (by rw [HLo.out, List.mem_filter, Bool.and_eq_true, decide_eq_true_eq]; exact ⟨he, hc', hs'⟩))
                have hlO := hdj.dij.len
                have HlO := Lib.hid hlO
                have Hdd := Lib.hid hdd
                have Hm := Lib.hid hm
                have Hc := Lib.hid hc
                obtain ⟨c0, c1, -, -⟩ := hc.cells2
                have hb9 := below_new wr (.cells #[.int .i64 uk, .int .i64 ui] 39)
                have hk9 := Blk.new wr 39 #[.int .i64 uk, .int .i64 ui]
                obtain ⟨w9, hw9⟩ : ∃ w9, wr.alloc (.cells #[.int .i64 uk, .int .i64 ui] 39) = w9 := ⟨_, rfl⟩
                rw [hw9] at hb9 hk9
                have hm9 := hm.below hb9
                have HN := Lib.hid (nearest_any ri (w.heap.size + 1 + 1) w.heap.size (w.heap.size + 1) F' w.heap.size w9 hm9.ks hm9.fnd (hdd.may hm9.fnd.keys) (hdd.low hm9.fnd.keys))
                have Hm9 := Lib.hid hm9
                have Hk9 := Lib.hid hk9
                have Hs9 := Lib.hid hb9.size
                clear hk hm hdj hsub htk hc hlt hdd hlO hb9 hk9 hm9
                go_wp2_with fail
                with_reducible refine Calls.mono HN.out ?_
                rintro r wz ⟨⟨b, rfl, hB⟩, hbz⟩
                have HB2 := Lib.hid hB
                obtain ⟨⟨bk, bi⟩, hbv⟩ : ∃ v, bestV b = v := ⟨_, rfl⟩
                rw [hbv]
                have Hbv := Lib.hid hbv
                have Hmz := Lib.hid (Hm9.out.below hbz)
                have Hkz := Lib.hid (Hk9.out.below hbz Hk9.out.lt)
                obtain ⟨k0, k1, kf0, kf1⟩ := Hkz.out.cells2
                clear hB hbv hbz HN c0 c1
                go_wp2
                have hg1 := grown_trans (grown_setC wz wr.heap.size 0 (.int .i64 bk)) (grown_setC (wz.setCell ⟨wr.heap.size, 0, none⟩ (.int .i64 bk)) wr.heap.size 1 (.int .i64 bi))
                have hmt := Hmz.out.turn hg1 Hkz.out Hm.out.bel.size
                have Hmt := Lib.hid hmt
                go_roundg (gk - 1)
                case measure => have := Hgk.out; have := HlO.out; rw [List.length_append, List.length_singleton] at this; omega
                case rel => exact ⟨F', O ++ [⟨uk, ui⟩], Z', b, wr.heap.size, rfl, rfl, by have := Hgk.out; have := HlO.out; rw [List.length_append, List.length_singleton] at *; omega, Hmt.out, Hdd.out, HB2.out, by rw [Hbv.out]; exact Blk.put2 Hkz.out _ _⟩

end Go.Proofs.YtpnbibokddhheaaGreat

/-
  Layer 22: routes in memory; the four networks' routes; what is laid beside them stays.
-/
namespace Go.Proofs.YtpnbibokddhheaaGreat
open Go.RowKit

structure RtM where
  kind : Int
  id : Int
  cost : Nat
  A : Option Addr
  c : Nat
  next : List Hp
def RtM.nv (x : RtM) : Value := .slice x.A x.next.length x.c
def RtM.cells (x : RtM) : List Value := [.int .i64 x.kind, .int .i64 x.id, .int .i64 x.cost, .slice x.A x.next.length x.c]
def RtM.rt (x : RtM) : Rt := ⟨x.kind, x.id, x.cost, x.next⟩
theorem onesRt (x : RtM) : ∀ u ∈ RtM.cells x, u.oneCell' = true := by
  intro u hu
  simp [RtM.cells] at hu
  rcases hu with rfl | rfl | rfl | rfl <;> rfl
theorem infoRt : (Tryz.prog.info? 44).map (fun i => (i.zero, i.size, i.bytes)) = some (some (.agg #[.int .i64 0, .int .i64 0, .int .i64 0, .slice none 0 0]), 4, 48) := by kernel_rfl
/-- routes of one's own, with hops of one's own -/
structure RtsAt (w : World) (B : Nat) (v : Value) (M : List RtM) : Prop where
  row : OwnR 44 4 RtM.cells w B v M
  each : ∀ x ∈ M, OwnH w B x.nv x.next
/-- routes that can be read -/
structure RtsIn (w : World) (B : Nat) (A : Option Addr) (M : List RtM) : Prop where
  rows : RowsAt 4 RtM.cells w B A M
  each : ∀ x ∈ M, RowsH w B x.A x.next
  low : ∀ x ∈ M, x.next.length ≤ 2 ^ 16
theorem RtsIn.below {w w' : World} {B : Nat} {A : Option Addr} {M : List RtM} (h : RtsIn w B A M) (hb : Below B w w') : RtsIn w' B A M := ⟨h.rows.below hb, fun x hx => (h.each x hx).below hb, h.low⟩
theorem RtsIn.more {w : World} {B B' : Nat} {A : Option Addr} {M : List RtM} (h : RtsIn w B A M) (hb : B ≤ B') : RtsIn w B' A M := ⟨h.rows.more hb, fun x hx => (h.each x hx).more hb, h.low⟩
theorem RtsAt.reads {w w' : World} {B : Nat} {A : Option Addr} {n c : Nat} {M : List RtM} (h : RtsAt w B (.slice A n c) M) (hb : Below w.heap.size w w') (hl : ∀ x ∈ M, x.next.length ≤ 2 ^ 16) : RtsIn w' w'.heap.size A M :=
  ⟨(OwnR.rows (C := 4) (cells := RtM.cells) (fun _ => rfl) (h.row.below hb)).2, fun x hx => (OwnR.rows (C := 2) (cells := Hp.cells) (fun _ => rfl) ((h.each x hx).below hb)).2, hl⟩
theorem row_rt {w : World} {B : Nat} {A : Option Addr} {l : List RtM} (h : RowsAt 4 RtM.cells w B A l) (k : Nat) (hk : k < l.length) :
    ∃ b o, A = some ⟨b, o, none⟩ ∧ b < B ∧ w.cell? ⟨b, o + k * 4, none⟩ = some (.int .i64 l[k].kind) ∧ w.cell? ⟨b, o + k * 4 + 1, none⟩ = some (.int .i64 l[k].id) ∧ w.cell? ⟨b, o + k * 4 + 2, none⟩ = some (.int .i64 l[k].cost) ∧ w.cell? ⟨b, o + k * 4 + 3, none⟩ = some (.slice l[k].A l[k].next.length l[k].c) := by
  obtain ⟨b, o, e, hb, hc⟩ := h (by omega)
  exact ⟨b, o, e, hb, by simpa using hc k hk 0 _ (by omega) rfl, hc k hk 1 _ (by omega) rfl, hc k hk 2 _ (by omega) rfl, hc k hk 3 _ (by omega) rfl⟩
/-- a change of what was not there yet, or of the one block that may change -/
theorem grown_comp {a b c : World} {r m : Option Nat} (h : a.grownBy b r) (g : b.grownBy c m) (hm : ∀ k, m = some k → a.heap.size ≤ k ∨ r = some k) : a.grownBy c r where
  os := g.os.trans h.os
  tape := g.tape.trans h.tape
  output := g.output.trans h.output
  size := Nat.le_trans h.size g.size
  block := fun k hk hr => by
    have hkb : k < b.heap.size := Nat.lt_of_lt_of_le hk h.size
    refine (g.block k hkb ?_).trans (h.block k hk hr)
    intro e
    rcases hm k e.symm with g1 | g1
    · omega
    · exact hr g1.symm
section
variable {w w' : World} {B g : Nat}
theorem NodesAt.kept {v : Value} {N : List NodeM} (h : NodesAt w B v N) (hg : w.grownBy w' (some g)) (hgB : g < B) : NodesAt w' B v N where
  row := h.row.kept hg (by
    cases hv : v.ownBlock with
    | none => exact .inl rfl
    | some k => have := (h.row.block k hv).1; exact .inr (by simp; omega))
  each := fun x hx => (h.each x hx).kept hg (by
    cases hv : x.nv.ownBlock with
    | none => exact .inl rfl
    | some k => have := ((h.each x hx).block k hv).1; exact .inr (by simp; omega))
theorem OwnR.past {α : Type} {e : TypeId} {C : Nat} {cells : α → List Value} {v : Value} {L : List α} (h : OwnR e C cells w B v L) (hg : w.grownBy w' (some g)) (hgB : g < B) : OwnR e C cells w' B v L := h.kept hg (by
    cases hv : v.ownBlock with
    | none => exact .inl rfl
    | some k => have := (h.block k hv).1; exact .inr (by simp; omega))
theorem RtsAt.past {v : Value} {M : List RtM} (h : RtsAt w B v M) (hg : w.grownBy w' (some g)) (hgB : g < B) : RtsAt w' B v M := ⟨h.row.past hg hgB, fun x hx => (h.each x hx).past hg hgB⟩
theorem RtsAt.below {v : Value} {M : List RtM} (h : RtsAt w B v M) (hb : Below w.heap.size w w') : RtsAt w' B v M := ⟨h.row.below hb, fun x hx => (h.each x hx).below hb⟩
end
/-- the four networks' routes -/
def netC (f : Nat → RtM) : Array Value := ((f 0).cells ++ (f 1).cells ++ (f 2).cells ++ (f 3).cells).toArray
def updN (f : Nat → RtM) (k : Nat) (x : RtM) (j : Nat) : RtM := if j = k then x else f j
theorem updN_at (f : Nat → RtM) (k : Nat) (x : RtM) : updN f k x k = x := if_pos rfl
theorem updN_ne (f : Nat → RtM) {k j : Nat} (x : RtM) (h : j ≠ k) : updN f k x j = f j := if_neg h
theorem updN_self (f : Nat → RtM) (k : Nat) : updN f k (f k) = f := by
  funext j
  unfold updN
  split
  · rename_i h; rw [h]
  · rfl
theorem updN_twice (f : Nat → RtM) (k : Nat) (x y : RtM) : updN (updN f k x) k y = updN f k y := by
  funext j
  unfold updN
  split <;> simp_all
structure NetsAt (w : World) (B g : Nat) (f : Nat → RtM) : Prop where
  blk : Blk w g 84 (netC f)
  own : ∀ k, k < 4 → OwnH w B (f k).nv (f k).next
section
variable {w w' : World} {B g : Nat} {f : Nat → RtM}
theorem netC_at (f : Nat → RtM) : ∀ k, k < 4 → (netC f)[k * 4]? = some (.int .i64 (f k).kind) ∧ (netC f)[k * 4 + 1]? = some (.int .i64 (f k).id) ∧ (netC f)[k * 4 + 2]? = some (.int .i64 (f k).cost) ∧ (netC f)[k * 4 + 3]? = some (.slice (f k).A (f k).next.length (f k).c)
  | 0, _ => ⟨rfl, rfl, rfl, rfl⟩
  | 1, _ => ⟨rfl, rfl, rfl, rfl⟩
  | 2, _ => ⟨rfl, rfl, rfl, rfl⟩
  | 3, _ => ⟨rfl, rfl, rfl, rfl⟩
theorem netC_set (f : Nat → RtM) (x : RtM) : ∀ k, k < 4 → ((((netC f).setIfInBounds (k * 4) (.int .i64 x.kind)).setIfInBounds (k * 4 + 1) (.int .i64 x.id)).setIfInBounds (k * 4 + 2) (.int .i64 x.cost)).setIfInBounds (k * 4 + 3) (.slice x.A x.next.length x.c) = netC (updN f k x)
  | 0, _ => rfl
  | 1, _ => rfl
  | 2, _ => rfl
  | 3, _ => rfl
theorem netC_set3 (f : Nat → RtM) (x : RtM) : ∀ k, k < 4 → x.kind = (f k).kind → x.id = (f k).id → x.cost = (f k).cost → (netC f).setIfInBounds (k * 4 + 3) (.slice x.A x.next.length x.c) = netC (updN f k x)
  | 0, _ => fun h1 h2 h3 => by unfold netC updN RtM.cells; simp [h1, h2, h3]
  | 1, _ => fun h1 h2 h3 => by unfold netC updN RtM.cells; simp [h1, h2, h3]
  | 2, _ => fun h1 h2 h3 => by unfold netC updN RtM.cells; simp [h1, h2, h3]
  | 3, _ => fun h1 h2 h3 => by unfold netC updN RtM.cells; simp [h1, h2, h3]
theorem NetsAt.cells (h : NetsAt w B g f) {k : Nat} (hk : k < 4) : w.cell? ⟨g, k * 4, none⟩ = some (.int .i64 (f k).kind) ∧ w.cell? ⟨g, k * 4 + 1, none⟩ = some (.int .i64 (f k).id) ∧ w.cell? ⟨g, k * 4 + 2, none⟩ = some (.int .i64 (f k).cost) ∧ w.cell? ⟨g, k * 4 + 3, none⟩ = some (.slice (f k).A (f k).next.length (f k).c) ∧
    w.frozen? ⟨g, k * 4, none⟩ = false ∧ w.frozen? ⟨g, k * 4 + 1, none⟩ = false ∧ w.frozen? ⟨g, k * 4 + 2, none⟩ = false ∧ w.frozen? ⟨g, k * 4 + 3, none⟩ = false := by
  obtain ⟨h0, h1, h2, h3⟩ := netC_at f k hk
  exact ⟨by rw [h.blk.cell, h0], by rw [h.blk.cell, h1], by rw [h.blk.cell, h2], by rw [h.blk.cell, h3], h.blk.frozen _, h.blk.frozen _, h.blk.frozen _, h.blk.frozen _⟩
theorem NetsAt.below (h : NetsAt w B g f) (hb : Below w.heap.size w w') : NetsAt w' B g f := ⟨h.blk.below hb h.blk.lt, fun k hk => (h.own k hk).below hb⟩
theorem NetsAt.grown {m : Option Nat} (h : NetsAt w B g f) (hg : w.grownBy w' m) (hm : ∀ k, m = some k → k ≠ g ∧ (∀ j, j < 4 → (f j).nv.ownBlock ≠ some k)) : NetsAt w' B g f where
  blk := h.blk.grown hg (fun e => (hm g e.symm).1 rfl)
  own := fun j hj => (h.own j hj).kept hg (by
    cases hv : m with
    | none => cases hv2 : (f j).nv.ownBlock <;> simp
    | some k => exact .inr ((hm k hv).2 j hj))
theorem NetsAt.set4 (h : NetsAt w B g f) (hg : g < B) {k : Nat} (hk : k < 4) (x : RtM) (hx : OwnH w B (.slice x.A x.next.length x.c) x.next) :
    NetsAt ((((w.setCell ⟨g, k * 4, none⟩ (.int .i64 x.kind)).setCell ⟨g, k * 4 + 1, none⟩ (.int .i64 x.id)).setCell ⟨g, k * 4 + 2, none⟩ (.int .i64 x.cost)).setCell ⟨g, k * 4 + 3, none⟩ (.slice x.A x.next.length x.c)) B g (updN f k x) where
  blk := ((((h.blk.set_ _ _).set_ _ _).set_ _ _).set_ _ _).to (netC_set f x k hk)
  own := fun j hj => by
    refine (((OwnR.set_ ?_ hg _).set_ hg _).set_ hg _).set_ hg _
    unfold updN
    split
    · exact hx
    · exact h.own j hj
theorem NetsAt.set3 (h : NetsAt w B g f) (hg : g < B) {k : Nat} (hk : k < 4) (x : RtM) (h1 : x.kind = (f k).kind) (h2 : x.id = (f k).id) (h3 : x.cost = (f k).cost) (hx : OwnH w B (.slice x.A x.next.length x.c) x.next) :
    NetsAt (w.setCell ⟨g, k * 4 + 3, none⟩ (.slice x.A x.next.length x.c)) B g (updN f k x) where
  blk := (h.blk.set_ _ _).to (netC_set3 f x k hk h1 h2 h3)
  own := fun j hj => by
    refine OwnR.set_ ?_ hg _
    unfold updN
    split
    · exact hx
    · exact h.own j hj
end
/-- the same, but for one of them -/
structure NetsBut (w : World) (B S g : Nat) (f : Nat → RtM) (k : Nat) : Prop where
  blk : Blk w g 84 (netC f)
  own : ∀ j, j < 4 → j ≠ k → OwnH w B (f j).nv (f j).next
  far : ∀ j, j < 4 → j ≠ k → ∀ b, (f j).nv.ownBlock = some b → b < S
  lt : g < S
section
variable {w w' : World} {B S g k : Nat} {f : Nat → RtM}
theorem NetsAt.but (h : NetsAt w B g f) (k : Nat) : NetsBut w B w.heap.size g f k := ⟨h.blk, fun j hj _ => h.own j hj, fun j hj _ b hb => ((h.own j hj).block b hb).2, h.blk.lt⟩
theorem NetsBut.whole (h : NetsBut w B S g f k) (hx : OwnH w B (f k).nv (f k).next) : NetsAt w B g f := ⟨h.blk, fun j hj => by
  by_cases e : j = k
  · rw [e]; exact hx
  · exact h.own j hj e⟩
theorem NetsBut.below (h : NetsBut w B S g f k) (hb : Below w.heap.size w w') : NetsBut w' B S g f k := ⟨h.blk.below hb h.blk.lt, fun j hj e => (h.own j hj e).below hb, h.far, h.lt⟩
theorem NetsBut.grown {m : Option Nat} (h : NetsBut w B S g f k) (hg : w.grownBy w' m) (hm : ∀ b, m = some b → S ≤ b) : NetsBut w' B S g f k where
  blk := h.blk.grown hg (fun e => by have := hm g e.symm; have := h.lt; omega)
  own := fun j hj e => (h.own j hj e).kept hg (by
    cases hv : (f j).nv.ownBlock with
    | none => exact .inl rfl
    | some b =>
      refine .inr fun e2 => ?_
      have h1 := h.far j hj e b hv
      have h2 := hm b e2.symm
      omega)
  far := h.far
  lt := h.lt
theorem NetsBut.cells (h : NetsBut w B S g f k) (hk : k < 4) : w.cell? ⟨g, k * 4, none⟩ = some (.int .i64 (f k).kind) ∧ w.cell? ⟨g, k * 4 + 1, none⟩ = some (.int .i64 (f k).id) ∧ w.cell? ⟨g, k * 4 + 2, none⟩ = some (.int .i64 (f k).cost) ∧ w.cell? ⟨g, k * 4 + 3, none⟩ = some (.slice (f k).A (f k).next.length (f k).c) ∧
    w.frozen? ⟨g, k * 4, none⟩ = false ∧ w.frozen? ⟨g, k * 4 + 1, none⟩ = false ∧ w.frozen? ⟨g, k * 4 + 2, none⟩ = false ∧ w.frozen? ⟨g, k * 4 + 3, none⟩ = false := by
  obtain ⟨h0, h1, h2, h3⟩ := netC_at f k hk
  exact ⟨by rw [h.blk.cell, h0], by rw [h.blk.cell, h1], by rw [h.blk.cell, h2], by rw [h.blk.cell, h3], h.blk.frozen _, h.blk.frozen _, h.blk.frozen _, h.blk.frozen _⟩
theorem NetsBut.set4 (h : NetsBut w B S g f k) (hg : g < B) (hk : k < 4) (x : RtM) :
    NetsBut ((((w.setCell ⟨g, k * 4, none⟩ (.int .i64 x.kind)).setCell ⟨g, k * 4 + 1, none⟩ (.int .i64 x.id)).setCell ⟨g, k * 4 + 2, none⟩ (.int .i64 x.cost)).setCell ⟨g, k * 4 + 3, none⟩ (.slice x.A x.next.length x.c)) B S g (updN f k x) k where
  blk := ((((h.blk.set_ _ _).set_ _ _).set_ _ _).set_ _ _).to (netC_set f x k hk)
  own := fun j hj e => by
    rw [updN_ne f x e]
    exact (((OwnR.set_ (h.own j hj e) hg _).set_ hg _).set_ hg _).set_ hg _
  far := fun j hj e => by rw [updN_ne f x e]; exact h.far j hj e
  lt := h.lt
theorem NetsBut.set3 (h : NetsBut w B S g f k) (hg : g < B) (hk : k < 4) (x : RtM) (h1 : x.kind = (f k).kind) (h2 : x.id = (f k).id) (h3 : x.cost = (f k).cost) :
    NetsBut (w.setCell ⟨g, k * 4 + 3, none⟩ (.slice x.A x.next.length x.c)) B S g (updN f k x) k where
  blk := (h.blk.set_ _ _).to (netC_set3 f x k hk h1 h2 h3)
  own := fun j hj e => by
    rw [updN_ne f x e]
    exact OwnR.set_ (h.own j hj e) hg _
  far := fun j hj e => by rw [updN_ne f x e]; exact h.far j hj e
  lt := h.lt
end
/-- a network's route by the ends so far -/
def NetOk (k : Nat) (X : List EndV) (x : RtM) : Prop := (x.kind = 0 ∧ x.id = 0 ∧ x.cost = 0 ∧ x.next = [] ∧ X = []) ∨ (x.kind = 2 ∧ x.id = k ∧ 1 ≤ x.cost ∧ EndsAt X x.cost x.next)
theorem NetOk.low {k : Nat} {X : List EndV} {x : RtM} (h : NetOk k X x) (hX : ∀ p ∈ X, ∀ y ∈ p.2, okHp y) : x.next.length ≤ 64 := by
  rcases h with ⟨-, -, -, h, -⟩ | ⟨-, -, -, h⟩
  · rw [h]; simp
  · exact hops_few h.sorted fun y hy => by
      obtain ⟨p, hp, -, hy⟩ := (h.mem y).1 hy
      exact hX p hp y hy

end Go.Proofs.YtpnbibokddhheaaGreat
