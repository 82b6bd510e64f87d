/-
  Layer 21: the node of a vertex; nodes read; nodes that are alike.
-/
import Derived.Test.YtpfjgecdlilkcaaBae
import Derived.Test.YtpfjgecdlilkcaaBak
import Derived.Test.YtpfjgecdlilkcaaBam
import Derived.Test.YtpfjgecdlilkcaaBan
namespace Go.Proofs.Ytpfjgecdlilkcaa
open Go.RowKit Go.Sort

/-- nodes that can be read -/
structure NodesIn (w : World) (B : Nat) (A : Option Addr) (N : List NodeM) : Prop where
  rows : RowsAt 5 NodeM.cells w B A N
  each : ∀ x ∈ N, RowsH w B x.A x.next
  low : ∀ x ∈ N, x.next.length ≤ 2 ^ 16
theorem NodesIn.below {w w' : World} {B : Nat} {A : Option Addr} {N : List NodeM} (h : NodesIn w B A N) (hb : Below B w w') : NodesIn w' B A N := ⟨h.rows.below hb, fun x hx => (h.each x hx).below hb, h.low⟩
theorem NodesIn.more {w : World} {B B' : Nat} {A : Option Addr} {N : List NodeM} (h : NodesIn w B A N) (hb : B ≤ B') : NodesIn w B' A N := ⟨h.rows.more hb, fun x hx => (h.each x hx).more hb, h.low⟩
theorem row_nd {w : World} {B : Nat} {A : Option Addr} {l : List NodeM} (h : RowsAt 5 NodeM.cells w B A l) (k : Nat) (hk : k < l.length) :
    ∃ b o, A = some ⟨b, o, none⟩ ∧ b < B ∧ w.cell? ⟨b, o + k * 5, none⟩ = some (.int .i64 l[k].v.kind) ∧ w.cell? ⟨b, o + k * 5 + 1, none⟩ = some (.int .i64 l[k].v.id) ∧ w.cell? ⟨b, o + k * 5 + 2, none⟩ = some (.int .i64 l[k].a.c) ∧ w.cell? ⟨b, o + k * 5 + 3, none⟩ = some (.int .i64 l[k].a.h) ∧ w.cell? ⟨b, o + k * 5 + 4, none⟩ = some (.slice l[k].A l[k].next.length l[k].c) := by
  obtain ⟨b, o, e, hb, hc⟩ := h (by omega)
  exact ⟨b, o, e, hb, by simpa using hc k hk 0 _ (by omega) rfl, hc k hk 1 _ (by omega) rfl, hc k hk 2 _ (by omega) rfl, hc k hk 3 _ (by omega) rfl, hc k hk 4 _ (by omega) rfl⟩
def findN (N : List NodeM) (v : Vx) : Option Nk := (N.map NodeM.nk).find? fun n => decide (n.v = v)
theorem findN_at {N : List NodeM} {v : Vx} {k : Nat} (hk : k < N.length) (h : ∀ p ∈ N.take k, p.v ≠ v) (he : N[k].v = v) : findN N v = some N[k].nk := by
  unfold findN
  have h1 : N = N.take k ++ N[k] :: N.drop (k + 1) := by rw [← List.drop_eq_getElem_cons hk, List.take_append_drop]
  have h2 : (N.map NodeM.nk) = (N.take k).map NodeM.nk ++ N[k].nk :: (N.drop (k + 1)).map NodeM.nk := by
    conv => lhs; rw [h1]
    rw [List.map_append, List.map_cons]
  rw [h2, List.find?_append]
  have h3 : ((N.take k).map NodeM.nk).find? (fun n => decide (n.v = v)) = none := by
    rw [List.find?_eq_none]
    intro n hn
    obtain ⟨x, hx, rfl⟩ := List.mem_map.1 hn
    exact fun e => h x hx (of_decide_eq_true e)
  rw [h3, Option.none_or, List.find?_cons, show decide (N[k].nk.v = v) = true from decide_eq_true he]
theorem findN_not {N : List NodeM} {v : Vx} (h : ∀ p ∈ N, p.v ≠ v) : findN N v = none := by
  unfold findN
  rw [List.find?_eq_none]
  intro n hn
  obtain ⟨x, hx, rfl⟩ := List.mem_map.1 hn
  exact fun e => h x hx (of_decide_eq_true e)
theorem blk5 {w : World} {g : Nat} {t : TypeId} {a b c d e : Value} (h : Blk w g t #[a, b, c, d, e]) : (w.cell? ⟨g, 0, none⟩ = some a ∧ w.cell? ⟨g, 1, none⟩ = some b ∧ w.cell? ⟨g, 2, none⟩ = some c ∧ w.cell? ⟨g, 3, none⟩ = some d ∧ w.cell? ⟨g, 4, none⟩ = some e) ∧ (w.frozen? ⟨g, 0, none⟩ = false ∧ w.frozen? ⟨g, 1, none⟩ = false ∧ w.frozen? ⟨g, 2, none⟩ = false ∧ w.frozen? ⟨g, 3, none⟩ = false ∧ w.frozen? ⟨g, 4, none⟩ = false) :=
  ⟨⟨h.cell 0, h.cell 1, h.cell 2, h.cell 3, h.cell 4⟩, h.frozen 0, h.frozen 1, h.frozen 2, h.frozen 3, h.frozen 4⟩
theorem Blk.put5 {w : World} {g : Nat} {t : TypeId} {a b c d e : Value} (h : Blk w g t #[a, b, c, d, e]) (a' b' c' d' e' : Value) : Blk (((((w.setCell ⟨g, 0, none⟩ a').setCell ⟨g, 1, none⟩ b').setCell ⟨g, 2, none⟩ c').setCell ⟨g, 3, none⟩ d').setCell ⟨g, 4, none⟩ e') g t #[a', b', c', d', e'] :=
  (((((h.set_ 0 a').set_ 1 b').set_ 2 c').set_ 3 d').set_ 4 e').to (by simp)
theorem below_put5 {B : Nat} {w w' : World} {g : Nat} (h : Below B w w') (hg : B ≤ g) (a b c d e : Value) : Below B w (((((w'.setCell ⟨g, 0, none⟩ a).setCell ⟨g, 1, none⟩ b).setCell ⟨g, 2, none⟩ c).setCell ⟨g, 3, none⟩ d).setCell ⟨g, 4, none⟩ e) :=
  ((((h.setCell (p := ⟨g, 0, none⟩) hg _).setCell (p := ⟨g, 1, none⟩) hg _).setCell (p := ⟨g, 2, none⟩) hg _).setCell (p := ⟨g, 3, none⟩) hg _).setCell (p := ⟨g, 4, none⟩) hg _
/-- what is said of a node that was looked for -/
def FoundN (N : List NodeM) (v : Vx) (w' : World) (B : Nat) (r : Ending) : Prop :=
  (∃ (x : Nk) (A' : Option Addr) (c' : Nat), findN N v = some x ∧ r = .returned (.tuple #[.agg #[.int .i64 x.v.kind, .int .i64 x.v.id, .int .i64 x.a.c, .int .i64 x.a.h, .slice A' x.next.length c'], .bool true]) ∧ OwnH w' B (.slice A' x.next.length c') x.next) ∨
  (findN N v = none ∧ r = .returned (.tuple #[.agg #[.int .i64 0, .int .i64 0, .int .i64 0, .int .i64 0, .slice none 0 0], .bool false]))
set_option maxHeartbeats 8000000 in
set_option maxRecDepth 100000 in
theorem Find_any (v1 v2 : Int) (A : Option Addr) (cap n : Nat) (N : List NodeM) (w : World) (hN : NodesIn w w.heap.size A N) (hlen : N.length ≤ 2 ^ 20) (hn : n = N.length) :
    Calls Try.prog 30 #[.agg #[.int .i64 v1, .int .i64 v2], .slice A n cap] w fun r w' => FoundN N ⟨v1, v2⟩ w' w.heap.size r ∧ Below w.heap.size w w' := by
  subst hn
  obtain ⟨w0, hw0⟩ : ∃ w0, (w.alloc (.cells #[.int .i64 v1, .int .i64 v2] 40)).alloc (.cells #[.int .i64 0, .int .i64 0, .int .i64 0, .int .i64 0, .slice none 0 0] 59) = w0 := ⟨_, rfl⟩
  have hb0 : Below w.heap.size w w0 := by rw [← hw0]; exact ((Below.refl _ _).alloc (Nat.le_refl _) _).alloc (by simp) _
  have hk2 : Blk w0 w.heap.size 40 #[.int .i64 v1, .int .i64 v2] := by rw [← hw0]; exact (Blk.new w _ _).alloc _
  have hk4 : Blk w0 (w.heap.size + 1) 59 #[.int .i64 0, .int .i64 0, .int .i64 0, .int .i64 0, .slice none 0 0] := by rw [← hw0]; exact Blk.size (by simp)
  have HN := Lib.hid hN
  have Hb0 := Lib.hid hb0
  have Hk2 := Lib.hid hk2
  have Hk4 := Lib.hid hk4
  have hli : (N.length : Int) ≤ 1048576 := by omega
  clear hN hlen hb0 hk2 hk4
  go_enter Try.func30, Try.ntmps30
  go_wp2
  clear hw0
  go_loopw [10] (fun i wr => ∃ k : Nat, i = .int .i64 k ∧ k ≤ N.length ∧ (∀ p ∈ N.take k, p.v ≠ ⟨v1, v2⟩) ∧ Below w0.heap.size w0 wr) (fun i _ => N.length - (intOf i).toNat)
  case atStart => exact ⟨0, rfl, Nat.zero_le _, by simp, Below.refl _ _⟩
  case round =>
    obtain ⟨k, rfl, hk, h0, hb⟩ := hrel
    have hNr := (HN.out.below (below_trans Hb0.out Hb0.out.size hb)).more (below_trans Hb0.out Hb0.out.size hb).size
    have hk2r := Hk2.out.below hb Hk2.out.lt
    have hk4r := Hk4.out.below hb Hk4.out.lt
    by_cases hlt : k < N.length
    · have hki : (k : Int) < (N.length : Int) := by omega
      obtain ⟨g, o, hA, -, x0, x1, x2, x3, x4⟩ := row_nd hNr.rows k hlt
      subst hA
      have hat := fun he => findN_at hlt h0 (v := ⟨v1, v2⟩) he
      have hrw := hNr.each _ (List.getElem_mem hlt)
      have hlw := hNr.low _ (List.getElem_mem hlt)
      have hmore : N[k].v ≠ ⟨v1, v2⟩ → ∀ p ∈ N.take (k + 1), p.v ≠ ⟨v1, v2⟩ := by
        intro he p hp
        rw [List.take_succ_eq_append_getElem hlt, List.mem_append, List.mem_singleton] at hp
        rcases hp with hp | rfl
        · exact h0 p hp
        · exact he
      generalize N[k] = x at *
      obtain ⟨⟨xk, xi⟩, ⟨xa, xh⟩, xA, xc, xn⟩ := x
      simp only at x0 x1 x2 x3 x4 hrw hlw hat hmore
      obtain ⟨nl, hnl⟩ : ∃ n, xn.length = n := ⟨_, rfl⟩
      rw [hnl] at x4 hlw
      have hb6 := below_new wr (.cells #[.int .i64 xk, .int .i64 xi, .int .i64 xa, .int .i64 xh, .slice xA nl xc] 59)
      have hk6 := Blk.new wr 59 #[.int .i64 xk, .int .i64 xi, .int .i64 xa, .int .i64 xh, .slice xA nl xc]
      obtain ⟨w6, hw6⟩ : ∃ w6, wr.alloc (.cells #[.int .i64 xk, .int .i64 xi, .int .i64 xa, .int .i64 xh, .slice xA nl xc] 59) = w6 := ⟨_, rfl⟩
      rw [hw6] at hb6 hk6
      have Hb6 := Lib.hid (below_trans hb hb.size hb6)
      have Hk6 := Lib.hid hk6
      have Hk26 := Lib.hid (hk2r.below hb6 hk2r.lt)
      have Hk46 := Lib.hid (hk4r.below hb6 hk4r.lt)
      have HCl := Lib.hid (cloneHp xA xc xn w6 w6.heap.size ((hrw.below hb6).more hb6.size) (Nat.le_refl _) (by omega) nl hnl.symm)
      have Hlt := Lib.hid hlt
      have Hat := Lib.hid hat
      have Hmore := Lib.hid hmore
      have Hnl := Lib.hid hnl
      have Hs6 := Lib.hid (show w0.heap.size ≤ wr.heap.size from hb.size)
      obtain ⟨⟨z0, z1, z2, z3, z4⟩, zf0, zf1, zf2, zf3, zf4⟩ := blk5 hk6
      obtain ⟨v0, v1', -, -⟩ := Hk26.out.cells2
      have heq := fun w => eqVxN xk xi v1 v2 w
      clear hNr hk2r hk4r h0 hb hrw hlw hat hmore hb6 hk6 hlt hk hnl
      by_cases he : (⟨xk, xi⟩ : Vx) = ⟨v1, v2⟩
      · rw [decide_eq_true he] at heq
        have He := Lib.hid (Hat.out he)
        clear he
        go_wp2_with fail
        clear x0 x1 x2 x3 x4 heq
        with_reducible refine Calls.mono HCl.out ?_
        rintro r w7 ⟨v, rfl, ho, hb7⟩
        obtain ⟨A9, c9, hv⟩ := ho.shape
        subst hv
        rw [Hnl.out] at ho ⊢
        have Ho := Lib.hid ho
        have Hb7 := Lib.hid (below_trans Hb6.out Hb6.out.size hb7)
        have Hk7 := Lib.hid (Hk6.out.below hb7 Hk6.out.lt)
        have Hk47 := Lib.hid (Hk46.out.below hb7 Hk46.out.lt)
        have Hs7 := Lib.hid (show w6.heap.size ≤ w7.heap.size from hb7.size)
        clear z0 z1 z2 z3 z4 zf0 zf1 zf2 zf3 zf4 v0 v1' ho hb7 hw6
        obtain ⟨⟨z0, z1, z2, z3, z4⟩, zf0, zf1, zf2, zf3, zf4⟩ := blk5 Hk7.out
        obtain ⟨w8, hw8⟩ : ∃ w8, w7.setCell ⟨wr.heap.size, 4, none⟩ (.slice A9 nl c9) = w8 := ⟨_, rfl⟩
        have hk8 := (Hk7.out.set_ 4 (.slice A9 nl c9)).to (cs' := #[.int .i64 xk, .int .i64 xi, .int .i64 xa, .int .i64 xh, .slice A9 nl c9]) (by simp)
        have hne : w.heap.size + 1 ≠ wr.heap.size := by have := Hk4.out.lt; have := Hs6.out; omega
        have hk48 := Hk47.out.far (p := ⟨wr.heap.size, 4, none⟩) hne (.slice A9 nl c9)
        have ho8 := OwnR.far Ho.out (p := ⟨wr.heap.size, 4, none⟩) (fun e => by have := (Ho.out.block _ e).1; have := Hk6.out.lt; simp only at *; omega) (.slice A9 nl c9)
        have hb8 := Hb7.out.setCell (p := ⟨wr.heap.size, 4, none⟩) Hs6.out (.slice A9 nl c9)
        rw [hw8] at hk8 hk48 ho8 hb8
        obtain ⟨⟨q0, q1, q2, q3, q4⟩, -⟩ := blk5 hk8
        obtain ⟨⟨y0, y1, y2, y3, y4⟩, yf0, yf1, yf2, yf3, yf4⟩ := blk5 hk48
        have Hk48 := Lib.hid hk48
        have Ho8 := Lib.hid ho8
        have Hb8 := Lib.hid hb8
        clear hk8 hk48 ho8 hb8 hne
        go_wp2
        refine bodyPost_named (v := .tuple #[.agg #[.int .i64 xk, .int .i64 xi, .int .i64 xa, .int .i64 xh, .slice A9 nl c9], .bool true]) (fun W => Blk W (w.heap.size + 1) 59 #[.int .i64 xk, .int .i64 xi, .int .i64 xa, .int .i64 xh, .slice A9 nl c9]) (Blk.put5 Hk48.out _ _ _ _ _) (fun W hB => by
          obtain ⟨⟨e0, e1, e2, e3, e4⟩, -⟩ := blk5 hB
          simp [results, Try.results30, go_sem, e0, e1, e2, e3, e4]) rfl ?_
        have hlt4 : w.heap.size + 1 < w6.heap.size := by have := Hk46.out.lt; exact this
        refine ⟨.inl ⟨⟨⟨xk, xi⟩, ⟨xa, xh⟩, xn⟩, A9, c9, He.out, by simp only; rw [Hnl.out], ?_⟩, below_put5 (below_trans Hb0.out Hb0.out.size Hb8.out) (by omega) _ _ _ _ _⟩
        simp only
        rw [Hnl.out]
        exact (((((Ho8.out.set_ (p := ⟨w.heap.size + 1, 0, none⟩) hlt4 _).set_ (p := ⟨w.heap.size + 1, 1, none⟩) hlt4 _).set_ (p := ⟨w.heap.size + 1, 2, none⟩) hlt4 _).set_ (p := ⟨w.heap.size + 1, 3, none⟩) hlt4 _).set_ (p := ⟨w.heap.size + 1, 4, none⟩) hlt4 _).lower (Nat.le_trans (by omega) (Nat.le_of_lt hlt4))
      · rw [decide_eq_false he] at heq
        have Hm := Lib.hid (Hmore.out he)
        clear he
        go_wp2
        go_roundw
        case measure => have := Hlt.out; simp [intOf]; omega
        case rel => exact ⟨k + 1, by go_num, Hlt.out, Hm.out, Hb6.out⟩
    · have hke : k = N.length := by omega
      subst hke
      have hkk : ¬ (N.length : Int) < (N.length : Int) := by omega
      rw [List.take_length] at h0
      have Hno := Lib.hid (findN_not h0)
      have Hk4r := Lib.hid hk4r
      have Hb := Lib.hid hb
      obtain ⟨⟨y0, y1, y2, y3, y4⟩, yf0, yf1, yf2, yf3, yf4⟩ := blk5 hk4r
      clear hNr hk2r hk4r h0 hb hlt hk
      go_wp2
      refine bodyPost_named (v := .tuple #[.agg #[.int .i64 0, .int .i64 0, .int .i64 0, .int .i64 0, .slice none 0 0], .bool false]) (fun W => Blk W (w.heap.size + 1) 59 #[.int .i64 0, .int .i64 0, .int .i64 0, .int .i64 0, .slice none 0 0]) (Blk.put5 Hk4r.out _ _ _ _ _) (fun W hB => by
        obtain ⟨⟨e0, e1, e2, e3, e4⟩, -⟩ := blk5 hB
        simp [results, Try.results30, go_sem, e0, e1, e2, e3, e4]) rfl ?_
      exact ⟨.inr ⟨Hno.out, rfl⟩, below_put5 (below_trans Hb0.out Hb0.out.size Hb.out) (by omega) _ _ _ _ _⟩

end Go.Proofs.Ytpfjgecdlilkcaa

/-
  Layer 21: what a tree says: few nodes, few hops, low costs; what is found in it.
-/
namespace Go.Proofs.Ytpfjgecdlilkcaa
open Go.RowKit

theorem isHop_ok {E : List Ed} {DD : Vx → Vx → Option Val2} {r v : Vx} {h : Hp} (hr : r.kind = 1) (hh : isHop E DD r v h) : okHp h := by
  obtain ⟨e, he, hc, hs, a, ha, hh⟩ := hh
  obtain ⟨-, hdm, hk⟩ := cntE_iff.1 hc
  have hsk : e.fk = 1 := by rw [← hr, ← hs]; rfl
  have hlan : 0 ≤ e.ti / 16 ∧ e.ti / 16 ≤ 3 := by
    rcases mayV_iff.1 hdm with ⟨g, -⟩ | ⟨-, g1, g2⟩
    · have : e.tk = 1 := g
      omega
    · have g3 : (0 : Int) ≤ e.ti := g1
      have g4 : e.ti ≤ 63 := g2
      omega
  rcases hh with ⟨-, -, rfl⟩ | ⟨f, hf, hfc, hfs, b, -, -, rfl⟩
  · exact ⟨hlan, by simp, by simp⟩
  · obtain ⟨-, hfm, hfk⟩ := cntE_iff.1 hfc
    have hfsk : f.fk = e.tk := congrArg Vx.kind hfs
    rcases mayV_iff.1 hfm with ⟨-, g1, g2⟩ | ⟨g, -⟩
    · have g3 : (1 : Int) ≤ f.ti := g1
      have g4 : f.ti ≤ 15 := g2
      exact ⟨hlan, by simp only; omega, by simp only; omega⟩
    · have : f.tk = 2 := g
      omega
section
variable {E : List Ed} {DD : Vx → Vx → Option Val2} {r v : Vx} {L : List Nk}
theorem tree_low (hr : r.kind = 1) (h : TreeIs E DD r L) : ∀ n ∈ L, n.next.length ≤ 64 := fun n hn => hops_few (h.next n hn).1 fun x hx => isHop_ok hr (((h.next n hn).2 x).1 hx)
theorem tree_len (hD : Dists E DD) (hm : mayV r = true) (h : TreeIs E DD r L) : L.length ≤ 79 := by
  have hn : (L.map (·.v)).Nodup := (pairwise_map_key h.sorted).imp fun {a b} g => by rintro rfl; exact ltX_irr _ g
  have := may_len hn fun u hu => by
    obtain ⟨n, hn, rfl⟩ := List.mem_map.1 hu
    exact (hD r).may hm _ _ (h.val n hn)
  rwa [List.length_map] at this
theorem dist_low (hD : Dists E DD) {a : Val2} (hE : E.length ≤ 4000) (ha : DD r v = some a) : a.c ≤ 100000000 ∧ a.h ≤ 1000000 := by
  rw [← costs_dist (hD r)] at ha
  obtain ⟨k, hk, -, -, e⟩ := fix_some ha
  have h0 : BndR 0 [(r, (⟨0, 0⟩ : Val2))] := fun p hp => by
    rw [List.mem_singleton] at hp
    rw [hp]
    simp
  have h1 := h0.iter E 200 _ (List.getElem_mem hk)
  rw [e] at h1
  simp only at h1
  omega
end
section
variable {E : List Ed} {DD : Vx → Vx → Option Val2} {r v : Vx} {N : List NodeM}
theorem nodes_low (hr : r.kind = 1) (h : TreeIs E DD r (N.map NodeM.nk)) : ∀ x ∈ N, x.next.length ≤ 2 ^ 16 := fun x hx => Nat.le_trans (tree_low hr h _ (List.mem_map.2 ⟨x, hx, rfl⟩)) (by decide)
theorem treeOf_low (hr : r.kind = 1) (h : TreeOf E DD r (N.map NodeM.nk)) : ∀ x ∈ N, x.next.length ≤ 2 ^ 16 := by
  cases hm : mayV r with
  | true => exact nodes_low hr (h.1 hm)
  | false =>
    have := h.2 hm
    intro x hx
    rw [List.map_eq_nil_iff] at this
    rw [this] at hx
    cases hx
theorem treeOf_len (hD : Dists E DD) (h : TreeOf E DD r (N.map NodeM.nk)) : N.length ≤ 79 := by
  cases hm : mayV r with
  | true => have := tree_len hD hm (h.1 hm); rwa [List.length_map] at this
  | false =>
    have := h.2 hm
    rw [List.map_eq_nil_iff] at this
    rw [this]
    exact Nat.zero_le _
theorem find_has (h : TreeIs E DD r (N.map NodeM.nk)) {a : Val2} (ha : DD r v = some a) : ∃ x, findN N v = some x ∧ x ∈ N.map NodeM.nk ∧ x.v = v ∧ x.a = a := by
  obtain ⟨n, hn, hv⟩ := h.has v a ha
  cases hf : findN N v with
  | none =>
    unfold findN at hf
    rw [List.find?_eq_none] at hf
    exact absurd (decide_eq_true hv) (hf n hn)
  | some x =>
    unfold findN at hf
    have h1 := List.mem_of_find?_eq_some hf
    have h2 := List.find?_some hf
    rw [decide_eq_true_eq] at h2
    have h3 := h.val x h1
    rw [h2, ha] at h3
    injection h3 with h3
    exact ⟨x, rfl, h1, h2, h3.symm⟩
/-- a node is found by its vertex -/
theorem find_own (h : TreeIs E DD r (N.map NodeM.nk)) {n : NodeM} (hn : n ∈ N) : findN N n.v = some n.nk := by
  have hm : n.nk ∈ N.map NodeM.nk := List.mem_map.2 ⟨n, hn, rfl⟩
  obtain ⟨x, hx, hxm, hxv, hxa⟩ := find_has h (h.val _ hm)
  rw [show n.nk.v = n.v from rfl] at hx
  rw [hx]
  congr 1
  obtain ⟨i, hi, e1⟩ := List.getElem_of_mem hxm
  obtain ⟨j, hj, e2⟩ := List.getElem_of_mem hm
  have hs := List.pairwise_iff_getElem.1 h.sorted
  rcases Nat.lt_trichotomy i j with g | g | g
  · have := hs i j hi hj g
    rw [e1, e2, hxv] at this
    exact absurd this (ltX_irr _)
  · subst g
    rw [← e1, ← e2]
  · have := hs j i hj hi g
    rw [e1, e2, hxv] at this
    exact absurd this (ltX_irr _)
end

end Go.Proofs.Ytpfjgecdlilkcaa

/-
  The law SpfCheapest, without its walk: the places of the nodes in a map, the row of what was had, and what a least way says of each edge.
-/
namespace Go.Proofs.Ytpfjgecdlilkcaa
open Go.RowKit

def atL (N : List NodeM) : List (Vx × Value) := N.mapIdx fun i n => (n.v, .int .i64 ((i : Int) + 1))
theorem setL_fresh {κ : Type} [DecidableEq κ] (k : κ) (v : Value) : ∀ {L : List (κ × Value)}, (∀ e ∈ L, e.1 ≠ k) → setL k v L = L ++ [(k, v)]
  | [], _ => rfl
  | p :: L, h => by
    have h1 := h p (by simp)
    rw [setL, if_neg h1, setL_fresh k v (fun e he => h e (List.mem_cons_of_mem _ he))]
    rfl
theorem node_lt {N : List NodeM} (hs : (N.map NodeM.nk).Pairwise fun x y => ltX x.v y.v) {i j : Nat} (hi : i < N.length) (hj : j < N.length) (h : i < j) : ltX N[i].v N[j].v := by
  rw [List.pairwise_map] at hs
  exact (List.pairwise_iff_getElem.1 hs) i j hi hj h
theorem node_ne {N : List NodeM} (hs : (N.map NodeM.nk).Pairwise fun x y => ltX x.v y.v) {i j : Nat} (hi : i < N.length) (hj : j < N.length) (h : N[i].v = N[j].v) : i = j := by
  rcases Nat.lt_trichotomy i j with g | g | g
  · have := node_lt hs hi hj g
    rw [h] at this
    exact absurd this (ltX_irr _)
  · exact g
  · have := node_lt hs hj hi g
    rw [h] at this
    exact absurd this (ltX_irr _)
theorem atL_len (N : List NodeM) : (atL N).length = N.length := by simp [atL]
theorem atL_at {N : List NodeM} {i : Nat} (hi : i < N.length) : (atL N)[i]'(by rw [atL_len]; exact hi) = (N[i].v, .int .i64 ((i : Int) + 1)) := by simp [atL]
theorem atL_step {N : List NodeM} (hs : (N.map NodeM.nk).Pairwise fun x y => ltX x.v y.v) {k : Nat} (hk : k < N.length) : setL N[k].v (.int .i64 ((k : Int) + 1)) ((atL N).take k) = (atL N).take (k + 1) := by
  rw [setL_fresh, List.take_succ_eq_append_getElem (by rw [atL_len]; exact hk), atL_at hk]
  intro e he
  obtain ⟨i, hi, rfl⟩ := List.getElem_of_mem he
  rw [List.length_take, atL_len] at hi
  have hik : i < k := by omega
  rw [List.getElem_take, atL_at (by omega)]
  intro h
  have := node_ne hs (by omega) hk h
  omega
theorem atL_keys {N : List NodeM} (hs : (N.map NodeM.nk).Pairwise fun x y => ltX x.v y.v) : ((atL N).map (·.1)).Nodup := by
  have h : (atL N).map (·.1) = N.map (·.v) := by
    apply List.ext_getElem (by simp [atL])
    intro i h1 h2
    simp [atL]
  rw [h]
  rw [List.pairwise_map] at hs
  unfold List.Nodup
  rw [List.pairwise_map]
  exact hs.imp fun {a b} (g : ltX a.v b.v) e => by rw [e] at g; exact ltX_irr _ g
theorem atL_get {N : List NodeM} (hs : (N.map NodeM.nk).Pairwise fun x y => ltX x.v y.v) (v : Vx) :
    (∃ i, ∃ hi : i < N.length, N[i].v = v ∧ getL v (atL N) = some (.int .i64 ((i : Int) + 1))) ∨ ((∀ n ∈ N, n.v ≠ v) ∧ getL v (atL N) = none) := by
  by_cases h : ∃ n ∈ N, n.v = v
  · obtain ⟨n, hn, rfl⟩ := h
    obtain ⟨i, hi, rfl⟩ := List.getElem_of_mem hn
    refine .inl ⟨i, hi, rfl, getL_of_mem (atL_keys hs) ?_⟩
    rw [← atL_at hi]
    exact List.getElem_mem _
  · have h' : ∀ n ∈ N, n.v ≠ v := fun n hn e => h ⟨n, hn, e⟩
    refine .inr ⟨h', getL_none.2 fun e he => ?_⟩
    obtain ⟨i, hi, rfl⟩ := List.getElem_of_mem he
    rw [atL_len] at hi
    rw [atL_at hi]
    exact h' _ (List.getElem_mem hi)

/-- a row of yes and no -/
def HadAt (w : World) (g : Nat) (H : Nat → Bool) (n : Nat) : Prop := ∃ cs : Array Value, Blk w g 4 cs ∧ cs.size = n ∧ ∀ i, i < n → cs[i]? = some (.bool (H i))
theorem HadAt.lt {w : World} {g n : Nat} {H : Nat → Bool} (h : HadAt w g H n) : g < w.heap.size := by obtain ⟨cs, h1, -⟩ := h; exact h1.lt
theorem HadAt.below {w w' : World} {B g n : Nat} {H : Nat → Bool} (h : HadAt w g H n) (hb : Below B w w') (hg : g < B) : HadAt w' g H n := by
  obtain ⟨cs, h1, h2, h3⟩ := h
  exact ⟨cs, h1.below hb hg, h2, h3⟩
theorem HadAt.drewN {w : World} {g n : Nat} {H : Nat → Bool} (h : HadAt w g H n) (k : Nat) : HadAt (w.drewN k) g H n := h
theorem HadAt.cell {w : World} {g n : Nat} {H : Nat → Bool} (h : HadAt w g H n) {i : Nat} (hi : i < n) : w.cell? ⟨g, i, none⟩ = some (.bool (H i)) ∧ w.frozen? ⟨g, i, none⟩ = false := by
  obtain ⟨cs, h1, h2, h3⟩ := h
  exact ⟨by rw [h1.cell, h3 i hi], h1.frozen i⟩
theorem HadAt.put {w : World} {g n : Nat} {H : Nat → Bool} (h : HadAt w g H n) {i : Nat} (hi : i < n) : HadAt (w.setCell ⟨g, i, none⟩ (.bool true)) g (fun j => decide (j = i) || H j) n := by
  obtain ⟨cs, h1, h2, h3⟩ := h
  refine ⟨_, h1.set_ i _, by simp [h2], fun j hj => ?_⟩
  by_cases e : j = i
  · subst e
    simp [h2, hi]
  · rw [Array.getElem?_setIfInBounds_ne (fun h => e h.symm), h3 j hj]
    simp [e]
theorem made_had (w : World) (n : Nat) (hn : n ≤ 1000) : (Instr.makeSlice 64 (.int .i64 (n : Int)) (.int .i64 (n : Int))).run Try.prog w = .ok (.slice (some ⟨w.heap.size, 0, none⟩) n n) (w.alloc (.cells (madeCells #[.bool false] n) 4)) ∧ HadAt (w.alloc (.cells (madeCells #[.bool false] n) 4)) w.heap.size (fun _ => false) n := by
  have hinfo : (Try.prog.info? 4).map (fun i => (i.zero, i.size, i.bytes)) = some (some (.bool false), 1, 1) := by kernel_rfl
  cases hi : Try.prog.info? 4 with
  | none => rw [hi] at hinfo; cases hinfo
  | some i =>
    rw [hi] at hinfo
    simp only [Option.map_some, Option.some.injEq, Prod.mk.injEq] at hinfo
    obtain ⟨z1, z2, z3⟩ := hinfo
    refine ⟨?_, ⟨_, Blk.new _ _ _, size_madeCells _ _, fun j hj => by simp [madeCells, hj, Nat.mod_one]⟩⟩
    have h := run_makeSlice (P := Try.prog) w 64 4 i (.bool false) Try.underlying64 hi z1 .i64 .i64 n n (by omega) (Int.le_refl _) (by rw [z2]; simp; omega) (by rw [z3]; omega) (by omega)
    rw [z2] at h
    simpa [Value.cells] using h

/-- what an edge of the list, that counts, from a node says -/
theorem edge_says {E : List Ed} {DD : Vx → Vx → Option Val2} {r : Vx} {N : List NodeM} (hD : Dists E DD) (hT : TreeIs E DD r (N.map NodeM.nk)) {e : Ed} (he : e ∈ E) (hc : cntE e = true) {i : Nat} (hi : i < N.length) (hs : N[i].v = e.src) :
    ∃ j, ∃ hj : j < N.length, N[j].v = e.dst ∧ (N[j].a.c : Int) ≤ (N[i].a.c : Int) + e.cost := by
  have hv := hT.val N[i].nk (List.mem_map.2 ⟨_, List.getElem_mem hi, rfl⟩)
  have hv' : DD r e.src = some N[i].a := by rw [← hs]; exact hv
  obtain ⟨b, hb, hle⟩ := (hD r).closed e he hc _ hv'
  obtain ⟨n, hn, hnv⟩ := hT.has _ _ hb
  obtain ⟨m, hm, rfl⟩ := List.mem_map.1 hn
  obtain ⟨j, hj, rfl⟩ := List.getElem_of_mem hm
  refine ⟨j, hj, hnv, ?_⟩
  have hw := hT.val _ hn
  rw [hnv, hb] at hw
  injection hw with hw
  have hw' : b = N[j].a := hw
  subst hw'
  have hge : 0 ≤ e.cost := by
    obtain ⟨-, -, h⟩ := cntE_iff.1 hc
    omega
  unfold leV stepV at hle
  simp only at hle
  omega
/-- an edge by which a node has its cost -/
def Hit (N : List NodeM) (e : Ed) (j : Nat) : Prop := cntE e = true ∧ ∃ i, ∃ hi : i < N.length, ∃ hj : j < N.length, N[i].v = e.src ∧ N[j].v = e.dst ∧ (N[j].a.c : Int) = (N[i].a.c : Int) + e.cost
theorem node_had {E : List Ed} {DD : Vx → Vx → Option Val2} {r : Vx} {N : List NodeM} (hD : Dists E DD) (hr : r.kind = 1) (hT : TreeIs E DD r (N.map NodeM.nk)) {j : Nat} (hj : j < N.length) (hne : N[j].v ≠ r) :
    (∃ e ∈ E, Hit N e j) ∧ 1 ≤ N[j].a.c ∧ 1 ≤ N[j].a.h ∧ 0 < N[j].next.length := by
  have hm : N[j].nk ∈ N.map NodeM.nk := List.mem_map.2 ⟨_, List.getElem_mem hj, rfl⟩
  have hv : DD r N[j].v = some N[j].a := hT.val _ hm
  have hx := hT.next _ hm
  refine ⟨?_, ?_⟩
  · rcases (hD r).tight _ _ hv with h | ⟨e, he, hc, hd, b, hb, ha⟩
    · exact absurd h hne
    · obtain ⟨n, hn, hnv⟩ := hT.has _ _ hb
      obtain ⟨m, hmm, rfl⟩ := List.mem_map.1 hn
      obtain ⟨i, hi, rfl⟩ := List.getElem_of_mem hmm
      have hw := hT.val _ hn
      rw [hnv, hb] at hw
      injection hw with hw
      have hw' : b = N[i].a := hw
      subst hw'
      have hge : 0 ≤ e.cost := by
        obtain ⟨-, -, h⟩ := cntE_iff.1 hc
        omega
      refine ⟨e, he, hc, i, hi, hj, hnv, hd.symm, ?_⟩
      rw [ha]
      unfold stepV
      simp only
      omega
  · rcases (hD r).pos hr _ _ hv with ⟨h, -⟩ | ⟨-, h1, h2⟩
    · exact absurd h hne
    · refine ⟨h1, h2, ?_⟩
      rcases isHop_some hD hr _ _ hv with h | ⟨h, hh⟩
      · exact absurd h hne
      · exact List.length_pos_of_mem ((hx.2 h).2 hh)
theorem hop_root {E : List Ed} {DD : Vx → Vx → Option Val2} {r : Vx} (hD : Dists E DD) (hr : r.kind = 1) {h : Hp} : ¬ isHop E DD r r h := by
  rintro ⟨e, he, hc, hs, a, ha, hh⟩
  rw [(hD r).root] at ha
  injection ha with ha
  subst ha
  obtain ⟨-, -, hk⟩ := cntE_iff.1 hc
  have hsk : e.fk = r.kind := by rw [← hs]; rfl
  rcases hh with ⟨-, h2, -⟩ | ⟨f, -, -, -, b, -, h2, -⟩ <;> simp only at h2 <;> omega
theorem node_root {E : List Ed} {DD : Vx → Vx → Option Val2} {r : Vx} {N : List NodeM} (hD : Dists E DD) (hr : r.kind = 1) (hT : TreeIs E DD r (N.map NodeM.nk)) {j : Nat} (hj : j < N.length) (he : N[j].v = r) :
    N[j].a.c = 0 ∧ N[j].a.h = 0 ∧ N[j].next.length = 0 := by
  have hm : N[j].nk ∈ N.map NodeM.nk := List.mem_map.2 ⟨_, List.getElem_mem hj, rfl⟩
  have hv : DD r N[j].v = some N[j].a := hT.val _ hm
  have hx := hT.next _ hm
  rw [he, (hD r).root] at hv
  injection hv with hv
  rw [← hv]
  refine ⟨rfl, rfl, ?_⟩
  cases hn : N[j].next with
  | nil => rfl
  | cons h l =>
    have hh := (hx.2 h).1 (by show h ∈ N[j].next; rw [hn]; simp)
    have hh' : isHop E DD r r h := by
      have : N[j].nk.v = r := he
      rw [this] at hh
      exact hh
    exact absurd hh' (hop_root hD hr)
theorem tree_some {E : List Ed} {DD : Vx → Vx → Option Val2} {r : Vx} {N : List NodeM} (hD : Dists E DD) (hT : TreeIs E DD r (N.map NodeM.nk)) : 0 < N.length := by
  obtain ⟨n, hn, -⟩ := hT.has _ _ (hD r).root
  rw [← List.length_map (f := NodeM.nk)]
  exact List.length_pos_of_mem hn

end Go.Proofs.Ytpfjgecdlilkcaa

/-
  A block of rows of hops, one for each.
-/
namespace Go.Proofs.Ytpfjgecdlilkcaa
open Go.RowKit

def NextAt (w : World) (B gx : Nat) (N : List (List Hp)) : Prop := ∃ cs : Array Value, Blk w gx 57 cs ∧ cs.size = N.length ∧ ∀ i (h : i < N.length), ∃ v, cs[i]? = some v ∧ OwnH w B v N[i]
section
variable {w w' : World} {B gx : Nat} {N : List (List Hp)}
theorem NextAt.lt (h : NextAt w B gx N) : gx < w.heap.size := by obtain ⟨cs, h1, -⟩ := h; exact h1.lt
theorem NextAt.below (h : NextAt w B gx N) (hb : Below w.heap.size w w') : NextAt w' B gx N := by
  obtain ⟨cs, h1, h2, h3⟩ := h
  refine ⟨cs, h1.below hb h1.lt, h2, fun i hi => ?_⟩
  obtain ⟨v, h4, h5⟩ := h3 i hi
  exact ⟨v, h4, h5.below hb⟩
theorem NextAt.cell (h : NextAt w B gx N) {i : Nat} (hi : i < N.length) : ∃ A n c, w.cell? ⟨gx, i, none⟩ = some (.slice A n c) ∧ w.frozen? ⟨gx, i, none⟩ = false ∧ N[i].length = n ∧ OwnH w B (.slice A n c) N[i] := by
  obtain ⟨cs, h1, h2, h3⟩ := h
  obtain ⟨v, h4, h5⟩ := h3 i hi
  obtain ⟨A, c, hv⟩ := h5.shape
  subst hv
  exact ⟨A, _, c, by rw [h1.cell, h4], h1.frozen i, rfl, h5⟩
theorem NextAt.put (h : NextAt w B gx N) (hB : gx < B) {i : Nat} (hi : i < N.length) {v : Value} {x : List Hp} (hv : OwnH w B v x) : NextAt (w.setCell ⟨gx, i, none⟩ v) B gx (N.set i x) := by
  obtain ⟨cs, h1, h2, h3⟩ := h
  refine ⟨_, h1.set_ i v, by simp [h2], fun j hj => ?_⟩
  rw [List.length_set] at hj
  by_cases e : j = i
  · subst e
    refine ⟨v, by simp [h2, hi], ?_⟩
    rw [List.getElem_set_self]
    exact hv.set_ (p := ⟨gx, j, none⟩) hB v
  · obtain ⟨u, h4, h5⟩ := h3 j hj
    refine ⟨u, by rw [Array.getElem?_setIfInBounds_ne (fun h => e h.symm), h4], ?_⟩
    rw [List.getElem_set_ne (fun h => e h.symm)]
    exact h5.set_ (p := ⟨gx, i, none⟩) hB v
end
theorem made_next (w : World) (B n : Nat) (hn : n ≤ 1000) : (Instr.makeSlice 117 (.int .i64 (n : Int)) (.int .i64 (n : Int))).run Try.prog w = .ok (.slice (some ⟨w.heap.size, 0, none⟩) n n) (w.alloc (.cells (madeCells #[.slice none 0 0] n) 57)) ∧ NextAt (w.alloc (.cells (madeCells #[.slice none 0 0] n) 57)) B w.heap.size (List.replicate n []) := by
  have hinfo : (Try.prog.info? 57).map (fun i => (i.zero, i.size, i.bytes)) = some (some (.slice none 0 0), 1, 24) := by kernel_rfl
  cases hi : Try.prog.info? 57 with
  | none => rw [hi] at hinfo; cases hinfo
  | some i =>
    rw [hi] at hinfo
    simp only [Option.map_some, Option.some.injEq, Prod.mk.injEq] at hinfo
    obtain ⟨z1, z2, z3⟩ := hinfo
    refine ⟨?_, ⟨_, Blk.new _ _ _, by simp [size_madeCells], fun j hj => ?_⟩⟩
    · have h := run_makeSlice (P := Try.prog) w 117 57 i (.slice none 0 0) Try.underlying117 hi z1 .i64 .i64 n n (by omega) (Int.le_refl _) (by rw [z2]; simp; omega) (by rw [z3]; omega) (by omega)
      rw [z2] at h
      simpa [Value.cells] using h
    · rw [List.length_replicate] at hj
      refine ⟨.slice none 0 0, by simp [madeCells, hj, Nat.mod_one], ?_⟩
      rw [List.getElem_replicate]
      exact OwnR.nil _ _

/-- add, at a row of one's own: it stays one -/
theorem refAdd_own (h1 h2 : Int) (A : Option Addr) (c n B : Nat) (L : List Hp) (w : World) (hO : OwnH w B (.slice A n c) L) (hB : B ≤ w.heap.size) (hl : L.length ≤ 2 ^ 20) (hn : L.length = n) :
    Calls Try.prog 60 #[.slice A n c, .agg #[.int .i64 h1, .int .i64 h2]] w fun r w' => (∃ A' n' c', r = .returned (.slice A' n' c') ∧ OwnH w' B (.slice A' n' c') (addHp ⟨h1, h2⟩ L)) ∧ Below w.heap.size w w' := by
  refine (refAdd_any h1 h2 A c n L w (OwnR.rows (C := 2) (cells := Hp.cells) (fun _ => rfl) hO).2 hl hn).mono ?_
  rintro r w' ⟨⟨v, rfl, ⟨rfl, e⟩ | h⟩, hb⟩
  · exact ⟨⟨A, n, c, rfl, by rw [e]; exact hO.below hb⟩, hb⟩
  · have h' := OwnR.lower h hB
    obtain ⟨A', c', hv⟩ := h'.shape
    subst hv
    exact ⟨⟨A', _, c', rfl, h'⟩, hb⟩
/-- a cell, in all worlds that grow -/
theorem NextAt.cellW {w : World} {B gx : Nat} {N : List (List Hp)} (h : NextAt w B gx N) {i : Nat} (hi : i < N.length) : ∃ A n c, (∀ W, Below w.heap.size w W → W.cell? ⟨gx, i, none⟩ = some (.slice A n c) ∧ W.frozen? ⟨gx, i, none⟩ = false) ∧ N[i].length = n ∧ OwnH w B (.slice A n c) N[i] := by
  obtain ⟨cs, h1, h2, h3⟩ := h
  obtain ⟨v, h4, h5⟩ := h3 i hi
  obtain ⟨A, c, hv⟩ := h5.shape
  subst hv
  exact ⟨A, _, c, fun W hW => ⟨by rw [(h1.below hW h1.lt).cell, h4], (h1.below hW h1.lt).frozen i⟩, rfl, h5⟩
section
variable {E X Y : List Ed} {r : Vx} {DD : Vx → Vx → Option Val2} {R : List RowV} {N : List (List Hp)} {e f : Ed} {V : List Vx}
theorem dst_lan {e : Ed} (hr : r.kind = 1) (hc : cntE e = true) (hs : e.src = r) : 0 ≤ e.ti ∧ e.ti ≤ 63 ∧ e.tk = 2 := by
  obtain ⟨-, hdm, hk⟩ := cntE_iff.1 hc
  have hsk : e.fk = 1 := by rw [← hr, ← hs]; rfl
  have htk : e.tk = 2 := by omega
  rcases mayV_iff.1 hdm with ⟨g, -⟩ | ⟨-, g1, g2⟩
  · have : e.tk = 1 := g
    omega
  · exact ⟨g1, g2, htk⟩
theorem dst_rt {e f : Ed} (he : e.tk = 2) (hc : cntE f = true) (hs : f.src = e.dst) : 1 ≤ f.ti ∧ f.ti ≤ 15 ∧ f.tk = 1 := by
  obtain ⟨-, hdm, hk⟩ := cntE_iff.1 hc
  have hsk : f.fk = 2 := by rw [← he]; exact congrArg Vx.kind hs
  have htk : f.tk = 1 := by omega
  rcases mayV_iff.1 hdm with ⟨-, g1, g2⟩ | ⟨g, -⟩
  · exact ⟨g1, g2, htk⟩
  · have : f.tk = 2 := g
    omega
theorem hop1_ok (hr : r.kind = 1) {v : Vx} {c : Nat} {h : Hp} (hh : Hop1 r e v c h) : okHp h := by
  obtain ⟨hc, hs, -, -, rfl⟩ := hh
  have := dst_lan hr hc hs
  exact ⟨⟨by simp only; omega, by simp only; omega⟩, by simp, by simp⟩
theorem hop2_ok (hr : r.kind = 1) {v : Vx} {c : Nat} {h : Hp} (hh : Hop2 DD r e f v c h) : okHp h := by
  obtain ⟨hc, hs, hcf, hsf, -, rfl⟩ := hh
  have h1 := dst_lan hr hc hs
  have h2 := dst_rt h1.2.2 hcf hsf
  exact ⟨⟨by simp only; omega, by simp only; omega⟩, by simp only; omega, by simp only; omega⟩
theorem hopA_ok (hr : r.kind = 1) {v : Vx} {c : Nat} {h : Hp} (hh : HopA E DD r X v c h) : okHp h := by
  obtain ⟨e, -, h | ⟨f, -, h⟩⟩ := hh
  · exact hop1_ok hr h
  · exact hop2_ok hr h
theorem hopC_ok (hr : r.kind = 1) {v : Vx} {c : Nat} {h : Hp} (hh : HopC E DD r X e Y f V v c h) : okHp h := by
  rcases hh with (h | h | ⟨f, -, h⟩) | ⟨-, h⟩
  · exact hopA_ok hr h
  · exact hop1_ok hr h
  · exact hop2_ok hr h
  · exact hop2_ok hr h
theorem HopsOf.low {P : Vx → Nat → Hp → Prop} (h : HopsOf R N P) (hP : ∀ v c x, P v c x → okHp x) : ∀ l ∈ N, l.length ≤ 64 := by
  intro l hl
  obtain ⟨j, hj, rfl⟩ := List.getElem_of_mem hl
  have hj' : j < R.length := by have := h.len; omega
  obtain ⟨h1, h2⟩ := h.each j hj'
  exact hops_few h1 fun x hx => hP _ _ x ((h2 x).1 hx)
end
theorem get_at : ∀ {L : List RowV}, (L.map (·.1)).Nodup → ∀ {j : Nat} (hj : j < L.length) {v : Vx} {a : Val2}, L[j] = (v, a) → getR L v = some a
  | [], _, _, hj, _, _, _ => by cases hj
  | p :: L, hn, 0, _, v, a, h => by
    have h' : p = (v, a) := h
    rw [getR_cons, h', if_pos rfl]
  | p :: L, hn, j + 1, hj, v, a, h => by
    rw [List.map_cons, List.nodup_cons] at hn
    have hj' : j < L.length := by simpa using hj
    have h' : L[j] = (v, a) := h
    rw [getR_cons, if_neg]
    · exact get_at hn.2 hj' h'
    · intro e
      refine hn.1 (List.mem_map.2 ⟨(v, a), ?_, e.symm⟩)
      rw [← h']
      exact List.getElem_mem hj'
/-- the vertices in order, one more -/
theorem ordV_get : ∀ m < 128, ordV[m]? = some ⟨((m / 64 + 1 : Nat) : Int), ((m % 64 : Nat) : Int)⟩ := by decide
theorem ordV_next {q i : Nat} (hq : q < 2) (hi : i < 64) : ordV.take (64 * q + i + 1) = ordV.take (64 * q + i) ++ [⟨((q + 1 : Nat) : Int), (i : Int)⟩] := by
  have h := ordV_get (64 * q + i) (by omega)
  rw [show (64 * q + i) / 64 = q by omega, show (64 * q + i) % 64 = i by omega] at h
  obtain ⟨hl, e⟩ := List.getElem?_eq_some_iff.1 h
  rw [List.take_succ_eq_append_getElem hl, e]
theorem ordV_all : ordV.take 128 = ordV := by
  have : ordV.length = 128 := by unfold ordV; simp
  rw [← this, List.take_length]
/-- the nodes so far -/
structure NodesTo (w : World) (B B' : Nat) (T : Vx → Option (Val2 × List Hp)) (m : Nat) (v : Value) (M : List NodeM) : Prop where
  row : OwnR 59 5 NodeM.cells w B v M
  each : ∀ x ∈ M, OwnH w B' x.nv x.next
  is : M.map NodeM.nk = nodesO T (ordV.take m)
theorem NodesTo.len {w : World} {B B' : Nat} {T : Vx → Option (Val2 × List Hp)} {m : Nat} {v : Value} {M : List NodeM} (h : NodesTo w B B' T m v M) : M.length ≤ 128 := by
  have h1 := congrArg List.length h.is
  rw [List.length_map] at h1
  rw [h1]
  unfold nodesO
  have hg : ∀ L : List Vx, (L.flatMap (nodeO T)).length ≤ L.length := by
    intro L
    induction L with
    | nil => simp
    | cons v L ih =>
      rw [List.flatMap_cons, List.length_append, List.length_cons]
      have : (nodeO T v).length ≤ 1 := by unfold nodeO; cases T v <;> simp
      omega
  refine Nat.le_trans (hg _) ?_
  have : ordV.length = 128 := by unfold ordV; simp
  rw [List.length_take]
  omega
theorem NodesTo.below {w w' : World} {B B' : Nat} {T : Vx → Option (Val2 × List Hp)} {m : Nat} {v : Value} {M : List NodeM} (h : NodesTo w B B' T m v M) (hb : Below w.heap.size w w') : NodesTo w' B B' T m v M := ⟨h.row.below hb, fun x hx => (h.each x hx).below hb, h.is⟩
theorem NodesTo.skip {w : World} {B B' : Nat} {T : Vx → Option (Val2 × List Hp)} {q i : Nat} {v : Value} {M : List NodeM} (h : NodesTo w B B' T (64 * q + i) v M) (hq : q < 2) (hi : i < 64) (hT : T ⟨((q + 1 : Nat) : Int), (i : Int)⟩ = none) : NodesTo w B B' T (64 * q + (i + 1)) v M := by
  refine ⟨h.row, h.each, ?_⟩
  rw [h.is, ← Nat.add_assoc, ordV_next hq hi]
  unfold nodesO
  rw [List.flatMap_append, List.flatMap_cons, List.flatMap_nil]
  unfold nodeO
  rw [hT]
  simp
theorem NodesTo.more {w w' : World} {B B' : Nat} {T : Vx → Option (Val2 × List Hp)} {q i : Nat} {v v' : Value} {M : List NodeM} (h : NodesTo w B B' T (64 * q + i) v M) (hq : q < 2) (hi : i < 64) {a : Val2} {A : Option Addr} {c : Nat} {l : List Hp} (hT : T ⟨((q + 1 : Nat) : Int), (i : Int)⟩ = some (a, l))
    (hr : OwnR 59 5 NodeM.cells w' B v' (M ++ [⟨⟨((q + 1 : Nat) : Int), (i : Int)⟩, a, A, c, l⟩])) (he : ∀ x ∈ M, OwnH w' B' x.nv x.next) (hl : OwnH w' B' (.slice A l.length c) l) : NodesTo w' B B' T (64 * q + (i + 1)) v' (M ++ [⟨⟨((q + 1 : Nat) : Int), (i : Int)⟩, a, A, c, l⟩]) := by
  refine ⟨hr, ?_, ?_⟩
  · intro x hx
    rcases List.mem_append.1 hx with hx | hx
    · exact he x hx
    · rw [List.mem_singleton] at hx
      subst hx
      exact hl
  · rw [List.map_append, h.is, ← Nat.add_assoc, ordV_next hq hi]
    unfold nodesO
    rw [List.flatMap_append, List.flatMap_cons, List.flatMap_nil]
    congr 1
    unfold nodeO
    rw [hT]
    simp [NodeM.nk]

end Go.Proofs.Ytpfjgecdlilkcaa

/-
  Layer 21: hops, and nodes, that are alike: the document's words.
-/
namespace Go.Proofs.Ytpfjgecdlilkcaa
open Go.RowKit

set_option maxHeartbeats 4000000 in
set_option maxRecDepth 100000 in
theorem refHops_eq (A1 A2 : Option Addr) (c1 c2 n : Nat) (L : List Hp) (w : World) (h1 : RowsH w w.heap.size A1 L) (h2 : RowsH w w.heap.size A2 L) (hl : L.length ≤ 2 ^ 20) (hn : n = L.length) :
    Calls Try.prog 56 #[.slice A1 n c1, .slice A2 n c2] w fun r w' => r = .returned (.bool true) ∧ Below w.heap.size w w' := by
  subst hn
  have H1 := Lib.hid h1
  have H2 := Lib.hid h2
  have hli : (L.length : Int) ≤ 1048576 := by omega
  have hne : ((L.length : Int) != (L.length : Int)) = false := by simp
  clear h1 h2 hl
  go_enter Try.func56, Try.ntmps56
  go_wp2
  go_loopw [5] (fun i wr => ∃ k : Nat, i = .int .i64 k ∧ k ≤ L.length ∧ Below w.heap.size w wr) (fun i _ => L.length - (intOf i).toNat)
  case atStart => exact ⟨0, rfl, Nat.zero_le _, Below.refl _ _⟩
  case round =>
    obtain ⟨k, rfl, hk, hb⟩ := hrel
    by_cases hlt : k < L.length
    · have hki : (k : Int) < (L.length : Int) := by omega
      obtain ⟨g, o, hA, -, x0, x1⟩ := row_hp ((H1.out.below hb).more hb.size) k hlt
      obtain ⟨g', o', hA', -, y0, y1⟩ := row_hp ((H2.out.below hb).more hb.size) k hlt
      have HA := Lib.hid hA
      have HA' := Lib.hid hA'
      rw [hA, hA']
      have Hlt := Lib.hid hlt
      have Hb := Lib.hid hb
      generalize L[k] = e at *
      obtain ⟨e1, e2⟩ := e
      simp only at x0 x1 y0 y1
      have heq := fun w => neqHpN e1 e2 e1 e2 w
      simp only [decide_true, Bool.not_true] at heq
      clear hA hA' hlt hb hk
      go_wp2
      go_quiet (fail)
      go_wp2
      go_roundw
      case measure => have := Hlt.out; simp [intOf]; omega
      case rel => exact ⟨k + 1, by go_num, Hlt.out, below_drewN Hb.out _⟩
    · have hke : k = L.length := by omega
      subst hke
      have hkk : ¬ (L.length : Int) < (L.length : Int) := by omega
      have Hb := Lib.hid hb
      clear hb hlt hk
      go_wp2
      go_ret
      exact ⟨rfl, Hb.out⟩
theorem neqVxN (a b a' b' : Int) (w : World) : (binOp .neq 40 (.agg #[.int .i64 a, .int .i64 b]) (.agg #[.int .i64 a', .int .i64 b'])).run Try.prog w = .ok (.bool (!decide ((⟨a, b⟩ : Vx) = ⟨a', b'⟩))) w := by
  have h := eqVxN a b a' b' w
  simp only [binOp]
  simp [Op.equal, Op.maxDepth, h]
set_option maxHeartbeats 8000000 in
set_option maxRecDepth 100000 in
theorem refSame21 (A1 A2 : Option Addr) (c1 c2 n1 n2 : Nat) (N M : List NodeM) (w : World) (h1 : NodesIn w w.heap.size A1 N) (h2 : NodesIn w w.heap.size A2 M) (hNM : N.map NodeM.nk = M.map NodeM.nk) (hl : N.length ≤ 2 ^ 20) (hn1 : n1 = N.length) (hn2 : n2 = M.length) :
    Calls Try.prog 28 #[.slice A1 n1 c1, .slice A2 n2 c2] w fun r w' => r = .returned (.bool true) ∧ Below w.heap.size w w' := by
  have hlen : N.length = M.length := by
    have := congrArg List.length hNM
    rwa [List.length_map, List.length_map] at this
  have hn12 : n2 = n1 := by omega
  subst hn12
  have H1 := Lib.hid h1
  have H2 := Lib.hid h2
  have HNM := Lib.hid hNM
  have Hn1 := Lib.hid hn1
  have Hn2 := Lib.hid hn2
  have hli : (n2 : Int) ≤ 1048576 := by omega
  have hne : ((n2 : Int) != (n2 : Int)) = false := by simp
  clear h1 h2 hl hNM hn1 hn2 hlen
  go_enter Try.func28, Try.ntmps28
  go_wp2
  go_loopw [5] (fun i wr => ∃ k : Nat, i = .int .i64 k ∧ k ≤ n2 ∧ Below w.heap.size w wr) (fun i _ => n2 - (intOf i).toNat)
  case atStart => exact ⟨0, rfl, Nat.zero_le _, Below.refl _ _⟩
  case round =>
    obtain ⟨k, rfl, hk, hb⟩ := hrel
    by_cases hlt : k < n2
    · have hki : (k : Int) < (n2 : Int) := by omega
      have hk1 : k < N.length := by have := Hn1.out; omega
      have hk2 : k < M.length := by have := Hn2.out; omega
      have r1 := (H1.out.below hb).more hb.size
      have r2 := (H2.out.below hb).more hb.size
      obtain ⟨g, o, hA, -, x0, x1, x2, x3, x4⟩ := row_nd r1.rows k hk1
      obtain ⟨g', o', hA', -, y0, y1, y2, y3, y4⟩ := row_nd r2.rows k hk2
      have hsame : N[k].nk = M[k].nk := by
        have := congrArg (fun l => l[k]?) HNM.out
        simp only [List.getElem?_map, List.getElem?_eq_getElem hk1, List.getElem?_eq_getElem hk2, Option.map_some, Option.some.injEq] at this
        exact this
      have e1 := r1.each _ (List.getElem_mem hk1)
      have e2 := r2.each _ (List.getElem_mem hk2)
      have el := r1.low _ (List.getElem_mem hk1)
      have HA := Lib.hid hA
      have HA' := Lib.hid hA'
      rw [hA, hA']
      generalize N[k] = x at *
      generalize M[k] = y at *
      obtain ⟨⟨xk, xi⟩, ⟨xa, xh⟩, xA, xc, xn⟩ := x
      obtain ⟨⟨yk, yi⟩, ⟨ya, yh⟩, yA, yc, yn⟩ := y
      unfold NodeM.nk at hsame
      simp only [Nk.mk.injEq, Vx.mk.injEq, Val2.mk.injEq] at hsame
      obtain ⟨⟨rfl, rfl⟩, ⟨rfl, rfl⟩, rfl⟩ := hsame
      simp only at x0 x1 x2 x3 x4 y0 y1 y2 y3 y4 e1 e2 el
      obtain ⟨nl, hnl⟩ : ∃ n, xn.length = n := ⟨_, rfl⟩
      rw [hnl] at x4 y4 el
      have HH := Lib.hid (fun q => refHops_eq xA yA xc yc nl xn (wr.drewN q) (e1.below (below_drewN (Below.refl _ _) q)) (e2.below (below_drewN (Below.refl _ _) q)) (by omega) hnl.symm)
      have Hlt := Lib.hid hlt
      have Hb := Lib.hid hb
      have heq := fun w => neqVxN xk xi xk xi w
      simp only [decide_true, Bool.not_true] at heq
      have hq1 : ((xa : Int) != (xa : Int)) = false := by simp
      have hq2 : ((xh : Int) != (xh : Int)) = false := by simp
      clear hA hA' hlt hb hk hk1 hk2 r1 r2 e1 e2 el hnl
      go_wp2
      refine wp_drew_tail 48 (by kernel_rfl) (by kernel_rfl) ?_
      simp only [List.take_succ_cons, List.take_zero, List.drop_succ_cons, List.drop_zero]
      repeat (go_big_quiet_step (fail))
      refine wpQuiet_nil ?_
      rintro w7 ⟨dq, rfl⟩
      go_wp2_with (go_at_call 56; (with_reducible refine Calls.mono (HH.out _) ?_); rintro r w8 ⟨rfl, hb8⟩; have Hb8 := Lib.hid (below_trans (below_drewN Hb.out _) (below_drewN Hb.out _).size hb8); clear hb8)
      go_roundw
      case measure => have := Hlt.out; simp [intOf]; omega
      case rel => exact ⟨k + 1, by go_num, Hlt.out, Hb8.out⟩
    · have hke : k = n2 := by omega
      subst hke
      have hkk : ¬ (k : Int) < (k : Int) := by omega
      have Hb := Lib.hid hb
      clear hb hlt hk
      go_wp2
      go_ret
      exact ⟨rfl, Hb.out⟩

end Go.Proofs.Ytpfjgecdlilkcaa
