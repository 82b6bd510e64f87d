/-
  Layer 21: the node of a vertex; nodes read; nodes that are alike.
-/
import Derived.Test.YtpfjgecdlilkcaaSpSort
namespace Go.Proofs.Ytpfjgecdlilkcaa
open Go.RowKit Go.Sort

/-- nodes that can be read -/
structure NodesIn (w : World) (B : Nat) (A : Option Addr) (N : List NodeM) : Prop where
  rows : RowsAt 5 NodeM.cells w B A N
  each : ∀ x ∈ N, RowsH w B x.A x.next
  low : ∀ x ∈ N, x.next.length ≤ 2 ^ 16
theorem NodesIn.below {w w' : World} {B : Nat} {A : Option Addr} {N : List NodeM} (h : NodesIn w B A N) (hb : Below B w w') : NodesIn w' B A N := ⟨h.rows.below hb, fun x hx => (h.each x hx).below hb, h.low⟩
theorem NodesIn.more {w : World} {B B' : Nat} {A : Option Addr} {N : List NodeM} (h : NodesIn w B A N) (hb : B ≤ B') : NodesIn w B' A N := ⟨h.rows.more hb, fun x hx => (h.each x hx).more hb, h.low⟩
theorem row_nd {w : World} {B : Nat} {A : Option Addr} {l : List NodeM} (h : RowsAt 5 NodeM.cells w B A l) (k : Nat) (hk : k < l.length) :
    ∃ b o, A = some ⟨b, o, none⟩ ∧ b < B ∧ w.cell? ⟨b, o + k * 5, none⟩ = some (.int .i64 l[k].v.kind) ∧ w.cell? ⟨b, o + k * 5 + 1, none⟩ = some (.int .i64 l[k].v.id) ∧ w.cell? ⟨b, o + k * 5 + 2, none⟩ = some (.int .i64 l[k].a.c) ∧ w.cell? ⟨b, o + k * 5 + 3, none⟩ = some (.int .i64 l[k].a.h) ∧ w.cell? ⟨b, o + k * 5 + 4, none⟩ = some (.slice l[k].A l[k].next.length l[k].c) := by
  obtain ⟨b, o, e, hb, hc⟩ := h (by omega)
  exact ⟨b, o, e, hb, by simpa using hc k hk 0 _ (by omega) rfl, hc k hk 1 _ (by omega) rfl, hc k hk 2 _ (by omega) rfl, hc k hk 3 _ (by omega) rfl, hc k hk 4 _ (by omega) rfl⟩
def findN (N : List NodeM) (v : Vx) : Option Nk := (N.map NodeM.nk).find? fun n => decide (n.v = v)
theorem findN_at {N : List NodeM} {v : Vx} {k : Nat} (hk : k < N.length) (h : ∀ p ∈ N.take k, p.v ≠ v) (he : N[k].v = v) : findN N v = some N[k].nk := by
  unfold findN
  have h1 : N = N.take k ++ N[k] :: N.drop (k + 1) := by rw [← List.drop_eq_getElem_cons hk, List.take_append_drop]
  have h2 : (N.map NodeM.nk) = (N.take k).map NodeM.nk ++ N[k].nk :: (N.drop (k + 1)).map NodeM.nk := by
    conv => lhs; rw [h1]
    rw [List.map_append, List.map_cons]
  rw [h2, List.find?_append]
  have h3 : ((N.take k).map NodeM.nk).find? (fun n => decide (n.v = v)) = none := by
    rw [List.find?_eq_none]
    intro n hn
    obtain ⟨x, hx, rfl⟩ := List.mem_map.1 hn
    exact fun e => h x hx (of_decide_eq_true e)
  rw [h3, Option.none_or, List.find?_cons, show decide (N[k].nk.v = v) = true from decide_eq_true he]
theorem findN_not {N : List NodeM} {v : Vx} (h : ∀ p ∈ N, p.v ≠ v) : findN N v = none := by
  unfold findN
  rw [List.find?_eq_none]
  intro n hn
  obtain ⟨x, hx, rfl⟩ := List.mem_map.1 hn
  exact fun e => h x hx (of_decide_eq_true e)
theorem blk5 {w : World} {g : Nat} {t : TypeId} {a b c d e : Value} (h : Blk w g t #[a, b, c, d, e]) : (w.cell? ⟨g, 0, none⟩ = some a ∧ w.cell? ⟨g, 1, none⟩ = some b ∧ w.cell? ⟨g, 2, none⟩ = some c ∧ w.cell? ⟨g, 3, none⟩ = some d ∧ w.cell? ⟨g, 4, none⟩ = some e) ∧ (w.frozen? ⟨g, 0, none⟩ = false ∧ w.frozen? ⟨g, 1, none⟩ = false ∧ w.frozen? ⟨g, 2, none⟩ = false ∧ w.frozen? ⟨g, 3, none⟩ = false ∧ w.frozen? ⟨g, 4, none⟩ = false) :=
  ⟨⟨h.cell 0, h.cell 1, h.cell 2, h.cell 3, h.cell 4⟩, h.frozen 0, h.frozen 1, h.frozen 2, h.frozen 3, h.frozen 4⟩
theorem Blk.put5 {w : World} {g : Nat} {t : TypeId} {a b c d e : Value} (h : Blk w g t #[a, b, c, d, e]) (a' b' c' d' e' : Value) : Blk (((((w.setCell ⟨g, 0, none⟩ a').setCell ⟨g, 1, none⟩ b').setCell ⟨g, 2, none⟩ c').setCell ⟨g, 3, none⟩ d').setCell ⟨g, 4, none⟩ e') g t #[a', b', c', d', e'] :=
  (((((h.set_ 0 a').set_ 1 b').set_ 2 c').set_ 3 d').set_ 4 e').to (by simp)
theorem below_put5 {B : Nat} {w w' : World} {g : Nat} (h : Below B w w') (hg : B ≤ g) (a b c d e : Value) : Below B w (((((w'.setCell ⟨g, 0, none⟩ a).setCell ⟨g, 1, none⟩ b).setCell ⟨g, 2, none⟩ c).setCell ⟨g, 3, none⟩ d).setCell ⟨g, 4, none⟩ e) :=
  ((((h.setCell (p := ⟨g, 0, none⟩) hg _).setCell (p := ⟨g, 1, none⟩) hg _).setCell (p := ⟨g, 2, none⟩) hg _).setCell (p := ⟨g, 3, none⟩) hg _).setCell (p := ⟨g, 4, none⟩) hg _
/-- what is said of a node that was looked for -/
def FoundN (N : List NodeM) (v : Vx) (w' : World) (B : Nat) (r : Ending) : Prop :=
  (∃ (x : Nk) (A' : Option Addr) (c' : Nat), findN N v = some x ∧ r = .returned (.tuple #[.agg #[.int .i64 x.v.kind, .int .i64 x.v.id, .int .i64 x.a.c, .int .i64 x.a.h, .slice A' x.next.length c'], .bool true]) ∧ OwnH w' B (.slice A' x.next.length c') x.next) ∨
  (findN N v = none ∧ r = .returned (.tuple #[.agg #[.int .i64 0, .int .i64 0, .int .i64 0, .int .i64 0, .slice none 0 0], .bool false]))
set_option maxHeartbeats 8000000 in
set_option maxRecDepth 100000 in
theorem Find_any (v1 v2 : Int) (A : Option Addr) (cap n : Nat) (N : List NodeM) (w : World) (hN : NodesIn w w.heap.size A N) (hlen : N.length ≤ 2 ^ 20) (hn : n = N.length) :
    Calls Try.prog 30 #[.agg #[.int .i64 v1, .int .i64 v2], .slice A n cap] w fun r w' => FoundN N ⟨v1, v2⟩ w' w.heap.size r ∧ Below w.heap.size w w' := by
  subst hn
  obtain ⟨w0, hw0⟩ : ∃ w0, (w.alloc (.cells #[.int .i64 v1, .int .i64 v2] 40)).alloc (.cells #[.int .i64 0, .int .i64 0, .int .i64 0, .int .i64 0, .slice none 0 0] 59) = w0 := ⟨_, rfl⟩
  have hb0 : Below w.heap.size w w0 := by rw [← hw0]; exact ((Below.refl _ _).alloc (Nat.le_refl _) _).alloc (by simp) _
  have hk2 : Blk w0 w.heap.size 40 #[.int .i64 v1, .int .i64 v2] := by rw [← hw0]; exact (Blk.new w _ _).alloc _
  have hk4 : Blk w0 (w.heap.size + 1) 59 #[.int .i64 0, .int .i64 0, .int .i64 0, .int .i64 0, .slice none 0 0] := by rw [← hw0]; exact Blk.size (by simp)
  have HN := Lib.hid hN
  have Hb0 := Lib.hid hb0
  have Hk2 := Lib.hid hk2
  have Hk4 := Lib.hid hk4
  have hli : (N.length : Int) ≤ 1048576 := by omega
  clear hN hlen hb0 hk2 hk4
  go_enter Try.func30, Try.ntmps30
  go_wp2
  clear hw0
  go_loopw [10] (fun i wr => ∃ k : Nat, i = .int .i64 k ∧ k ≤ N.length ∧ (∀ p ∈ N.take k, p.v ≠ ⟨v1, v2⟩) ∧ Below w0.heap.size w0 wr) (fun i _ => N.length - (intOf i).toNat)
  case atStart => exact ⟨0, rfl, Nat.zero_le _, by simp, Below.refl _ _⟩
  case round =>
    obtain ⟨k, rfl, hk, h0, hb⟩ := hrel
    have hNr := (HN.out.below (below_trans Hb0.out Hb0.out.size hb)).more (below_trans Hb0.out Hb0.out.size hb).size
    have hk2r := Hk2.out.below hb Hk2.out.lt
    have hk4r := Hk4.out.below hb Hk4.out.lt
    by_cases hlt : k < N.length
    · have hki : (k : Int) < (N.length : Int) := by omega
      obtain ⟨g, o, hA, -, x0, x1, x2, x3, x4⟩ := row_nd hNr.rows k hlt
      subst hA
      have hat := fun he => findN_at hlt h0 (v := ⟨v1, v2⟩) he
      have hrw := hNr.each _ (List.getElem_mem hlt)
      have hlw := hNr.low _ (List.getElem_mem hlt)
      have hmore : N[k].v ≠ ⟨v1, v2⟩ → ∀ p ∈ N.take (k + 1), p.v ≠ ⟨v1, v2⟩ := by
        intro he p hp
        rw [List.take_succ_eq_append_getElem hlt, List.mem_append, List.mem_singleton] at hp
        rcases hp with hp | rfl
        · exact h0 p hp
        · exact he
      generalize N[k] = x at *
      obtain ⟨⟨xk, xi⟩, ⟨xa, xh⟩, xA, xc, xn⟩ := x
      simp only at x0 x1 x2 x3 x4 hrw hlw hat hmore
      obtain ⟨nl, hnl⟩ : ∃ n, xn.length = n := ⟨_, rfl⟩
      rw [hnl] at x4 hlw
      have hb6 := below_new wr (.cells #[.int .i64 xk, .int .i64 xi, .int .i64 xa, .int .i64 xh, .slice xA nl xc] 59)
      have hk6 := Blk.new wr 59 #[.int .i64 xk, .int .i64 xi, .int .i64 xa, .int .i64 xh, .slice xA nl xc]
      obtain ⟨w6, hw6⟩ : ∃ w6, wr.alloc (.cells #[.int .i64 xk, .int .i64 xi, .int .i64 xa, .int .i64 xh, .slice xA nl xc] 59) = w6 := ⟨_, rfl⟩
      rw [hw6] at hb6 hk6
      have Hb6 := Lib.hid (below_trans hb hb.size hb6)
      have Hk6 := Lib.hid hk6
      have Hk26 := Lib.hid (hk2r.below hb6 hk2r.lt)
      have Hk46 := Lib.hid (hk4r.below hb6 hk4r.lt)
      have HCl := Lib.hid (cloneHp xA xc xn w6 w6.heap.size ((hrw.below hb6).more hb6.size) (Nat.le_refl _) (by omega) nl hnl.symm)
      have Hlt := Lib.hid hlt
      have Hat := Lib.hid hat
      have Hmore := Lib.hid hmore
      have Hnl := Lib.hid hnl
      have Hs6 := Lib.hid (show w0.heap.size ≤ wr.heap.size from hb.size)
      obtain ⟨⟨z0, z1, z2, z3, z4⟩, zf0, zf1, zf2, zf3, zf4⟩ := blk5 hk6
      obtain ⟨v0, v1', -, -⟩ := Hk26.out.cells2
      have heq := fun w => eqVxN xk xi v1 v2 w
      clear hNr hk2r hk4r h0 hb hrw hlw hat hmore hb6 hk6 hlt hk hnl
      by_cases he : (⟨xk, xi⟩ : Vx) = ⟨v1, v2⟩
      · rw [decide_eq_true he] at heq
        have He := Lib.hid (Hat.out he)
        clear he
        go_wp2_with fail
        clear x0 x1 x2 x3 x4 heq
        with_reducible refine Calls.mono HCl.out ?_
        rintro r w7 ⟨v, rfl, ho, hb7⟩
        obtain ⟨A9, c9, hv⟩ := ho.shape
        subst hv
        rw [Hnl.out] at ho ⊢
        have Ho := Lib.hid ho
        have Hb7 := Lib.hid (below_trans Hb6.out Hb6.out.size hb7)
        have Hk7 := Lib.hid (Hk6.out.below hb7 Hk6.out.lt)
        have Hk47 := Lib.hid (Hk46.out.below hb7 Hk46.out.lt)
        have Hs7 := Lib.hid (show w6.heap.size ≤ w7.heap.size from hb7.size)
        clear z0 z1 z2 z3 z4 zf0 zf1 zf2 zf3 zf4 v0 v1' ho hb7 hw6
        obtain ⟨⟨z0, z1, z2, z3, z4⟩, zf0, zf1, zf2, zf3, zf4⟩ := blk5 Hk7.out
        obtain ⟨w8, hw8⟩ : ∃ w8, w7.setCell ⟨wr.heap.size, 4, none⟩ (.slice A9 nl c9) = w8 := ⟨_, rfl⟩
        have hk8 := (Hk7.out.set_ 4 (.slice A9 nl c9)).to (cs' := #[.int .i64 xk, .int .i64 xi, .int .i64 xa, .int .i64 xh, .slice A9 nl c9]) (by simp)
        have hne : w.heap.size + 1 ≠ wr.heap.size := by have := Hk4.out.lt; have := Hs6.out; omega
        have hk48 := Hk47.out.far (p := ⟨wr.heap.size, 4, none⟩) hne (.slice A9 nl c9)
        have ho8 := OwnR.far Ho.out (p := ⟨wr.heap.size, 4, none⟩) (fun e => by have := (Ho.out.block _ e).1; have := Hk6.out.lt; simp only at *; omega) (.slice A9 nl c9)
        have hb8 := Hb7.out.setCell (p := ⟨wr.heap.size, 4, none⟩) Hs6.out (.slice A9 nl c9)
        rw [hw8] at hk8 hk48 ho8 hb8
        obtain ⟨⟨q0, q1, q2, q3, q4⟩, -⟩ := blk5 hk8
        obtain ⟨⟨y0, y1, y2, y3, y4⟩, yf0, yf1, yf2, yf3, yf4⟩ := blk5 hk48
        have Hk48 := Lib.hid hk48
        have Ho8 := Lib.hid ho8
        have Hb8 := Lib.hid hb8
        clear hk8 hk48 ho8 hb8 hne
        go_wp2
        refine bodyPost_named (v := .tuple #[.agg #[.int .i64 xk, .int .i64 xi, .int .i64 xa, .int .i64 xh, .slice A9 nl c9], .bool true]) (fun W => Blk W (w.heap.size + 1) 59 #[.int .i64 xk, .int .i64 xi, .int .i64 xa, .int .i64 xh, .slice A9 nl c9]) (Blk.put5 Hk48.out _ _ _ _ _) (fun W hB => by
          obtain ⟨⟨e0, e1, e2, e3, e4⟩, -⟩ := blk5 hB
          simp [results, Try.results30, go_sem, e0, e1, e2, e3, e4]) rfl ?_
        have hlt4 : w.heap.size + 1 < w6.heap.size := by have := Hk46.out.lt; exact this
        refine ⟨.inl ⟨⟨⟨xk, xi⟩, ⟨xa, xh⟩, xn⟩, A9, c9, He.out, by simp only; rw [Hnl.out], ?_⟩, below_put5 (below_trans Hb0.out Hb0.out.size Hb8.out) (by omega) _ _ _ _ _⟩
        simp only
        rw [Hnl.out]
        exact (((((Ho8.out.set_ (p := ⟨w.heap.size + 1, 0, none⟩) hlt4 _).set_ (p := ⟨w.heap.size + 1, 1, none⟩) hlt4 _).set_ (p := ⟨w.heap.size + 1, 2, none⟩) hlt4 _).set_ (p := ⟨w.heap.size + 1, 3, none⟩) hlt4 _).set_ (p := ⟨w.heap.size + 1, 4, none⟩) hlt4 _).lower (Nat.le_trans (by omega) (Nat.le_of_lt hlt4))
      · rw [decide_eq_false he] at heq
        have Hm := Lib.hid (Hmore.out he)
        clear he
        go_wp2
        go_roundw
        case measure => have := Hlt.out; simp [intOf]; omega
        case rel => exact ⟨k + 1, by go_num, Hlt.out, Hm.out, Hb6.out⟩
    · have hke : k = N.length := by omega
      subst hke
      have hkk : ¬ (N.length : Int) < (N.length : Int) := by omega
      rw [List.take_length] at h0
      have Hno := Lib.hid (findN_not h0)
      have Hk4r := Lib.hid hk4r
      have Hb := Lib.hid hb
      obtain ⟨⟨y0, y1, y2, y3, y4⟩, yf0, yf1, yf2, yf3, yf4⟩ := blk5 hk4r
      clear hNr hk2r hk4r h0 hb hlt hk
      go_wp2
      refine bodyPost_named (v := .tuple #[.agg #[.int .i64 0, .int .i64 0, .int .i64 0, .int .i64 0, .slice none 0 0], .bool false]) (fun W => Blk W (w.heap.size + 1) 59 #[.int .i64 0, .int .i64 0, .int .i64 0, .int .i64 0, .slice none 0 0]) (Blk.put5 Hk4r.out _ _ _ _ _) (fun W hB => by
        obtain ⟨⟨e0, e1, e2, e3, e4⟩, -⟩ := blk5 hB
        simp [results, Try.results30, go_sem, e0, e1, e2, e3, e4]) rfl ?_
      exact ⟨.inr ⟨Hno.out, rfl⟩, below_put5 (below_trans Hb0.out Hb0.out.size Hb.out) (by omega) _ _ _ _ _⟩

end Go.Proofs.Ytpfjgecdlilkcaa
