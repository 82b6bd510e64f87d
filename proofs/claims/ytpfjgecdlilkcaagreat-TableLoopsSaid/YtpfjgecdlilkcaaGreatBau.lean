/-
  Layer 22: table.Find, over any routes that can be read.
-/
import Derived.Test.YtpfjgecdlilkcaaGreatBao
import Derived.Test.YtpfjgecdlilkcaaGreatBar
import Derived.Test.YtpfjgecdlilkcaaGreatBat
namespace Go.Proofs.YtpfjgecdlilkcaaGreat
open Go.RowKit Go.Sort

def findR (M : List RtM) (kd id : Int) : Option Rt := (M.map RtM.rt).find? fun x => decide (x.kind = kd ∧ x.id = id)
theorem findR_at {M : List RtM} {kd id : Int} {k : Nat} (hk : k < M.length) (h : ∀ p ∈ M.take k, ¬ (p.kind = kd ∧ p.id = id)) (he : M[k].kind = kd ∧ M[k].id = id) : findR M kd id = some M[k].rt := by
  unfold findR
  have h1 : M = M.take k ++ M[k] :: M.drop (k + 1) := by rw [← List.drop_eq_getElem_cons hk, List.take_append_drop]
  have h2 : M.map RtM.rt = (M.take k).map RtM.rt ++ M[k].rt :: (M.drop (k + 1)).map RtM.rt := by
    conv => lhs; rw [h1]
    rw [List.map_append, List.map_cons]
  rw [h2, List.find?_append]
  have h3 : ((M.take k).map RtM.rt).find? (fun x => decide (x.kind = kd ∧ x.id = id)) = none := by
    rw [List.find?_eq_none]
    intro n hn
    obtain ⟨x, hx, rfl⟩ := List.mem_map.1 hn
    exact fun e => h x hx (of_decide_eq_true e)
  rw [h3, Option.none_or, List.find?_cons, show decide (M[k].rt.kind = kd ∧ M[k].rt.id = id) = true from decide_eq_true he]
theorem findR_not {M : List RtM} {kd id : Int} (h : ∀ p ∈ M, ¬ (p.kind = kd ∧ p.id = id)) : findR M kd id = none := by
  unfold findR
  rw [List.find?_eq_none]
  intro n hn
  obtain ⟨x, hx, rfl⟩ := List.mem_map.1 hn
  exact fun e => h x hx (of_decide_eq_true e)
/-- what is said of a route that was looked for -/
def FoundR (M : List RtM) (kd id : Int) (w' : World) (B : Nat) (r : Ending) : Prop :=
  (∃ (x : Rt) (A' : Option Addr) (c' : Nat), findR M kd id = some x ∧ r = .returned (.tuple #[.agg #[.int .i64 x.kind, .int .i64 x.id, .int .i64 x.cost, .slice A' x.next.length c'], .bool true]) ∧ OwnH w' B (.slice A' x.next.length c') x.next) ∨
  (findR M kd id = none ∧ r = .returned (.tuple #[.agg #[.int .i64 0, .int .i64 0, .int .i64 0, .slice none 0 0], .bool false]))
theorem blk4r {w : World} {g : Nat} {t : TypeId} {a b c d : Value} (h : Blk w g t #[a, b, c, d]) : (w.cell? ⟨g, 0, none⟩ = some a ∧ w.cell? ⟨g, 1, none⟩ = some b ∧ w.cell? ⟨g, 2, none⟩ = some c ∧ w.cell? ⟨g, 3, none⟩ = some d) ∧ (w.frozen? ⟨g, 0, none⟩ = false ∧ w.frozen? ⟨g, 1, none⟩ = false ∧ w.frozen? ⟨g, 2, none⟩ = false ∧ w.frozen? ⟨g, 3, none⟩ = false) :=
  ⟨⟨h.cell 0, h.cell 1, h.cell 2, h.cell 3⟩, h.frozen 0, h.frozen 1, h.frozen 2, h.frozen 3⟩
theorem Blk.put4 {w : World} {g : Nat} {t : TypeId} {a b c d : Value} (h : Blk w g t #[a, b, c, d]) (a' b' c' d' : Value) : Blk ((((w.setCell ⟨g, 0, none⟩ a').setCell ⟨g, 1, none⟩ b').setCell ⟨g, 2, none⟩ c').setCell ⟨g, 3, none⟩ d') g t #[a', b', c', d'] := h.set4
theorem below_put4 {B : Nat} {w w' : World} {g : Nat} (h : Below B w w') (hg : B ≤ g) (a b c d : Value) : Below B w ((((w'.setCell ⟨g, 0, none⟩ a).setCell ⟨g, 1, none⟩ b).setCell ⟨g, 2, none⟩ c).setCell ⟨g, 3, none⟩ d) :=
  (((h.setCell (p := ⟨g, 0, none⟩) hg _).setCell (p := ⟨g, 1, none⟩) hg _).setCell (p := ⟨g, 2, none⟩) hg _).setCell (p := ⟨g, 3, none⟩) hg _
set_option maxHeartbeats 8000000 in
set_option maxRecDepth 100000 in
theorem FindR_any (kd id : Int) (A : Option Addr) (cap n : Nat) (M : List RtM) (w : World) (hM : RtsIn w w.heap.size A M) (hlen : M.length ≤ 2 ^ 20) (hn : n = M.length) :
    Calls Tryz.prog 13 #[.int .i64 kd, .int .i64 id, .slice A n cap] w fun r w' => FoundR M kd id w' w.heap.size r ∧ Below w.heap.size w w' := by
  subst hn
  have hb0 := below_new w (.cells #[.int .i64 0, .int .i64 0, .int .i64 0, .slice none 0 0] 31)
  have hk4 := Blk.new w 31 #[.int .i64 0, .int .i64 0, .int .i64 0, .slice none 0 0]
  have HM := Lib.hid hM
  have hli : (M.length : Int) ≤ 1048576 := by omega
  obtain ⟨w0, hw0⟩ : ∃ w0, w.alloc (.cells #[.int .i64 0, .int .i64 0, .int .i64 0, .slice none 0 0] 31) = w0 := ⟨_, rfl⟩
  obtain ⟨g6, hg6⟩ : ∃ g, w.heap.size = g := ⟨_, rfl⟩
  rw [hw0] at hb0 hk4
  rw [hg6] at hk4
  have Hb0 := Lib.hid hb0
  have Hk4 := Lib.hid hk4
  have Hg6 := Lib.hid hg6
  clear hM hlen hb0 hk4
  go_enter Tryz.func13, Tryz.ntmps13
  go_wp2
  clear hw0 hg6
  go_loopw [12] (fun i wr => ∃ k : Nat, i = .int .i64 k ∧ k ≤ M.length ∧ (∀ p ∈ M.take k, ¬ (p.kind = kd ∧ p.id = id)) ∧ Below w0.heap.size w0 wr) (fun i _ => M.length - (intOf i).toNat)
  case atStart => exact ⟨0, rfl, Nat.zero_le _, by simp, Below.refl _ _⟩
  case round =>
    obtain ⟨k, rfl, hk, h0, hb⟩ := hrel
    have hNr := (HM.out.below (below_trans Hb0.out Hb0.out.size hb)).more (below_trans Hb0.out Hb0.out.size hb).size
    have hk4r := Hk4.out.below hb Hk4.out.lt
    by_cases hlt : k < M.length
    · have hki : (k : Int) < (M.length : Int) := by omega
      obtain ⟨g, o, hA, -, x0, x1, x2, x3⟩ := row_rt hNr.rows k hlt
      subst hA
      have hat := fun he => findR_at hlt h0 he
      have hrw := hNr.each _ (List.getElem_mem hlt)
      have hlw := hNr.low _ (List.getElem_mem hlt)
      have hmore : ¬ (M[k].kind = kd ∧ M[k].id = id) → ∀ p ∈ M.take (k + 1), ¬ (p.kind = kd ∧ p.id = id) := by
        intro he p hp
        rw [List.take_succ_eq_append_getElem hlt, List.mem_append, List.mem_singleton] at hp
        rcases hp with hp | rfl
        · exact h0 p hp
        · exact he
      generalize M[k] = x at *
      obtain ⟨xk, xi, xa, xA, xc, xn⟩ := x
      simp only at x0 x1 x2 x3 hrw hlw hat hmore
      obtain ⟨nl, hnl⟩ : ∃ n, xn.length = n := ⟨_, rfl⟩
      rw [hnl] at x3 hlw
      obtain ⟨ca, hca⟩ : ∃ c : Int, (xa : Int) = c := ⟨_, rfl⟩
      rw [hca] at x2
      have Hca := Lib.hid hca
      have hb6 := below_new wr (.cells #[.int .i64 xk, .int .i64 xi, .int .i64 ca, .slice xA nl xc] 31)
      have hk6 := Blk.new wr 31 #[.int .i64 xk, .int .i64 xi, .int .i64 ca, .slice xA nl xc]
      obtain ⟨w6, hw6⟩ : ∃ w6, wr.alloc (.cells #[.int .i64 xk, .int .i64 xi, .int .i64 ca, .slice xA nl xc] 31) = w6 := ⟨_, rfl⟩
      obtain ⟨g9, hg9⟩ : ∃ g, wr.heap.size = g := ⟨_, rfl⟩
      rw [hw6] at hb6 hk6
      rw [hg9] at hk6
      have Hb6 := Lib.hid (below_trans hb hb.size hb6)
      have Hk6 := Lib.hid hk6
      have Hk46 := Lib.hid (hk4r.below hb6 hk4r.lt)
      have HCl := Lib.hid (cloneHp xA xc xn w6 w6.heap.size ((hrw.below hb6).more hb6.size) (Nat.le_refl _) (by omega) nl hnl.symm)
      have Hlt := Lib.hid hlt
      have Hat := Lib.hid hat
      have Hmore := Lib.hid hmore
      have Hnl := Lib.hid hnl
      have Hs6 := Lib.hid (show w0.heap.size ≤ g9 by rw [← hg9]; exact hb.size)
      have Hne := Lib.hid (show g6 ≠ g9 by have := hk4r.lt; omega)
      obtain ⟨⟨z0, z1, z2, z3⟩, zf0, zf1, zf2, zf3⟩ := blk4r hk6
      clear hNr hk4r h0 hb hrw hlw hat hmore hb6 hk6 hlt hk hnl hca
      by_cases he1 : xk = kd
      · have hq1 : (xk == kd) = true := by simp [he1]
        by_cases he2 : xi = id
        · have hq2 : (xi == id) = true := by simp [he2]
          have He := Lib.hid (Hat.out ⟨he1, he2⟩)
          clear he1 he2
          go_wp2_with fail
          clear x0 x1 x2 x3 hq1 hq2
          with_reducible refine Calls.mono HCl.out ?_
          rintro r w7 ⟨v, rfl, ho, hb7⟩
          obtain ⟨A9, c9, hv⟩ := ho.shape
          subst hv
          rw [Hnl.out] at ho ⊢
          have Ho := Lib.hid ho
          have Hb7 := Lib.hid (below_trans Hb6.out Hb6.out.size hb7)
          have Hk7 := Lib.hid (Hk6.out.below hb7 Hk6.out.lt)
          have Hk47 := Lib.hid (Hk46.out.below hb7 Hk46.out.lt)
          have Hs7 := Lib.hid (show w6.heap.size ≤ w7.heap.size from hb7.size)
          clear z0 z1 z2 z3 zf0 zf1 zf2 zf3 ho hb7 hw6 hg9
          obtain ⟨⟨z0, z1, z2, z3⟩, zf0, zf1, zf2, zf3⟩ := blk4r Hk7.out
          obtain ⟨w8, hw8⟩ : ∃ w8, w7.setCell ⟨g9, 3, none⟩ (.slice A9 nl c9) = w8 := ⟨_, rfl⟩
          have hk8 := (Hk7.out.set_ 3 (.slice A9 nl c9)).to (cs' := #[.int .i64 xk, .int .i64 xi, .int .i64 ca, .slice A9 nl c9]) (by simp)
          have hk48 := Hk47.out.far (p := ⟨g9, 3, none⟩) Hne.out (.slice A9 nl c9)
          have ho8 := OwnR.far Ho.out (p := ⟨g9, 3, none⟩) (fun e => by have := (Ho.out.block _ e).1; have := Hk6.out.lt; simp only at *; omega) (.slice A9 nl c9)
          have hb8 := Hb7.out.setCell (p := ⟨g9, 3, none⟩) Hs6.out (.slice A9 nl c9)
          rw [hw8] at hk8 hk48 ho8 hb8
          obtain ⟨⟨q0, q1, q2, q3⟩, -⟩ := blk4r hk8
          obtain ⟨⟨y0, y1, y2, y3⟩, yf0, yf1, yf2, yf3⟩ := blk4r hk48
          have Hk48 := Lib.hid hk48
          have Ho8 := Lib.hid ho8
          have Hb8 := Lib.hid hb8
          clear hk8 hk48 ho8 hb8
          go_wp2
          refine bodyPost_named (v := .tuple #[.agg #[.int .i64 xk, .int .i64 xi, .int .i64 ca, .slice A9 nl c9], .bool true]) (fun W => Blk W g6 31 #[.int .i64 xk, .int .i64 xi, .int .i64 ca, .slice A9 nl c9]) (Blk.put4 Hk48.out _ _ _ _) (fun W hB => by
            obtain ⟨⟨e0, e1, e2, e3⟩, -⟩ := blk4r hB
            simp [results, Tryz.results13, go_sem, e0, e1, e2, e3]) rfl ?_
          have hlt4 : g6 < w6.heap.size := Hk46.out.lt
          have hg := Hg6.out
          refine ⟨.inl ⟨⟨xk, xi, xa, xn⟩, A9, c9, He.out, by simp only; rw [Hnl.out, Hca.out], ?_⟩, below_put4 (below_trans Hb0.out Hb0.out.size Hb8.out) (by omega) _ _ _ _⟩
          simp only
          rw [Hnl.out]
          exact ((((Ho8.out.set_ (p := ⟨g6, 0, none⟩) hlt4 _).set_ (p := ⟨g6, 1, none⟩) hlt4 _).set_ (p := ⟨g6, 2, none⟩) hlt4 _).set_ (p := ⟨g6, 3, none⟩) hlt4 _).lower (by omega)
        · have hq2 : (xi == id) = false := by simp [he2]
          have Hm := Lib.hid (Hmore.out (fun h => he2 h.2))
          clear he1 he2
          go_wp2
          go_roundw
          case measure => have := Hlt.out; simp [intOf]; omega
          case rel => exact ⟨k + 1, by go_num, Hlt.out, Hm.out, Hb6.out⟩
      · have hq1 : (xk == kd) = false := by simp [he1]
        have Hm := Lib.hid (Hmore.out (fun h => he1 h.1))
        clear he1
        go_wp2
        go_roundw
        case measure => have := Hlt.out; simp [intOf]; omega
        case rel => exact ⟨k + 1, by go_num, Hlt.out, Hm.out, Hb6.out⟩
    · have hke : k = M.length := by omega
      subst hke
      have hkk : ¬ (M.length : Int) < (M.length : Int) := by omega
      rw [List.take_length] at h0
      have Hno := Lib.hid (findR_not h0)
      have Hk4r := Lib.hid hk4r
      have Hb := Lib.hid hb
      obtain ⟨⟨y0, y1, y2, y3⟩, yf0, yf1, yf2, yf3⟩ := blk4r hk4r
      clear hNr hk4r h0 hb hlt hk
      go_wp2
      refine bodyPost_named (v := .tuple #[.agg #[.int .i64 0, .int .i64 0, .int .i64 0, .slice none 0 0], .bool false]) (fun W => Blk W g6 31 #[.int .i64 0, .int .i64 0, .int .i64 0, .slice none 0 0]) (Blk.put4 Hk4r.out _ _ _ _) (fun W hB => by
        obtain ⟨⟨e0, e1, e2, e3⟩, -⟩ := blk4r hB
        simp [results, Tryz.results13, go_sem, e0, e1, e2, e3]) rfl ?_
      have hg := Hg6.out
      exact ⟨.inr ⟨Hno.out, rfl⟩, below_put4 (below_trans Hb0.out Hb0.out.size Hb.out) (by omega) _ _ _ _⟩

end Go.Proofs.YtpfjgecdlilkcaaGreat

/-
  Layer 22: the example that each law asks first.
-/
namespace Go.Proofs.YtpfjgecdlilkcaaGreat
open Go.RowKit

theorem rows_of_blkT {α : Type} {C : Nat} {cells : α → List Value} (hC : ∀ x, (cells x).length = C) {w : World} {g B : Nat} {t : TypeId} {L : List α} (h : Blk w g t (L.flatMap cells).toArray) (hB : g < B) : RowsAt C cells w B (some ⟨g, 0, none⟩) L := by
  intro _
  refine ⟨g, 0, rfl, hB, fun k hk i u hi hu => ?_⟩
  rw [show 0 + k * C + i = k * C + i by omega, h.cell, List.getElem?_toArray, flatR cells C hC L k i hk hi]
  exact hu
def x22 (a : Addr) : Lsa := ⟨⟨0, 1, 1, 1, 0, 0, 0⟩, some a, 1, [⟨3, 32, 33, 5⟩], none, 0, []⟩
theorem edges22 (a : Addr) : edgesV ([x22 a].map vX) = [] := by
  show edgesV [((⟨0, 1, 1, 1, 0, 0, 0⟩ : Hd), [(⟨3, 32, 33, 5⟩ : Lnk)], ([] : List Int))] = _
  kernel_rfl
theorem leaves22 (a : Addr) : leavesV ([x22 a].map vX) = [⟨1, 2, 5⟩] := by
  show leavesV [((⟨0, 1, 1, 1, 0, 0, 0⟩ : Hd), [(⟨3, 32, 33, 5⟩ : Lnk)], ([] : List Int))] = _
  kernel_rfl
theorem rows_nil : iterR [] 200 [((⟨1, 1⟩ : Vx), (⟨0, 0⟩ : Val2))] = [(⟨1, 1⟩, ⟨0, 0⟩)] := iterR_fix rfl 200
theorem tree_nil {DD : Vx → Vx → Option Val2} (hD : Dists [] DD) {L : List Nk} (h : TreeOf [] DD ⟨1, 1⟩ L) : L = [⟨⟨1, 1⟩, ⟨0, 0⟩, []⟩] := by
  have h1 : ∀ v, DD ⟨1, 1⟩ v = getR [(⟨1, 1⟩, ⟨0, 0⟩)] v := fun v => by rw [← rows_nil]; exact (costs_dist (hD _) v).symm
  refine tree_unique hD hD (h.1 (by decide)) ?_ (fun _ _ => Iff.rfl)
  refine ⟨List.pairwise_singleton _ _, ?_, ?_, ?_⟩
  · intro v a ha
    rw [h1, getR_cons] at ha
    by_cases g1 : (⟨1, 1⟩ : Vx) = v
    · exact ⟨_, List.mem_cons_self, g1⟩
    · rw [if_neg g1] at ha
      cases ha
  · intro n hn
    rw [List.mem_singleton] at hn
    subst hn
    rw [h1]
    decide
  · intro n hn
    rw [List.mem_singleton] at hn
    subst hn
    refine ⟨List.Pairwise.nil, fun y => ⟨(fun hy => by cases hy), ?_⟩⟩
    rintro ⟨e, he, -⟩
    cases he
theorem routes22 {R : List Rt} (h : RoutesAre 1 [⟨⟨1, 1⟩, ⟨0, 0⟩, []⟩] [⟨1, 2, 5⟩] R) : R = [⟨2, 2, 5, [⟨2, 0⟩]⟩] := by
  refine routes_unique h ⟨fun lan => if lan = 2 then some (5, [⟨2, 0⟩]) else none, fun lan h0 h3 => ?_, rfl⟩
  have hl : lan = 0 ∨ lan = 1 ∨ lan = 2 ∨ lan = 3 := by omega
  rcases hl with rfl | rfl | rfl | rfl
  · rfl
  · rfl
  · exact EndsO.first (c := 5) (n := [⟨2, 0⟩]) (N := [⟨2, 0⟩]) ⟨List.pairwise_singleton _ _, fun y => by simp⟩
  · rfl
set_option maxHeartbeats 8000000 in
set_option maxRecDepth 100000 in
theorem wakes22 (w : World) : Calls Tryz.prog 8 #[] w fun r w' => r = .returned (.bool true) ∧ Below w.heap.size w w' := by
  obtain ⟨DD, hD⟩ := dists_are []
  obtain ⟨w2, hw2⟩ : ∃ w2, (w.alloc (.cells #[.int .i64 3, .int .i64 32, .int .i64 33, .int .i64 5] 53)).alloc (.cells #[.int .i64 0, .int .i64 1, .int .i64 1, .int .i64 1, .int .i64 0, .int .i64 0, .int .i64 0, .slice (some ⟨w.heap.size, 0, none⟩) 1 1, .slice none 0 0] 41) = w2 := ⟨_, rfl⟩
  have hb2 : Below w.heap.size w w2 := by rw [← hw2]; exact ((Below.refl _ _).alloc (Nat.le_refl _) _).alloc (by simp) _
  have hL : Blk w2 w.heap.size 53 #[.int .i64 3, .int .i64 32, .int .i64 33, .int .i64 5] := by rw [← hw2]; exact (Blk.new w _ _).alloc _
  have hX : Blk w2 (w.heap.size + 1) 41 #[.int .i64 0, .int .i64 1, .int .i64 1, .int .i64 1, .int .i64 0, .int .i64 0, .int .i64 0, .slice (some ⟨w.heap.size, 0, none⟩) 1 1, .slice none 0 0] := by rw [← hw2]; exact Blk.size (by simp)
  have HR := Lib.hid (Routes_any 1 (some ⟨w.heap.size + 1, 0, none⟩) 1 [x22 ⟨w.heap.size, 0, none⟩] w2 (rows_of_blkT (C := 9) (cells := Lsa.cells) (L := [x22 ⟨w.heap.size, 0, none⟩]) (fun _ => rfl) hX hX.lt)
    (fun x hx => by
      rw [List.mem_singleton] at hx
      subst hx
      exact ⟨rows_of_blkT (C := 4) (cells := Lnk.cells) (L := [⟨3, 32, 33, 5⟩]) (fun _ => rfl) hL hL.lt, RowsAt.nil⟩)
    (fun x hx => by
      rw [List.mem_singleton] at hx
      subst hx
      simp [x22]) (by simp) 1 rfl [] (edges22 _) [⟨1, 2, 5⟩] (leaves22 _) DD hD)
  have Hb2 := Lib.hid hb2
  have HD := Lib.hid hD
  clear hb2 hL hX hD
  go_enter Tryz.func8, Tryz.ntmps8
  go_wp2_with fail
  clear hw2
  with_reducible refine Calls.mono HR.out ?_
  rintro r w3 ⟨⟨v, M, L, rfl, hM, hT, hA⟩, hb3⟩
  have hL := tree_nil HD.out hT
  subst hL
  have hR := routes22 hA
  obtain ⟨m, rfl⟩ : ∃ m, M = [m] := by
    have := congrArg List.length hR
    rw [List.length_map] at this
    exact List.length_eq_one_iff.1 this
  obtain ⟨mk, mi, mc, mA, mcap, mn⟩ := m
  unfold RtM.rt at hR
  simp only [List.map_cons, List.map_nil, List.cons.injEq, and_true, Rt.mk.injEq] at hR
  obtain ⟨rfl, rfl, rfl, rfl⟩ := hR
  obtain ⟨A5, c5, hv⟩ := hM.row.shape
  subst hv
  obtain ⟨g, o, hAa, -, x0, x1, x2, x3⟩ := row_rt (OwnR.rows (C := 4) (cells := RtM.cells) (fun _ => rfl) hM.row).2 0 (by simp)
  obtain ⟨g', o', hAb, -, y0, y1⟩ := row_hp (OwnR.rows (C := 2) (cells := Hp.cells) (fun _ => rfl) (hM.each _ (List.mem_singleton.2 rfl))).2 0 (by simp)
  simp only at hAb
  subst hAa hAb
  simp only [List.getElem_cons_zero, Nat.zero_mul, Nat.add_zero, List.length_singleton] at x0 x1 x2 x3 y0 y1 ⊢
  have heq := fun w => eqHpN 2 0 2 0 w
  simp only [decide_true] at heq
  have Hb3 := Lib.hid (below_trans Hb2.out Hb2.out.size hb3)
  clear hM hT hA hb3
  go_wp2
  go_ret
  exact ⟨rfl, Hb3.out⟩

end Go.Proofs.YtpfjgecdlilkcaaGreat

/-
  Layer 22: the document's ends of a network in memory; whether some of them, of a cost, have a hop.
-/
namespace Go.Proofs.YtpfjgecdlilkcaaGreat
open Go.RowKit

structure EndM where
  c : Nat
  A : Option Addr
  cap : Nat
  next : List Hp
def EndM.cells (x : EndM) : List Value := [.int .i64 x.c, .slice x.A x.next.length x.cap]
def EndM.ev (x : EndM) : EndV := (x.c, x.next)
theorem onesEn (x : EndM) : ∀ u ∈ EndM.cells x, u.oneCell' = true := by
  intro u hu
  simp [EndM.cells] at hu
  rcases hu with rfl | rfl <;> rfl
theorem infoEn : (Tryz.prog.info? 76).map (fun i => (i.zero, i.size, i.bytes)) = some (some (.agg #[.int .i64 0, .slice none 0 0]), 2, 32) := by kernel_rfl
theorem row_en {w : World} {B : Nat} {A : Option Addr} {l : List EndM} (h : RowsAt 2 EndM.cells w B A l) (k : Nat) (hk : k < l.length) :
    ∃ b o, A = some ⟨b, o, none⟩ ∧ b < B ∧ w.cell? ⟨b, o + k * 2, none⟩ = some (.int .i64 l[k].c) ∧ w.cell? ⟨b, o + k * 2 + 1, none⟩ = some (.slice l[k].A l[k].next.length l[k].cap) := by
  obtain ⟨b, o, e, hb, hc⟩ := h (by omega)
  exact ⟨b, o, e, hb, by simpa using hc k hk 0 _ (by omega) rfl, hc k hk 1 _ (by omega) rfl⟩
/-- ends that can be read -/
structure EndsIn (w : World) (B : Nat) (A : Option Addr) (X : List EndM) : Prop where
  rows : RowsAt 2 EndM.cells w B A X
  each : ∀ x ∈ X, RowsH w B x.A x.next
  low : ∀ x ∈ X, x.next.length ≤ 2 ^ 16
theorem EndsIn.below {w w' : World} {B : Nat} {A : Option Addr} {X : List EndM} (h : EndsIn w B A X) (hb : Below B w w') : EndsIn w' B A X := ⟨h.rows.below hb, fun x hx => (h.each x hx).below hb, h.low⟩
theorem EndsIn.more {w : World} {B B' : Nat} {A : Option Addr} {X : List EndM} (h : EndsIn w B A X) (hb : B ≤ B') : EndsIn w B' A X := ⟨h.rows.more hb, fun x hx => (h.each x hx).more hb, h.low⟩
def hasB (X : List EndV) (c : Nat) (h : Hp) : Bool := X.any fun x => decide (x.1 = c) && decide (h ∈ x.2)
theorem hasB_iff {X : List EndV} {c : Nat} {h : Hp} : hasB X c h = true ↔ ∃ x ∈ X, x.1 = c ∧ h ∈ x.2 := by
  unfold hasB
  simp [List.any_eq_true]
set_option maxHeartbeats 8000000 in
set_option maxRecDepth 100000 in
theorem refHas_any (A : Option Addr) (cap n c : Nat) (h1 h2 : Int) (X : List EndM) (w : World) (hX : EndsIn w w.heap.size A X) (hlen : X.length ≤ 2 ^ 20) (hn : n = X.length) {t : Bool} (ht : hasB (X.map EndM.ev) c ⟨h1, h2⟩ = t) :
    Calls Tryz.prog 26 #[.slice A n cap, .int .i64 c, .agg #[.int .i64 h1, .int .i64 h2]] w fun r w' => r = .returned (.bool t) ∧ Below w.heap.size w w' := by
  subst hn
  have hb0 := below_new w (.cells #[.int .i64 h1, .int .i64 h2] 50)
  have hk0 := Blk.new w 50 #[.int .i64 h1, .int .i64 h2]
  obtain ⟨w0, hw0⟩ : ∃ w0, w.alloc (.cells #[.int .i64 h1, .int .i64 h2] 50) = w0 := ⟨_, rfl⟩
  obtain ⟨g5, hg5⟩ : ∃ g, w.heap.size = g := ⟨_, rfl⟩
  rw [hw0] at hb0 hk0
  rw [hg5] at hk0
  have HX := Lib.hid hX
  have Hb0 := Lib.hid hb0
  have Hk0 := Lib.hid hk0
  have Ht := Lib.hid ht
  have hli : (X.length : Int) ≤ 1048576 := by omega
  have htf : ∀ b : Bool, t = b → hasB (X.map EndM.ev) c ⟨h1, h2⟩ = b := fun b e => ht.trans e
  have Htf := Lib.hid htf
  clear hX hlen hb0 hk0 ht htf
  go_enter Tryz.func26, Tryz.ntmps26
  go_wp2
  clear hw0 hg5
  go_loopw [7] (fun i wr => ∃ k : Nat, i = .int .i64 k ∧ k ≤ X.length ∧ (∀ x ∈ X.take k, ¬ (x.c = c ∧ (⟨h1, h2⟩ : Hp) ∈ x.next)) ∧ Below w0.heap.size w0 wr) (fun i _ => X.length - (intOf i).toNat)
  case atStart => exact ⟨0, rfl, Nat.zero_le _, by simp, Below.refl _ _⟩
  case round =>
    obtain ⟨k, rfl, hk, h0, hb⟩ := hrel
    by_cases hlt : k < X.length
    · have hki : (k : Int) < (X.length : Int) := by omega
      have Hrow := Lib.hid (fun W (hW : Below w0.heap.size w0 W) => row_en ((HX.out.below (below_trans Hb0.out Hb0.out.size hW)).more (below_trans Hb0.out Hb0.out.size hW).size).rows k hlt)
      have Hrw := Lib.hid (fun W (hW : Below w0.heap.size w0 W) => ((HX.out.below (below_trans Hb0.out Hb0.out.size hW)).more (below_trans Hb0.out Hb0.out.size hW).size).each _ (List.getElem_mem hlt))
      have hlw := HX.out.low _ (List.getElem_mem hlt)
      have hin : X[k] ∈ X := List.getElem_mem hlt
      have htk := List.take_succ_eq_append_getElem hlt
      obtain ⟨x, hx⟩ : ∃ x, X[k]'hlt = x := ⟨_, rfl⟩
      rw [hx] at Hrow Hrw hlw hin htk
      obtain ⟨xc, xA, xcap, xn⟩ := x
      simp only at Hrow Hrw hlw
      obtain ⟨nl, hnl⟩ : ∃ n, xn.length = n := ⟨_, rfl⟩
      rw [hnl] at Hrow hlw
      have hnli : (nl : Int) ≤ 65536 := by omega
      obtain ⟨ga, oa, hAo, -⟩ := Hrow.out wr hb
      subst hAo
      have Hlt := Lib.hid hlt
      have Hnl := Lib.hid hnl
      have Hin := Lib.hid hin
      have Htk := Lib.hid htk
      have H0 := Lib.hid h0
      have Hb := Lib.hid hb
      obtain ⟨wo, hwo⟩ : ∃ x : World, x = wr := ⟨_, rfl⟩
      rw [← hwo] at Hb
      subst hwo
      clear hlw hin htk hx hnl h0 hb hlt hk
      go_wp2_with fail
      go_loopw [8] (fun i wr => ∃ j : Nat, i = .int .i64 j ∧ j ≤ nl ∧ (xc = c → (⟨h1, h2⟩ : Hp) ∉ xn.take j) ∧ Below w0.heap.size w0 wr) (fun i _ => nl - (intOf i).toNat)
      case atStart => exact ⟨0, rfl, Nat.zero_le _, by simp, Hb.out⟩
      case round =>
        obtain ⟨j, rfl, hj, hno, hb2⟩ := hrel
        have Hb2 := Lib.hid hb2
        have Hno := Lib.hid hno
        obtain ⟨g, o, hA, -, x0, x1⟩ := Hrow.out wr hb2
        cases hA
        by_cases hlj : j < nl
        · have hji : (j : Int) < (nl : Int) := by omega
          have hjx : j < xn.length := by rw [Hnl.out]; exact hlj
          obtain ⟨g', o', hA', -, y0, y1⟩ := row_hp (Hrw.out wr hb2) j hjx
          have htj := List.take_succ_eq_append_getElem hjx
          have hinj : xn[j]'hjx ∈ xn := List.getElem_mem hjx
          have Hlj := Lib.hid hlj
          generalize xn[j] = y at *
          obtain ⟨l1, l2⟩ := y
          simp only at y0 y1
          have Htj := Lib.hid htj
          have Hinj := Lib.hid hinj
          have heq := fun w => eqHpN l1 l2 h1 h2 w
          obtain ⟨s0, s1, -, -⟩ := (Hk0.out.below hb2 Hk0.out.lt).cells2
          subst hA'
          clear hb2 hno hj hlj hjx htj hinj
          by_cases hc : xc = c
          · have hq : ((xc : Int) == (c : Int)) = true := by simp [hc]
            have Hc := Lib.hid hc
            by_cases he : (⟨l1, l2⟩ : Hp) = ⟨h1, h2⟩
            · rw [decide_eq_true he] at heq
              have ht2 : t = true := by
                rw [← Ht.out, hasB_iff]
                exact ⟨(xc, xn), List.mem_map.2 ⟨_, Hin.out, rfl⟩, hc, by rw [← he]; exact Hinj.out⟩
              subst ht2
              clear he hc
              go_wp2
              go_quiet (fail)
              go_wp2
              go_ret
              exact ⟨rfl, below_drewN (below_trans Hb0.out Hb0.out.size Hb2.out) _⟩
            · rw [decide_eq_false he] at heq
              have He := Lib.hid he
              clear he hc
              go_wp2
              go_quiet (fail)
              go_wp2
              go_roundw
              case measure => have := Hlj.out; simp [intOf]; omega
              case rel => exact ⟨j + 1, by go_num, Hlj.out, by
                intro hc
                rw [Htj.out, List.mem_append, List.mem_singleton]
                rintro (h | h)
                · exact Hno.out hc h
                · exact He.out h.symm, below_drewN Hb2.out _⟩
          · have hq : ((xc : Int) == (c : Int)) = false := by simp; omega
            have Hc := Lib.hid hc
            clear hc
            go_wp2
            go_quiet (fail)
            go_wp2
            go_roundw
            case measure => have := Hlj.out; simp [intOf]; omega
            case rel => exact ⟨j + 1, by go_num, Hlj.out, fun h => absurd h Hc.out, below_drewN Hb2.out _⟩
        · have hje : j = nl := by omega
          have hjj : ¬ (j : Int) < (nl : Int) := by omega
          have Hje := Lib.hid hje
          clear hb2 hno hj hlj hje
          go_wp2
          go_roundw
          case measure => have := Hlt.out; simp [intOf]; omega
          case rel => exact ⟨k + 1, by go_num, Hlt.out, by
            intro x hx
            rw [Htk.out, List.mem_append, List.mem_singleton] at hx
            rcases hx with hx | rfl
            · exact H0.out x hx
            · rintro ⟨e1, e2⟩
              have := Hno.out e1
              rw [Hje.out, ← Hnl.out, List.take_length] at this
              exact this e2, Hb2.out⟩
    · have hke : k = X.length := by omega
      subst hke
      have hkk : ¬ (X.length : Int) < (X.length : Int) := by omega
      rw [List.take_length] at h0
      have ht2 : t = false := by
        cases t with
        | false => rfl
        | true =>
          obtain ⟨x, hx, e1, e2⟩ := hasB_iff.1 Ht.out
          obtain ⟨y, hy, rfl⟩ := List.mem_map.1 hx
          exact absurd ⟨e1, e2⟩ (h0 y hy)
      subst ht2
      have Hb := Lib.hid hb
      clear h0 hb hlt hk
      go_wp2
      go_ret
      exact ⟨rfl, below_trans Hb0.out Hb0.out.size Hb.out⟩

end Go.Proofs.YtpfjgecdlilkcaaGreat

/-
  Layer 22 in plain words: the document's way: the least cost, then hop by hop.
-/
namespace Go.Proofs.YtpfjgecdlilkcaaGreat

theorem allHp_sorted : allHp.Pairwise ltH := by
  have h : allHp.Pairwise fun a b => decide (a.lan < b.lan ∨ (a.lan = b.lan ∧ a.id < b.id)) = true := by decide
  exact h.imp fun {a b} g => of_decide_eq_true g
theorem allHp_get : ∀ m < 64, allHp[m]? = some ⟨((m / 16 : Nat) : Int), ((m % 16 : Nat) : Int)⟩ := by decide
def hopsTo (X : List EndV) (c m : Nat) : List Hp := (allHp.take m).filter fun h => hasB X c h
theorem hopsTo_next (X : List EndV) (c : Nat) {a b : Nat} (ha : a < 4) (hb : b < 16) : hopsTo X c (16 * a + b + 1) = hopsTo X c (16 * a + b) ++ if hasB X c ⟨(a : Int), (b : Int)⟩ = true then [⟨(a : Int), (b : Int)⟩] else [] := by
  have h := allHp_get (16 * a + b) (by omega)
  rw [show (16 * a + b) / 16 = a by omega, show (16 * a + b) % 16 = b by omega] at h
  obtain ⟨hl, e⟩ := List.getElem?_eq_some_iff.1 h
  unfold hopsTo
  rw [List.take_succ_eq_append_getElem hl, List.filter_append, e]
  congr 1
  rw [List.filter_cons]
  rfl
theorem hopsTo_len (X : List EndV) (c m : Nat) : (hopsTo X c m).length ≤ 64 := by
  unfold hopsTo
  refine Nat.le_trans (List.length_filter_le _ _) ?_
  rw [List.length_take]
  have : allHp.length = 64 := by decide
  omega
/-- the least of the costs so far -/
structure LeastC (X : List EndV) (k c : Nat) : Prop where
  had : ∃ x ∈ X, x.1 = c
  min : ∀ x ∈ X.take k, c ≤ x.1
theorem LeastC.start {X : List EndV} {x : EndV} (h : X[0]? = some x) : LeastC X 0 x.1 := ⟨⟨x, List.mem_of_getElem? h, rfl⟩, by simp⟩
theorem LeastC.less {X : List EndV} {k c : Nat} (h : LeastC X k c) (hk : k < X.length) (hl : X[k].1 < c) : LeastC X (k + 1) X[k].1 where
  had := ⟨X[k], List.getElem_mem hk, rfl⟩
  min := fun x hx => by
    rw [List.take_succ_eq_append_getElem hk, List.mem_append, List.mem_singleton] at hx
    rcases hx with hx | rfl
    · have := h.min x hx; omega
    · exact Nat.le_refl _
theorem LeastC.not {X : List EndV} {k c : Nat} (h : LeastC X k c) (hk : k < X.length) (hl : ¬ X[k].1 < c) : LeastC X (k + 1) c where
  had := h.had
  min := fun x hx => by
    rw [List.take_succ_eq_append_getElem hk, List.mem_append, List.mem_singleton] at hx
    rcases hx with hx | rfl
    · exact h.min x hx
    · omega
theorem ends_of {X : List EndV} {c : Nat} (h : LeastC X X.length c) (hok : ∀ x ∈ X, ∀ y ∈ x.2, okHp y) : EndsAt X c (hopsTo X c 64) where
  had := h.had
  min := fun x hx => h.min x (by rw [List.take_length]; exact hx)
  sorted := by
    have : allHp.length = 64 := by decide
    unfold hopsTo
    rw [← this, List.take_length]
    exact allHp_sorted.filter _
  mem := fun y => by
    have : allHp.length = 64 := by decide
    unfold hopsTo
    rw [← this, List.take_length, List.mem_filter, hasB_iff]
    constructor
    · exact fun g => g.2
    · rintro ⟨x, hx, e, hy⟩
      exact ⟨mem_allHp (hok x hx y hy), x, hx, e, hy⟩
/-- the hops of all ends are such -/
theorem ends_ok {self lan : Int} {L : List Nk} {F : List Lf} (h0 : 0 ≤ lan) (h3 : lan ≤ 3) (hL : ∀ n ∈ L, ∀ y ∈ n.next, okHp y) : ∀ x ∈ endsV self lan L F, ∀ y ∈ x.2, okHp y := by
  intro x hx y hy
  rcases mem_endsV.1 hx with ⟨n, hn, -, -, rfl⟩ | ⟨f, -, n, hn, -, -, rfl⟩
  · exact hL n hn y hy
  · simp only at hy
    split at hy
    · rw [List.mem_singleton] at hy
      subst hy
      exact ⟨⟨h0, h3⟩, by simp, by simp⟩
    · exact hL n hn y hy
def lansTo (k : Nat) : List Int := (List.range k).map fun i : Nat => (i : Int)
theorem lansTo_succ (k : Nat) : lansTo (k + 1) = lansTo k ++ [(k : Int)] := by simp [lansTo, List.range_succ]
theorem nets_congr {o o' : Int → Option EndV} {X : List Int} (h : ∀ x ∈ X, o x = o' x) : netsOf o X = netsOf o' X := by
  unfold netsOf
  induction X with
  | nil => rfl
  | cons x X ih =>
    rw [List.flatMap_cons, List.flatMap_cons, ih fun y hy => h y (List.mem_cons_of_mem _ hy)]
    unfold netOf
    rw [h x List.mem_cons_self]
/-- the routes so far -/
def RtsTo (self : Int) (L : List Nk) (F : List Lf) (k : Nat) (R : List Rt) : Prop := ∃ o : Int → Option EndV, (∀ j : Nat, j < k → EndsO (endsV self j L F) (o j)) ∧ R = rtsOf self L ++ netsOf o (lansTo k)
theorem RtsTo.start {self : Int} {L : List Nk} {F : List Lf} {R : List Rt} (h : R = rtsOf self L) : RtsTo self L F 0 R := ⟨fun _ => none, fun j hj => by omega, by rw [h]; simp [lansTo, netsOf]⟩
def rtNew (k : Nat) : Option EndV → List Rt
  | some q => [⟨2, k, q.1, q.2⟩]
  | none => []
theorem RtsTo.next {self : Int} {L : List Nk} {F : List Lf} {k : Nat} {R : List Rt} (h : RtsTo self L F k R) (p : Option EndV) (hp : EndsO (endsV self k L F) p) : RtsTo self L F (k + 1) (R ++ rtNew k p) := by
  obtain ⟨o, h1, rfl⟩ := h
  refine ⟨fun x => if x = (k : Int) then p else o x, fun j hj => ?_, ?_⟩
  · by_cases e : j = k
    · subst e
      simp only [if_true]
      exact hp
    · simp only
      rw [if_neg (by omega)]
      exact h1 j (by omega)
  · rw [lansTo_succ, List.append_assoc]
    congr 1
    unfold netsOf
    rw [List.flatMap_append]
    congr 1
    · refine nets_congr (o := o) fun x hx => ?_
      obtain ⟨i, hi, rfl⟩ := List.mem_map.1 hx
      rw [List.mem_range] at hi
      rw [if_neg (by omega)]
    · rw [List.flatMap_cons, List.flatMap_nil, List.append_nil]
      unfold netOf rtNew
      simp only [if_true]
      cases p <;> rfl
theorem RtsTo.ends {self : Int} {L : List Nk} {F : List Lf} {R : List Rt} (h : RtsTo self L F 4 R) : RoutesAre self L F R := by
  obtain ⟨o, h1, h2⟩ := h
  refine ⟨o, fun lan h0 h3 => ?_, h2⟩
  obtain ⟨k, rfl⟩ := Int.eq_ofNat_of_zero_le h0
  exact h1 k (by omega)
theorem RtsTo.len {self : Int} {L : List Nk} {F : List Lf} {k : Nat} {R : List Rt} (h : RtsTo self L F k R) : R.length ≤ L.length + k := by
  obtain ⟨o, -, rfl⟩ := h
  have h1 : ∀ X : List Int, (netsOf o X).length ≤ X.length := by
    intro X
    unfold netsOf
    induction X with
    | nil => simp
    | cons x X ih =>
      rw [List.flatMap_cons, List.length_append, List.length_cons]
      have : (netOf o x).length ≤ 1 := by unfold netOf; split <;> simp
      omega
  have h2 : (rtsOf self L).length ≤ L.length := by
    unfold rtsOf
    induction L with
    | nil => simp
    | cons n L ih =>
      rw [List.flatMap_cons, List.length_append, List.length_cons]
      have : (rtOf self n).length ≤ 1 := by unfold rtOf; split <;> simp
      omega
  have h3 := h1 (lansTo k)
  have h4 : (lansTo k).length = k := by simp [lansTo]
  rw [List.length_append]
  omega

end Go.Proofs.YtpfjgecdlilkcaaGreat

/-
  Layer 22: what routes say: few, short, found by kind and number.
-/
namespace Go.Proofs.YtpfjgecdlilkcaaGreat
open Go.RowKit

structure RtsOk (M : List RtM) : Prop where
  low : ∀ x ∈ M, x.next.length ≤ 2 ^ 16
  len : M.length ≤ 83
  sorted : (M.map RtM.rt).Pairwise ltR
  kinds : ∀ x ∈ M, x.kind = 1 ∨ x.kind = 2
theorem nets_len (o : Int → Option EndV) : ∀ X : List Int, (netsOf o X).length ≤ X.length := by
  intro X
  unfold netsOf
  induction X with
  | nil => simp
  | cons x X ih =>
    rw [List.flatMap_cons, List.length_append, List.length_cons]
    have : (netOf o x).length ≤ 1 := by unfold netOf; split <;> simp
    omega
theorem rts_len (self : Int) (L : List Nk) : (rtsOf self L).length ≤ L.length := by
  unfold rtsOf
  induction L with
  | nil => simp
  | cons n L ih =>
    rw [List.flatMap_cons, List.length_append, List.length_cons]
    have : (rtOf self n).length ≤ 1 := by unfold rtOf; split <;> simp
    omega
theorem rts_ok {self : Int} {L : List Nk} {F : List Lf} {M : List RtM} (h : RoutesAre self L F (M.map RtM.rt)) (hO : NodesOk L) (hl : ∀ n ∈ L, n.next.length ≤ 64) (hL : L.length ≤ 79) : RtsOk M where
  low := by
    intro x hx
    have hm : x.rt ∈ M.map RtM.rt := List.mem_map.2 ⟨x, hx, rfl⟩
    have h64 : x.rt.next.length ≤ 64 := by
      rcases h.kinds _ hm with e | e
      · obtain ⟨n, hn, -, -, -, g⟩ := (h.router e).1 hm
        rw [g]
        exact hl n hn
      · obtain ⟨⟨h0, h3⟩, g⟩ := (h.net e).1 hm
        exact hops_few g.sorted fun y hy => by
          obtain ⟨p, hp, -, hy⟩ := (g.mem y).1 hy
          exact ends_ok h0 h3 hO.hops p hp y hy
    have e : x.rt.next = x.next := rfl
    rw [e] at h64
    exact Nat.le_trans h64 (by decide)
  len := by
    obtain ⟨o, -, e⟩ := h
    have h1 := congrArg List.length e
    rw [List.length_map, List.length_append] at h1
    have h2 := nets_len o [0, 1, 2, 3]
    have h3 := rts_len self L
    have h4 : ([0, 1, 2, 3] : List Int).length = 4 := rfl
    omega
  sorted := h.sorted hO.sorted
  kinds := fun x hx => h.kinds _ (List.mem_map.2 ⟨x, hx, rfl⟩)
theorem findR_own {M : List RtM} (h : RtsOk M) {x : RtM} (hx : x ∈ M) : findR M x.kind x.id = some x.rt := by
  have hm : x.rt ∈ M.map RtM.rt := List.mem_map.2 ⟨x, hx, rfl⟩
  cases hf : findR M x.kind x.id with
  | none =>
    unfold findR at hf
    rw [List.find?_eq_none] at hf
    exact absurd (decide_eq_true (show x.rt.kind = x.kind ∧ x.rt.id = x.id from ⟨rfl, rfl⟩)) (hf _ hm)
  | some y =>
    unfold findR at hf
    have h1 := List.mem_of_find?_eq_some hf
    have h2 := List.find?_some hf
    simp only [decide_eq_true_eq] at h2
    rw [route_one h.sorted h1 hm h2.1 h2.2]
theorem findR_iff {M : List RtM} (h : RtsOk M) {k i : Int} {x : Rt} : findR M k i = some x ↔ x ∈ M.map RtM.rt ∧ x.kind = k ∧ x.id = i := by
  constructor
  · intro hf
    unfold findR at hf
    have h2 := List.find?_some hf
    simp only [decide_eq_true_eq] at h2
    exact ⟨List.mem_of_find?_eq_some hf, h2⟩
  · rintro ⟨hm, rfl, rfl⟩
    obtain ⟨y, hy, rfl⟩ := List.mem_map.1 hm
    exact findR_own h hy
theorem findR_other {M : List RtM} (h : RtsOk M) (i : Int) : findR M 3 i = none :=
  findR_not fun p hp e => by rcases h.kinds p hp with g | g <;> omega
theorem routes_nil {self : Int} {F : List Lf} {R : List Rt} (h : RoutesAre self [] F R) : R = [] := by
  obtain ⟨o, ho, rfl⟩ := h
  have hn : ∀ lan : Int, 0 ≤ lan → lan ≤ 3 → o lan = none := fun lan h0 h3 => by
    have := ho lan h0 h3
    cases hl : o lan with
    | none => rfl
    | some p =>
      rw [hl] at this
      obtain ⟨x, hx, -⟩ := EndsAt.had this
      rcases mem_endsV.1 hx with ⟨n, hn, -⟩ | ⟨f, -, n, hn, -⟩
      · cases hn
      · cases hn
  simp [rtsOf, netsOf, netOf, hn 0 (by decide) (by decide), hn 1 (by decide) (by decide), hn 2 (by decide) (by decide), hn 3 (by decide) (by decide)]
theorem tree_few {E : List Ed} {DD : Vx → Vx → Option Val2} {r : Vx} {L : List Nk} (hD : Dists E DD) (h : TreeOf E DD r L) : L.length ≤ 79 := by
  cases hm : mayV r with
  | true => exact tree_len hD hm (h.1 hm)
  | false => rw [h.2 hm]; simp
/-- a row of one route -/
theorem rts_one {w : World} {g : Nat} {x : RtM} (h : Blk w g 31 #[.int .i64 x.kind, .int .i64 x.id, .int .i64 x.cost, .slice x.A x.next.length x.c]) (hr : RowsH w w.heap.size x.A x.next) (hl : x.next.length ≤ 2 ^ 16) : RtsIn w w.heap.size (some ⟨g, 0, none⟩) [x] where
  rows := by
    intro _
    refine ⟨g, 0, rfl, h.lt, fun k hk i u hi hu => ?_⟩
    obtain rfl : k = 0 := by simpa using hk
    rw [show 0 + 0 * 4 + i = i by omega, h.cell]
    simp only [List.getElem_cons_zero, RtM.cells] at hu
    simpa using hu
  each := by
    intro y hy
    rw [List.mem_singleton] at hy
    subst hy
    exact hr
  low := by
    intro y hy
    rw [List.mem_singleton] at hy
    subst hy
    exact hl

end Go.Proofs.YtpfjgecdlilkcaaGreat
