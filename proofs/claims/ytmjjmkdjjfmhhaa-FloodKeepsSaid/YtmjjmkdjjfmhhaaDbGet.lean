/-
  Layer 7: the description of a key.
-/
import Derived.Test.YtmjjmkdjjfmhhaaDbMem
import Derived.RegionTactic
namespace Go.Proofs.Ytmjjmkdjjfmhhaa
open Go.RowKit

def zeroX : Lsa := ⟨⟨0, 0, 0, 0, 0, 0, 0⟩, none, 0, [], none, 0, []⟩
theorem zeroXv (w : World) : (zeroValue 27).run Try.prog w = .ok zeroX.val w := by kernel_rfl
theorem getL_valX (k : K3) (M : List Lsa) : (getL k (dbL M)).getD zeroX.val = ((getX k M).getD zeroX).val ∧ (getL k (dbL M)).isSome = (getX k M).isSome := by
  rw [getL_db]
  cases getX k M <;> exact ⟨rfl, rfl⟩
theorem blk9f {_w : World} {g : Nat} {t : TypeId} {a b c d e f x y z : Value} {F : Obj → World} (h : ∀ o, Blk (F o) g t #[a, b, c, d, e, f, x, y, z]) : (∀ o, (F o).cell? ⟨g, 0, none⟩ = some a) ∧ (∀ o, (F o).cell? ⟨g, 1, none⟩ = some b) ∧ (∀ o, (F o).cell? ⟨g, 2, none⟩ = some c) ∧ (∀ o, (F o).cell? ⟨g, 3, none⟩ = some d) ∧ (∀ o, (F o).cell? ⟨g, 4, none⟩ = some e) ∧ (∀ o, (F o).cell? ⟨g, 5, none⟩ = some f) ∧ (∀ o, (F o).cell? ⟨g, 6, none⟩ = some x) ∧ (∀ o, (F o).cell? ⟨g, 7, none⟩ = some y) ∧ (∀ o, (F o).cell? ⟨g, 8, none⟩ = some z) ∧ ∀ o i, (F o).frozen? ⟨g, i, none⟩ = false :=
  ⟨fun o => (h o).cell 0, fun o => (h o).cell 1, fun o => (h o).cell 2, fun o => (h o).cell 3, fun o => (h o).cell 4, fun o => (h o).cell 5, fun o => (h o).cell 6, fun o => (h o).cell 7, fun o => (h o).cell 8, fun o i => (h o).frozen i⟩
set_option maxHeartbeats 4000000 in
set_option maxRecDepth 100000 in
theorem DbGet (p b : Nat) (room : Int) (M : List Lsa) (k1 k2 k3 : Int) (w : World) (h : DbAt w p b room M) {h1 h2 h3 h4 h5 h6 h7 : Int} {ka : Option Addr} {kc : Nat} {ls : List Lnk} {ma : Option Addr} {mc : Nat} {ms : List Int} {is : Bool}
    (hy : (getX ⟨k1, k2, k3⟩ M).getD zeroX = ⟨⟨h1, h2, h3, h4, h5, h6, h7⟩, ka, kc, ls, ma, mc, ms⟩) (his : (getX ⟨k1, k2, k3⟩ M).isSome = is) (nl nm : Nat) (hnl : nl = ls.length) (hnm : nm = ms.length) :
    Calls Try.prog 21 #[.pointer (some ⟨p, 0, none⟩), .agg #[.int .i64 k1, .int .i64 k2, .int .i64 k3]] w fun r w' => ∃ Aa ca Ab cb, r = .returned (.tuple #[.agg #[.int .i64 h1, .int .i64 h2, .int .i64 h3, .int .i64 h4, .int .i64 h5, .int .i64 h6, .int .i64 h7, .slice Aa nl ca, .slice Ab nm cb], .bool is]) ∧ OwnR 108 4 Lnk.cells w' w.heap.size (.slice Aa nl ca) ls ∧ OwnR 3 1 icell w' w.heap.size (.slice Ab nm cb) ms ∧ Below w.heap.size w w' := by
  have hrw : RowsAt 4 Lnk.cells w w.heap.size ka ls ∧ RowsAt 1 icell w w.heap.size ma ms ∧ ls.length ≤ 1000 ∧ ms.length ≤ 1000 := by
    cases hx : getX ⟨k1, k2, k3⟩ M with
    | none =>
      rw [hx] at hy
      simp [zeroX] at hy
      obtain ⟨-, rfl, rfl, rfl, rfl, rfl, rfl⟩ := hy
      exact ⟨RowsAt.nil, RowsAt.nil, by simp, by simp⟩
    | some x =>
      rw [hx] at hy
      simp only [Option.getD_some] at hy
      have hm := (getX_mem hx).1
      rw [hy] at hm
      exact ⟨(h.rows _ hm).1, (h.rows _ hm).2, (h.lens _ hm).1, (h.lens _ hm).2⟩
  obtain ⟨w0, hW0⟩ : ∃ w0, (w.alloc (.cells #[.int .i64 k1, .int .i64 k2, .int .i64 k3] 39)).alloc (.cells #[.int .i64 0, .int .i64 0, .int .i64 0, .int .i64 0, .int .i64 0, .int .i64 0, .int .i64 0, .slice none 0 0, .slice none 0 0] 27) = w0 := ⟨_, rfl⟩
  have hk : Blk w0 w.heap.size 39 #[.int .i64 k1, .int .i64 k2, .int .i64 k3] := by rw [← hW0]; exact (Blk.new w _ _).alloc _
  have ho : Blk w0 (w.heap.size + 1) 27 #[.int .i64 0, .int .i64 0, .int .i64 0, .int .i64 0, .int .i64 0, .int .i64 0, .int .i64 0, .slice none 0 0, .slice none 0 0] := by rw [← hW0]; exact Blk.size (by simp)
  have hb0 : Below w.heap.size w w0 := by rw [← hW0]; exact ((Below.refl w.heap.size w).alloc (Nat.le_refl _) _).alloc (by simp) _
  have hw := h.keep hb0
  have Hb0 := Lib.hid hb0
  obtain ⟨z0, z1, z2⟩ : _ ∧ _ ∧ _ := ⟨hk.cell 0, hk.cell 1, hk.cell 2⟩
  have z3 := hw.ptr.cell 1
  simp only [List.getElem?_toArray, List.getElem?_cons_zero, List.getElem?_cons_succ] at z0 z1 z2 z3
  have hl := hw.map.drew.look_run keyK3 Try.underlying110 (zeroXv _) ⟨k1, k2, k3⟩ true
  simp only [if_true, K3.enc] at hl
  obtain ⟨e1, e2⟩ := getL_valX ⟨k1, k2, k3⟩ M
  rw [hy] at e1
  rw [his] at e2
  rw [e1, e2] at hl
  have hl2 := fun o => (hw.map.alloc o).drew.look_run keyK3 Try.underlying110 (zeroXv _) ⟨k1, k2, k3⟩ true
  simp only [if_true, K3.enc] at hl2
  rw [e1, e2] at hl2
  have c0 := fun o => (hk.alloc o).cell 0
  have c1 := fun o => (hk.alloc o).cell 1
  have c2 := fun o => (hk.alloc o).cell 2
  have c3 := fun o => (hw.ptr.alloc o).cell 1
  simp only [List.getElem?_toArray, List.getElem?_cons_zero, List.getElem?_cons_succ] at c0 c1 c2 c3
  unfold Lsa.val Lsa.cells at hl hl2
  simp only at hl hl2
  rw [← hnl, ← hnm] at hl hl2
  have Hrw := Lib.hid hrw
  have Hnl := Lib.hid hnl
  have Hnm := Lib.hid hnm
  have Ho := Lib.hid ho
  clear hk hw h e1 e2 ho hy his hrw hnl hnm hb0
  go_enter Try.func21, Try.ntmps21
  go_upto_region 3 with fail
  go_region
  go_upto_region 4 with fail
  obtain ⟨w4, hw4⟩ : ∃ w4, (w0.alloc (.cells #[.int .i64 h1, .int .i64 h2, .int .i64 h3, .int .i64 h4, .int .i64 h5, .int .i64 h6, .int .i64 h7, .slice ka nl kc, .slice ma nm mc] 27)).drew = w4 := ⟨_, rfl⟩
  have hk4 : Blk w4 w0.heap.size 27 #[.int .i64 h1, .int .i64 h2, .int .i64 h3, .int .i64 h4, .int .i64 h5, .int .i64 h6, .int .i64 h7, .slice ka nl kc, .slice ma nm mc] := by rw [← hw4]; exact Blk.new w0 _ _
  have hb4 : Below w0.heap.size w0 w4 := by rw [← hw4]; exact (below_new w0 _).drew
  have hb4w := below_trans Hb0.out Hb0.out.size hb4
  have HOW := Lib.hid (own_any h1 h2 h3 h4 h5 h6 h7 ka kc ls ma mc ms w4 w.heap.size (Hrw.out.1.below hb4w) (Hrw.out.2.1.below hb4w) hb4w.size (by have := Hrw.out.2.2.1; omega) (by have := Hrw.out.2.2.2; omega) nl nm Hnl.out Hnm.out)
  have hs0 : w0.heap.size = w.heap.size + 2 := by rw [← hW0]; simp
  have Hb4w := Lib.hid hb4w
  have Ho4 := Lib.hid (Ho.out.below hb4 (by omega))
  obtain ⟨p0, p1, p2, p3, p4, p5, p6, p7, p8, pf⟩ := blk9 hk4
  rw [hw4]
  have hq4 : w.heap.size + 1 < w4.heap.size := Ho4.out.lt
  clear hW0 hw4 hk4 hb4 hb4w z0 z1 z2 z3 hl hl2 c0 c1 c2 c3
  rw [hs0] at p0 p1 p2 p3 p4 p5 p6 p7 p8 pf
  go_wp2_with (go_at_call 65; (with_reducible refine Calls.mono HOW.out ?_); rintro r w5 ⟨Aa, ca, Ab, cb, rfl, oa, ob, hb5⟩; have OA := Lib.hid oa; have OB := Lib.hid ob; have Hb5 := Lib.hid hb5; obtain ⟨q0, q1, q2, q3, q4, q5, q6, q7, q8, qf⟩ := blk9 (Ho4.out.below hb5 Ho4.out.lt); clear oa ob hb5)
  have hna : (Value.slice Aa nl ca).ownBlock ≠ some (w.heap.size + 1) := fun e => by have := (OwnR.block OA.out _ e).1; omega
  have hnb : (Value.slice Ab nm cb).ownBlock ≠ some (w.heap.size + 1) := fun e => by have := (OwnR.block OB.out _ e).1; omega
  refine bodyPost_named (v := .tuple #[.agg #[.int .i64 h1, .int .i64 h2, .int .i64 h3, .int .i64 h4, .int .i64 h5, .int .i64 h6, .int .i64 h7, .slice Aa nl ca, .slice Ab nm cb], .bool is]) (fun W => Blk W (w.heap.size + 1) 27 #[.int .i64 h1, .int .i64 h2, .int .i64 h3, .int .i64 h4, .int .i64 h5, .int .i64 h6, .int .i64 h7, .slice Aa nl ca, .slice Ab nm cb]) (Blk.set9 (Ho4.out.below Hb5.out Ho4.out.lt) _ _ _ _ _ _ _ _ _) (fun W hB => by
    obtain ⟨e0, e1, e2, e3, e4, e5, e6, e7, e8, -⟩ := blk9 hB
    simp [results, Try.results21, go_sem, e0, e1, e2, e3, e4, e5, e6, e7, e8]) rfl ?_
  exact ⟨Aa, ca, Ab, cb, rfl, OwnR.lower (own_far9 OA.out hna _ _ _ _ _ _ _ _ _) Hb4w.out.size, OwnR.lower (own_far9 OB.out hnb _ _ _ _ _ _ _ _ _) Hb4w.out.size, below_set9 (below_trans Hb4w.out Hb4w.out.size Hb5.out) (by omega) _ _ _ _ _ _ _ _ _⟩

end Go.Proofs.Ytmjjmkdjjfmhhaa
