/-
  Layer 13: the keys of what is gone: the program's way.
-/
import Derived.Shelf.SlGeneric
import Derived.Shelf.SlSortCmp.NoneTotal
import Derived.Ground.SlsfProg
import Derived.Test.YtpnbibokddhheaaProg
import Derived.Test.YtpnbibokddhheaaBaa
import Derived.Test.YtpnbibokddhheaaBab
import Derived.Test.YtpnbibokddhheaaBac
import Derived.Test.YtpnbibokddhheaaBae
import Derived.Test.YtpnbibokddhheaaBaf
import Derived.Test.YtpnbibokddhheaaBag
import Derived.Test.YtpnbibokddhheaaBah
namespace Go.Proofs.Ytpnbibokddhheaa
open Go.RowKit Go.Sort

theorem infoK13 : (Try.prog.info? 85).map (fun i => (i.zero, i.size, i.bytes)) = some (some (.agg #[.int .i64 0, .int .i64 0, .int .i64 0]), 3, 24) := by kernel_rfl
def goneOf (l : List Lsa) : List K3 := (l.filter fun x => decide (x.head.age = 60)).map keyX
theorem gone_more {l : List Lsa} {k : Nat} (hk : k < l.length) : goneOf (l.take (k + 1)) = goneOf (l.take k) ++ if l[k].head.age = 60 then [keyX l[k]] else [] := by
  unfold goneOf
  rw [List.take_succ_eq_append_getElem hk, List.filter_append, List.map_append]
  congr 1
  by_cases h : l[k].head.age = 60 <;> simp [h]
theorem gone_len (l : List Lsa) : (goneOf l).length ≤ l.length := by
  unfold goneOf
  rw [List.length_map]
  exact List.length_filter_le _ _
set_option maxHeartbeats 8000000 in
set_option maxRecDepth 100000 in
theorem SuGone_any (A : Option Addr) (c : Nat) (l : List Lsa) (w : World) (B : Nat) (h : RowsAt 9 Lsa.cells w B A l) (hB : B ≤ w.heap.size) (hm : l.length ≤ 2 ^ 20) (nn : Nat) (hnn : nn = l.length) (X : List K3)
    (HC : ∀ W A n c N, OwnR 85 3 K3.cells W w.heap.size (.slice A n c) N → N.Perm (goneOf l) → (N.Pairwise fun x y => lessK y x = false) → Calls Try.prog 71 #[.slice A n c] W fun r W' => (∃ v, r = .returned v ∧ OwnR 85 3 K3.cells W' w.heap.size v X) ∧ W.grownBy W' (Value.slice A n c).ownBlock) :
    Calls Try.prog 43 #[.slice A nn c] w fun r w' => (∃ v, r = .returned v ∧ OwnR 85 3 K3.cells w' w.heap.size v X) ∧ Below w.heap.size w w' := by
  subst hnn
  have HL := Lib.hid h
  have HCo := Lib.hid HC
  have hm' : (l.length : Int) ≤ 9223372036854775807 := by omega
  clear h HC
  go_enter Try.func43, Try.ntmps43
  go_wp2
  go_loopw [3, 8] (fun v i wr => ∃ k : Nat, i = .int .i64 k ∧ k ≤ l.length ∧ OwnR 85 3 K3.cells wr w.heap.size v (goneOf (l.take k)) ∧ Below w.heap.size w wr) (fun _ i _ => l.length - (intOf i).toNat)
  case atStart => exact ⟨0, rfl, Nat.zero_le _, OwnR.nil _ _, Below.refl _ _⟩
  case round =>
    obtain ⟨k, rfl, hk, hown, hb⟩ := hrel
    obtain ⟨A7, c7, hv7⟩ := hown.shape
    subst hv7
    have hHl : (goneOf (l.take k)).length ≤ 2 ^ 20 := Nat.le_trans (gone_len _) (by rw [List.length_take]; omega)
    obtain ⟨H, hH⟩ : ∃ H, goneOf (l.take k) = H := ⟨_, rfl⟩
    by_cases hlt : k < l.length
    · obtain ⟨g, o, hA, -, x0, x1, x2, x3, x4, x5, x6, x7, x8⟩ := row_lsa9b (HL.out.below (hb.mono hB)) k hlt
      have hkl : (k : Int) < (l.length : Int) := by omega
      have hmore := gone_more hlt
      have HA := Lib.hid hA
      rw [hA]
      have Hlt := Lib.hid hlt
      generalize l[k] = x at *
      obtain ⟨⟨y1, y2, y3, y4, y5, y6, y7⟩, ka, kc, ls, ma, mc, ms⟩ := x
      simp only at x0 x1 x2 x3 x4 x5 x6 x7 x8 hmore
      obtain ⟨nl, hnl⟩ : ∃ nl, ls.length = nl := ⟨_, rfl⟩
      obtain ⟨nm, hnm⟩ : ∃ nm, ms.length = nm := ⟨_, rfl⟩
      rw [hnl] at x7
      rw [hnm] at x8
      rw [hH] at hown hmore hHl ⊢
      have Hmore := Lib.hid hmore
      have HHl := Lib.hid hHl
      obtain ⟨w8, hw8⟩ : ∃ w8, wr.alloc (.cells #[.int .i64 y1, .int .i64 y2, .int .i64 y3, .int .i64 y4, .int .i64 y5, .int .i64 y6, .int .i64 y7, .slice ka nl kc, .slice ma nm mc] 38) = w8 := ⟨_, rfl⟩
      obtain ⟨g8, hg8⟩ : ∃ g8, wr.heap.size = g8 := ⟨_, rfl⟩
      have hk8 := Blk.new wr 38 #[.int .i64 y1, .int .i64 y2, .int .i64 y3, .int .i64 y4, .int .i64 y5, .int .i64 y6, .int .i64 y7, .slice ka nl kc, .slice ma nm mc]
      have hb8 := below_new wr (.cells #[.int .i64 y1, .int .i64 y2, .int .i64 y3, .int .i64 y4, .int .i64 y5, .int .i64 y6, .int .i64 y7, .slice ka nl kc, .slice ma nm mc] 38)
      rw [hw8, hg8] at hk8
      rw [hw8] at hb8
      have O8 := Lib.hid (hown.below hb8)
      have B8 := Lib.hid (below_trans hb hb.size hb8)
      obtain ⟨z0, z1, z2, z3, z4, z5, z6, z7, z8, zf⟩ := blk9 hk8
      clear hnl hnm hA hlt hk8 hb8 hk hown hb hmore hHl hH
      by_cases h60 : y1 = 60
      · subst h60
        rw [if_pos rfl] at Hmore
        go_wp2_with fail
        with_reducible refine Calls.mono (keyOf_any _ _ _ _ _ _ _ _) ?_
        rintro r w9 ⟨rfl, hb9⟩
        have O9 := Lib.hid (O8.out.below hb9)
        have B9 := Lib.hid (below_trans B8.out B8.out.size hb9)
        clear hb9
        go_wp2_with (at_builtin; (refine app_row K3.cells (fun _ => rfl) (by decide) (bytes := 24) (by decide) infoK13 rfl Try.underlying48 onesK13 (by rfl) _ _ (by rfl) w.heap.size _ H (by rfl) (O9.out.alloc _) w9.heap.size ⟨y2, y3, y4⟩ (by rfl) (Blk.new _ _ _) (by have := HHl.out; omega) (by have := B9.out.size; simp; omega) ?_); intro v6 w6 hown6 hg6 hor6; have O6 := Lib.hid hown6; have Hg6 := Lib.hid hg6; clear hown6 hg6 hor6)
        have B6 := Lib.hid (show Below w.heap.size w w6 from (B9.out.alloc B9.out.size _).grown Hg6.out (by have := B9.out.size; simp; omega) (fun m e => (O9.out.block m e).1))
        go_wp2
        go_roundw
        case measure => have := Hlt.out; simp only [intOf]; omega
        case rel => exact ⟨k + 1, by go_num, Hlt.out, by rw [Hmore.out]; exact O6.out, B6.out⟩
      · rw [if_neg h60, List.append_nil] at Hmore
        go_wp2
        go_roundw
        case measure => have := Hlt.out; simp only [intOf]; omega
        case rel => exact ⟨k + 1, by go_num, Hlt.out, by rw [Hmore.out]; exact O8.out, B8.out⟩
    · have hke : k = l.length := by omega
      subst hke
      have hkl : ¬ (l.length : Int) < (l.length : Int) := by omega
      have hH2 : goneOf l = H := by rw [← hH, List.take_length]
      rw [hH] at hown hHl ⊢
      have HS := Lib.hid (sortKs13 _ H w.heap.size wr hown hHl)
      have B8 := Lib.hid hb
      have O8 := Lib.hid hown
      have HH := Lib.hid hH2
      clear hown hb hlt hH hHl hH2
      go_wp2_with fail
      with_reducible refine Calls.mono HS.out ?_
      rintro r w9 ⟨rfl, ⟨N, hown9, hpN, hsN⟩, hg9⟩
      have hc := HCo.out w9 _ _ _ N hown9 (by rw [HH.out]; exact hpN) hsN
      have HC9 := Lib.hid hc
      have B9 := Lib.hid (show Below w.heap.size w w9 from B8.out.grown hg9 B8.out.size (fun m e => (O8.out.block m e).1))
      have O9 := Lib.hid hown9
      clear hown9 hpN hsN hg9 hc
      go_wp2_with fail
      with_reducible refine Calls.mono HC9.out ?_
      rintro r w10 ⟨⟨v, rfl, hown10⟩, hg10⟩
      have B10 := Lib.hid (show Below w.heap.size w w10 from B9.out.grown hg10 B9.out.size (fun m e => (O9.out.block m e).1))
      obtain ⟨Av, cv, hv⟩ := hown10.shape
      subst hv
      have O10 := Lib.hid hown10
      clear hown10 hg10
      go_wp2
      go_ret
      exact ⟨⟨_, rfl, O10.out⟩, B10.out⟩
theorem SuGone_one (A : Option Addr) (c : Nat) (l : List Lsa) (w : World) (B : Nat) (h : RowsAt 9 Lsa.cells w B A l) (hB : B ≤ w.heap.size) (hm : l.length ≤ 2 ^ 20) (nn : Nat) (hnn : nn = l.length) (h1 : (goneOf l).length < 2) :
    Calls Try.prog 43 #[.slice A nn c] w fun r w' => (∃ v, r = .returned v ∧ OwnR 85 3 K3.cells w' w.heap.size v (goneOf l)) ∧ Below w.heap.size w w' := by
  refine SuGone_any A c l w B h hB hm nn hnn (goneOf l) (fun W A n c N hown hp hs => ?_)
  have hl := hp.length_eq
  have hN : N = goneOf l := by
    cases hg : goneOf l with
    | nil => rw [hg] at hp; exact List.perm_nil.1 hp
    | cons a t =>
      cases t with
      | nil => rw [hg] at hp; exact List.perm_singleton.1 hp
      | cons b t => rw [hg] at h1; simp at h1; omega
  subst hN
  have hn : n = (goneOf l).length := by obtain ⟨A2, c2, hv⟩ := hown.shape; injection hv
  refine (compact1 A c n (by omega) W).mono ?_
  rintro r W' ⟨rfl, rfl⟩
  exact ⟨⟨_, rfl, hown⟩, World.grownBy.refl _ _⟩

end Go.Proofs.Ytpnbibokddhheaa

/-
  Layer 13: the example that each law asks first.
-/
namespace Go.Proofs.Ytpnbibokddhheaa
open Go.RowKit Go.Sort

def xa13 : Lsa := ⟨⟨0, 1, 1, 1, 0, 0, 0⟩, none, 0, [], none, 0, []⟩
def xb13 : Lsa := ⟨⟨60, 1, 2, 2, 0, 0, 0⟩, none, 0, [], none, 0, []⟩
theorem rows_of_blkX {w : World} {g B : Nat} {t : TypeId} {L : List Lsa} (h : Blk w g t (L.flatMap Lsa.cells).toArray) (hB : g < B) : RowsAt 9 Lsa.cells w B (some ⟨g, 0, none⟩) L := by
  intro _
  refine ⟨g, 0, rfl, hB, fun k hk i u hi hu => ?_⟩
  rw [show 0 + k * 9 + i = k * 9 + i by omega, h.cell, List.getElem?_toArray, flatR Lsa.cells 9 (fun _ => rfl) L k i hk hi]
  exact hu
theorem row_hd13 {w : World} {B : Nat} {A : Option Addr} {x : Hd} (h : RowsAt 7 Hd.cells w B A [x]) : ∃ b o, A = some ⟨b, o, none⟩ ∧ b < B ∧ w.cell? ⟨b, o, none⟩ = some (.int .i64 x.age) ∧ w.cell? ⟨b, o + 1, none⟩ = some (.int .i64 x.kind) ∧ w.cell? ⟨b, o + 2, none⟩ = some (.int .i64 x.id) ∧ w.cell? ⟨b, o + 3, none⟩ = some (.int .i64 x.adv) ∧ w.cell? ⟨b, o + 4, none⟩ = some (.int .i64 x.seq) ∧ w.cell? ⟨b, o + 5, none⟩ = some (.int .i64 x.sum) ∧ w.cell? ⟨b, o + 6, none⟩ = some (.int .i64 x.long) := by
  obtain ⟨b, o, e, hb, hc⟩ := h (by simp)
  have h0 := fun i u hi hu => hc 0 (by simp) i u hi hu
  simp only [List.getElem_cons_zero, Nat.zero_mul, Nat.add_zero] at h0
  exact ⟨b, o, e, hb, h0 0 _ (by omega) rfl, h0 1 _ (by omega) rfl, h0 2 _ (by omega) rfl, h0 3 _ (by omega) rfl, h0 4 _ (by omega) rfl, h0 5 _ (by omega) rfl, h0 6 _ (by omega) rfl⟩
theorem ba_cells : ([xb13, xa13].flatMap Lsa.cells).toArray = #[.int .i64 60, .int .i64 1, .int .i64 2, .int .i64 2, .int .i64 0, .int .i64 0, .int .i64 0, .slice none 0 0, .slice none 0 0, .int .i64 0, .int .i64 1, .int .i64 1, .int .i64 1, .int .i64 0, .int .i64 0, .int .i64 0, .slice none 0 0, .slice none 0 0] := rfl
theorem ab_cells : ([xa13, xb13].flatMap Lsa.cells).toArray = #[.int .i64 0, .int .i64 1, .int .i64 1, .int .i64 1, .int .i64 0, .int .i64 0, .int .i64 0, .slice none 0 0, .slice none 0 0, .int .i64 60, .int .i64 1, .int .i64 2, .int .i64 2, .int .i64 0, .int .i64 0, .int .i64 0, .slice none 0 0, .slice none 0 0] := rfl
theorem ba_heads : headsOf [xb13, xa13] = [⟨0, 1, 1, 1, 0, 0, 0⟩] := by decide
theorem ab_gone : goneOf [xa13, xb13] = [⟨1, 2, 2⟩] := by decide
theorem new13 (W : World) : Calls Try.prog 10 #[.slice (some ⟨W.heap.size, 0, none⟩) 2 2] (W.alloc (.cells #[.int .i64 60, .int .i64 1, .int .i64 2, .int .i64 2, .int .i64 0, .int .i64 0, .int .i64 0, .slice none 0 0, .slice none 0 0, .int .i64 0, .int .i64 1, .int .i64 1, .int .i64 1, .int .i64 0, .int .i64 0, .int .i64 0, .slice none 0 0, .slice none 0 0] 38)) fun r w' => r = .returned (.pointer (some ⟨W.heap.size + 1, 0, none⟩)) ∧ (∃ v, SmAt w' (W.heap.size + 1) v 0 [⟨0, 1, 1, 1, 0, 0, 0⟩]) ∧ Below (W.heap.size + 1) (W.alloc (.cells #[.int .i64 60, .int .i64 1, .int .i64 2, .int .i64 2, .int .i64 0, .int .i64 0, .int .i64 0, .slice none 0 0, .slice none 0 0, .int .i64 0, .int .i64 1, .int .i64 1, .int .i64 1, .int .i64 0, .int .i64 0, .int .i64 0, .slice none 0 0, .slice none 0 0] 38)) w' := by
  have hk := Blk.new W 38 #[.int .i64 60, .int .i64 1, .int .i64 2, .int .i64 2, .int .i64 0, .int .i64 0, .int .i64 0, .slice none 0 0, .slice none 0 0, .int .i64 0, .int .i64 1, .int .i64 1, .int .i64 1, .int .i64 0, .int .i64 0, .int .i64 0, .slice none 0 0, .slice none 0 0]
  rw [← ba_cells] at hk ⊢
  have hsz : (W.alloc (.cells ([xb13, xa13].flatMap Lsa.cells).toArray 38)).heap.size = W.heap.size + 1 := by simp
  have h := SuNew_any (some ⟨W.heap.size, 0, none⟩) 2 [xb13, xa13] _ _ (rows_of_blkX hk (B := W.heap.size + 1) (by omega)) (by omega) (by decide) 2 rfl [⟨0, 1, 1, 1, 0, 0, 0⟩] (fun W' v hown => by
    rw [ba_heads] at hown
    obtain ⟨A7, c7, hv⟩ := hown.shape
    subst hv
    refine (sortStable1 A7 c7 _ W').mono ?_
    rintro r w' ⟨rfl, rfl⟩
    exact ⟨rfl, hown, World.grownBy.refl _ _⟩)
  rw [hsz] at h
  exact h
theorem gone13 (W : World) : Calls Try.prog 43 #[.slice (some ⟨W.heap.size, 0, none⟩) 2 2] (W.alloc (.cells #[.int .i64 0, .int .i64 1, .int .i64 1, .int .i64 1, .int .i64 0, .int .i64 0, .int .i64 0, .slice none 0 0, .slice none 0 0, .int .i64 60, .int .i64 1, .int .i64 2, .int .i64 2, .int .i64 0, .int .i64 0, .int .i64 0, .slice none 0 0, .slice none 0 0] 38)) fun r w' => (∃ A c, r = .returned (.slice A 1 c)) ∧ Below (W.heap.size + 1) (W.alloc (.cells #[.int .i64 0, .int .i64 1, .int .i64 1, .int .i64 1, .int .i64 0, .int .i64 0, .int .i64 0, .slice none 0 0, .slice none 0 0, .int .i64 60, .int .i64 1, .int .i64 2, .int .i64 2, .int .i64 0, .int .i64 0, .int .i64 0, .slice none 0 0, .slice none 0 0] 38)) w' := by
  have hk := Blk.new W 38 #[.int .i64 0, .int .i64 1, .int .i64 1, .int .i64 1, .int .i64 0, .int .i64 0, .int .i64 0, .slice none 0 0, .slice none 0 0, .int .i64 60, .int .i64 1, .int .i64 2, .int .i64 2, .int .i64 0, .int .i64 0, .int .i64 0, .slice none 0 0, .slice none 0 0]
  rw [← ab_cells] at hk ⊢
  have hsz : (W.alloc (.cells ([xa13, xb13].flatMap Lsa.cells).toArray 38)).heap.size = W.heap.size + 1 := by simp
  have h := SuGone_one (some ⟨W.heap.size, 0, none⟩) 2 [xa13, xb13] _ _ (rows_of_blkX hk (B := W.heap.size + 1) (by omega)) (by omega) (by decide) 2 rfl (by rw [ab_gone]; decide)
  rw [hsz] at h
  refine h.mono ?_
  rintro r w' ⟨⟨v, rfl, hown⟩, hb⟩
  rw [ab_gone] at hown
  obtain ⟨A7, c7, hv⟩ := hown.shape
  exact ⟨⟨A7, c7, by rw [hv]; rfl⟩, hb⟩
theorem eqHead13 (w : World) : (Op.equalIn 10000 34 (.agg #[.int .i64 0, .int .i64 1, .int .i64 1, .int .i64 1, .int .i64 0, .int .i64 0, .int .i64 0]) (.agg #[.int .i64 0, .int .i64 1, .int .i64 1, .int .i64 1, .int .i64 0, .int .i64 0, .int .i64 0])).run Try.prog w = .ok true w := by kernel_rfl
set_option maxHeartbeats 4000000 in
set_option maxRecDepth 100000 in
theorem wakes13 (w : World) : Calls Try.prog 8 #[] w fun r w' => r = .returned (.bool true) ∧ Below w.heap.size w w' := by
  go_enter Try.func8, Try.ntmps8
  go_upto_region 2 with fail
  obtain ⟨w2, hw2⟩ : ∃ w2, (w.alloc (.cells #[.int .i64 0, .int .i64 1, .int .i64 1, .int .i64 1, .int .i64 0, .int .i64 0, .int .i64 0, .slice none 0 0, .slice none 0 0] 38)).alloc (.cells #[.int .i64 60, .int .i64 1, .int .i64 2, .int .i64 2, .int .i64 0, .int .i64 0, .int .i64 0, .slice none 0 0, .slice none 0 0] 38) = w2 := ⟨_, rfl⟩
  have ha : Blk w2 w.heap.size 38 #[.int .i64 0, .int .i64 1, .int .i64 1, .int .i64 1, .int .i64 0, .int .i64 0, .int .i64 0, .slice none 0 0, .slice none 0 0] := by rw [← hw2]; exact (Blk.new _ _ _).alloc _
  have hb : Blk w2 (w.heap.size + 1) 38 #[.int .i64 60, .int .i64 1, .int .i64 2, .int .i64 2, .int .i64 0, .int .i64 0, .int .i64 0, .slice none 0 0, .slice none 0 0] := by rw [← hw2]; exact Blk.size (by simp)
  have hb2 : Below w.heap.size w w2 := by rw [← hw2]; exact ((Below.refl _ _).alloc (Nat.le_refl _) _).alloc (by simp) _
  rw [hw2]
  have Ha := Lib.hid ha
  have Hb := Lib.hid hb
  have Hb2 := Lib.hid hb2
  obtain ⟨z0, z1, z2, z3, z4, z5, z6, z7, z8, zf⟩ := blk9 ha
  obtain ⟨y0, y1, y2, y3, y4, y5, y6, y7, y8, yf⟩ := blk9 hb
  clear ha hb hb2 hw2
  go_wp2_with fail
  with_reducible refine Calls.mono (new13 _) ?_
  rintro r w3 ⟨rfl, ⟨v, hsm⟩, hb3⟩
  have hb3' : Below w2.heap.size w2 w3 := (below_new w2 _).trans (hb3.mono (by omega))
  have HP := Lib.hid (SuPiece_one _ v _ w3 hsm)
  have Ha3 := Lib.hid (Ha.out.below hb3' Ha.out.lt)
  have Hb33 := Lib.hid (Hb.out.below hb3' Hb.out.lt)
  have Hw3 := Lib.hid (below_trans Hb2.out Hb2.out.size hb3')
  clear hsm hb3 hb3' z0 z1 z2 z3 z4 z5 z6 z7 z8 zf y0 y1 y2 y3 y4 y5 y6 y7 y8 yf
  go_wp2_with fail
  with_reducible refine Calls.mono HP.out ?_
  rintro r w4 ⟨⟨u, rfl, hu⟩, hb4⟩
  obtain ⟨g, cap, hc, hv⟩ : ∃ g c, 1 ≤ c ∧ u = .slice (some ⟨g, 0, none⟩) 1 c := by
    rcases hu.shape2 with ⟨-, hl⟩ | ⟨g, c5, rfl, hc5⟩
    · cases hl
    · exact ⟨g, c5, hc5, rfl⟩
  subst hv
  obtain ⟨g', o', e, -, x0, x1, x2, x3, x4, x5, x6⟩ := row_hd13 (OwnR.rows (C := 7) (cells := Hd.cells) (fun _ => rfl) hu).2
  injection e with e
  injection e with e1 e2
  subst e1 e2
  obtain ⟨z0, z1, z2, z3, z4, z5, z6, z7, z8, zf⟩ := blk9 (Ha3.out.below hb4 Ha3.out.lt)
  obtain ⟨y0, y1, y2, y3, y4, y5, y6, y7, y8, yf⟩ := blk9 (Hb33.out.below hb4 Hb33.out.lt)
  have Hw4 := Lib.hid (below_trans Hw3.out Hw3.out.size hb4)
  have he := eqHead13
  clear hu hb4 hc
  go_wp2_with fail
  refine wp_drew_tail 14 (by kernel_rfl) (by kernel_rfl) ?_
  simp only [List.take_succ_cons, List.take_zero, List.drop_succ_cons, List.drop_zero]
  repeat (go_big_quiet_step (fail))
  refine wpQuiet_nil ?_
  rintro w5 ⟨dq, rfl⟩
  have Hw5 := Lib.hid (below_drewN Hw4.out dq)
  go_wp2_with fail
  with_reducible refine Calls.mono (gone13 _) ?_
  rintro r w6 ⟨⟨A6, c6, rfl⟩, hb6⟩
  have Hw6 := Lib.hid (below_trans Hw5.out Hw5.out.size ((below_new _ _).trans (hb6.mono (by omega))))
  clear hb6
  go_wp2
  go_ret
  exact ⟨rfl, Hw6.out⟩

end Go.Proofs.Ytpnbibokddhheaa

/-
  Layer 13: what a database that is not there lacks of a head.
-/
namespace Go.Proofs.Ytpnbibokddhheaa
open Go.RowKit Go.Sort

theorem zeroI13 (w : World) : (zeroValue 3).run Try.prog w = .ok (.int .i64 0) w := by kernel_rfl
set_option maxRecDepth 100000 in
theorem GetNil (k1 k2 k3 : Int) (w : World) : Calls Try.prog 57 #[.pointer none, .agg #[.int .i64 k1, .int .i64 k2, .int .i64 k3]] w fun r w' => (∃ u1 u2 u3 u4 u5 u6 u7 Aa nl ca Ab nm cb, r = .returned (.tuple #[.agg #[.int .i64 u1, .int .i64 u2, .int .i64 u3, .int .i64 u4, .int .i64 u5, .int .i64 u6, .int .i64 u7, .slice Aa nl ca, .slice Ab nm cb], .bool false])) ∧ Below w.heap.size w w' := by
  go_enter Try.func57, Try.ntmps57
  go_wp2
  refine bodyPost_ret (v := .tuple #[.agg #[.int .i64 0, .int .i64 0, .int .i64 0, .int .i64 0, .int .i64 0, .int .i64 0, .int .i64 0, .slice none 0 0, .slice none 0 0], .bool false]) (by simp [results, Try.results57, go_sem]) rfl ⟨⟨_, _, _, _, _, _, _, _, _, _, _, _, _, rfl⟩, ?_⟩
  exact ((Below.refl _ _).alloc (Nat.le_refl _) _).alloc (by simp) _
theorem blk7n {w : World} {g : Nat} {t : TypeId} {a b c d e f x : Value} (h : Blk w g t #[a, b, c, d, e, f, x]) : w.cell? ⟨g, 0, none⟩ = some a ∧ w.cell? ⟨g, 1, none⟩ = some b ∧ w.cell? ⟨g, 2, none⟩ = some c ∧ w.cell? ⟨g, 3, none⟩ = some d ∧ w.cell? ⟨g, 4, none⟩ = some e ∧ w.cell? ⟨g, 5, none⟩ = some f ∧ w.cell? ⟨g, 6, none⟩ = some x :=
  ⟨h.cell 0, h.cell 1, h.cell 2, h.cell 3, h.cell 4, h.cell 5, h.cell 6⟩
theorem blk3n {w : World} {g : Nat} {t : TypeId} {a b c : Value} (h : Blk w g t #[a, b, c]) : w.cell? ⟨g, 0, none⟩ = some a ∧ w.cell? ⟨g, 1, none⟩ = some b ∧ w.cell? ⟨g, 2, none⟩ = some c := ⟨h.cell 0, h.cell 1, h.cell 2⟩
set_option maxHeartbeats 8000000 in
set_option maxRecDepth 100000 in
theorem Lacks_one (g : Nat) (y1 y2 y3 y4 y5 y6 y7 : Int) (w : World) (hk : Blk w g 34 #[.int .i64 y1, .int .i64 y2, .int .i64 y3, .int .i64 y4, .int .i64 y5, .int .i64 y6, .int .i64 y7]) :
    Calls Try.prog 23 #[.pointer none, .slice (some ⟨g, 0, none⟩) 1 1] w fun r w' => (∃ v, r = .returned v ∧ OwnR 34 7 Hd.cells w' w.heap.size v [⟨y1, y2, y3, y4, y5, y6, y7⟩]) ∧ Below w.heap.size w w' := by
  have HK := Lib.hid hk
  have hg := hk.lt
  obtain ⟨b, hb⟩ : ∃ b, w.heap.size = b := ⟨_, rfl⟩
  have hmm := @run_makeMap Try.prog
  have HM0 := Lib.hid (MapAt.new (enc := K3.enc) w)
  clear hk
  go_enter Try.func23, Try.ntmps23
  go_wp2
  clear hmm
  go_loopw [5, 17] (fun v i wr => ((i = .int .i64 0 ∧ v = .slice none 0 0 ∧ MapAt K3.enc wr b []) ∨ (i = .int .i64 1 ∧ OwnR 34 7 Hd.cells wr w.heap.size v [⟨y1, y2, y3, y4, y5, y6, y7⟩])) ∧ Below w.heap.size w wr) (fun _ i _ => 1 - (intOf i).toNat)
  case atStart => exact ⟨.inl ⟨rfl, rfl, by rw [← hb]; exact HM0.out⟩, (Below.refl _ _).alloc (Nat.le_refl _) _⟩
  case round =>
    obtain ⟨⟨rfl, rfl, hm⟩ | ⟨rfl, hown⟩, hbel⟩ := hrel
    · obtain ⟨x0, x1, x2, x3, x4, x5, x6⟩ := blk7n (HK.out.below hbel hg)
      obtain ⟨w8, hw8⟩ : ∃ w8, wr.alloc (.cells #[.int .i64 y1, .int .i64 y2, .int .i64 y3, .int .i64 y4, .int .i64 y5, .int .i64 y6, .int .i64 y7] 34) = w8 := ⟨_, rfl⟩
      obtain ⟨g8, hg8⟩ : ∃ g8, wr.heap.size = g8 := ⟨_, rfl⟩
      have hk8 := Blk.new wr 34 #[.int .i64 y1, .int .i64 y2, .int .i64 y3, .int .i64 y4, .int .i64 y5, .int .i64 y6, .int .i64 y7]
      have hb8 := below_new wr (.cells #[.int .i64 y1, .int .i64 y2, .int .i64 y3, .int .i64 y4, .int .i64 y5, .int .i64 y6, .int .i64 y7] 34)
      rw [hw8, hg8] at hk8
      rw [hw8] at hb8
      have K8 := Lib.hid hk8
      have M8 := Lib.hid (hm.below hb8 hm.lt)
      have B8 := Lib.hid (below_trans hbel hbel.size hb8)
      have HBg := Lib.hid (show g8 ≠ b by have := hm.lt; omega)
      obtain ⟨z0, z1, z2, z3, z4, z5, z6⟩ := blk7n hk8
      clear hk8 hb8 hm hbel
      go_wp2_with fail
      with_reducible refine Calls.mono (keyOf_any _ _ _ _ _ _ _ _) ?_
      rintro r w9 ⟨rfl, hb9⟩
      obtain ⟨w10, hw10⟩ : ∃ w10, w9.alloc (.cells #[.int .i64 y2, .int .i64 y3, .int .i64 y4] 85) = w10 := ⟨_, rfl⟩
      obtain ⟨g10, hg10⟩ : ∃ g10, w9.heap.size = g10 := ⟨_, rfl⟩
      have hk10 := Blk.new w9 85 #[.int .i64 y2, .int .i64 y3, .int .i64 y4]
      have hb10 := below_new w9 (.cells #[.int .i64 y2, .int .i64 y3, .int .i64 y4] 85)
      rw [hw10, hg10] at hk10
      rw [hw10] at hb10
      have hb9' := below_trans B8.out B8.out.size hb9
      have K10 := Lib.hid hk10
      have H10 := Lib.hid ((K8.out.below hb9 K8.out.lt).below hb10 (Nat.lt_of_lt_of_le K8.out.lt hb9.size))
      have M10 := Lib.hid ((M8.out.below hb9 M8.out.lt).below hb10 (Nat.lt_of_lt_of_le M8.out.lt hb9.size))
      have B10 := Lib.hid (below_trans hb9' hb9'.size hb10)
      obtain ⟨q0, q1, q2⟩ := blk3n hk10
      clear hk10 hb10 hb9 hb9' z0 z1 z2 z3 z4 z5 z6
      go_wp2_with fail
      with_reducible refine Calls.mono (GetNil _ _ _ _) ?_
      rintro r w11 ⟨⟨u1, u2, u3, u4, u5, u6, u7, Aa, nl, ca, Ab, nm, cb, rfl⟩, hb11⟩
      obtain ⟨w12, hw12⟩ : ∃ w12, w11.alloc (.cells #[.int .i64 u1, .int .i64 u2, .int .i64 u3, .int .i64 u4, .int .i64 u5, .int .i64 u6, .int .i64 u7, .slice Aa nl ca, .slice Ab nm cb] 38) = w12 := ⟨_, rfl⟩
      have hb12 := below_new w11 (.cells #[.int .i64 u1, .int .i64 u2, .int .i64 u3, .int .i64 u4, .int .i64 u5, .int .i64 u6, .int .i64 u7, .slice Aa nl ca, .slice Ab nm cb] 38)
      rw [hw12] at hb12
      have hb12' : Below w10.heap.size w10 w12 := below_trans hb11 hb11.size hb12
      have K12 := Lib.hid (K10.out.below hb12' K10.out.lt)
      have H12 := Lib.hid (H10.out.below hb12' H10.out.lt)
      have hm12 := M10.out.below hb12' M10.out.lt
      have M12 := Lib.hid hm12
      have B12 := Lib.hid (below_trans B10.out B10.out.size hb12')
      have hl := hm12.look_run keyK3 Try.underlying101 (zeroI13 _) ⟨y2, y3, y4⟩ true
      simp only [if_true, K3.enc, getL, Option.getD, Option.isSome] at hl
      obtain ⟨q0, q1, q2⟩ := blk3n K12.out
      obtain ⟨z0, z1, z2, z3, z4, z5, z6⟩ := blk7n H12.out
      clear hb11 hb12 hb12' hm12
      go_wp2_with (first
        | (at_mapUpdate; (refine wpList_update_st _ (by rfl) _ _ _ 101 (by rfl) 85 3 keyK3 Try.underlying101 (by rfl) M12.out ⟨y2, y3, y4⟩ (by rfl) (.int .i64 0) (by rfl) ?_); intro w13 hm13 hg13 hs13; have hb13 : Below w.heap.size w w13 := B12.out.grown hg13 B12.out.size (fun k e => by injection e with e; omega); have H13 := Lib.hid (H12.out.grown hg13 (fun e => HBg.out (by injection e))); have B13 := Lib.hid hb13; clear hm13 hg13 hs13 hb13; obtain ⟨s0, s1, s2, s3, s4, s5, s6⟩ := blk7n H13.out)
        | (at_builtin; (refine app_row Hd.cells (fun _ => rfl) (by decide) (bytes := 56) (by decide) infoHd13 rfl Try.underlying27 onesHd13 (by rfl) _ _ (by rfl) w.heap.size _ [] (by rfl) (OwnR.nil _ _) w13.heap.size ⟨y1, y2, y3, y4, y5, y6, y7⟩ (by rfl) (Blk.new _ _ _) (by simp) (by have := B13.out.size; simp; omega) ?_); intro v14 w14 hown14 hg14 hor14; have O14 := Lib.hid hown14; have B14 := Lib.hid (show Below w.heap.size w w14 from (B13.out.alloc B13.out.size _).grown hg14 (by have := B13.out.size; simp; omega) (fun m e => by cases e)); clear hown14 hg14 hor14)
        | fail)
      go_roundw
      case measure => simp [intOf]
      case rel => exact ⟨.inr ⟨rfl, O14.out⟩, B14.out⟩
    · obtain ⟨A5, c5, hv5⟩ := hown.shape
      subst hv5
      have O5 := Lib.hid hown
      have B5 := Lib.hid hbel
      clear hown hbel
      go_wp2
      go_ret
      exact ⟨⟨_, rfl, O5.out⟩, B5.out⟩

end Go.Proofs.Ytpnbibokddhheaa

/-
  Layer 13: what a database lacks of heads: the program's way.
-/
namespace Go.Proofs.Ytpnbibokddhheaa
open Go.RowKit Go.Sort

set_option maxHeartbeats 8000000 in
set_option maxRecDepth 100000 in
theorem Lacks_any (p bd : Nat) (room : Int) (M : List Lsa) (A : Option Addr) (c : Nat) (hs : List Hd) (w : World) (B : Nat) (hdb : DbAt w p bd room M) (hag : ages13 M) (hR : RowsAt 7 Hd.cells w B A hs) (hB : B ≤ w.heap.size) (hm : hs.length ≤ 2 ^ 20) (hha : agesH hs) (nn : Nat) (hnn : nn = hs.length) :
    Calls Try.prog 23 #[.pointer (some ⟨p, 0, none⟩), .slice A nn c] w fun r w' => (∃ v, r = .returned v ∧ OwnR 34 7 Hd.cells w' w.heap.size v (lackAll M hs)) ∧ Below w.heap.size w w' := by
  subst hnn
  have HDb := Lib.hid hdb
  have HAg := Lib.hid hag
  have HR := Lib.hid hR
  have HHa := Lib.hid hha
  have hm' : (hs.length : Int) ≤ 9223372036854775807 := by omega
  obtain ⟨b, hb⟩ : ∃ b, w.heap.size = b := ⟨_, rfl⟩
  have Hbw := Lib.hid (show b = w.heap.size from hb.symm)
  have hmm := @run_makeMap Try.prog
  have HM0 := Lib.hid (MapAt.new (enc := K3.enc) w)
  clear hdb hag hR hha
  go_enter Try.func23, Try.ntmps23
  go_wp2
  clear hmm hb
  go_loopw [5, 17] (fun v i wr => ∃ (k : Nat) (S : List (K3 × Value)), i = .int .i64 k ∧ k ≤ hs.length ∧ OwnR 34 7 Hd.cells wr (w.heap.size + 1) v (lackAll M (hs.take k)) ∧ MapAt K3.enc wr b S ∧ AtIs S (lackAll M (hs.take k)) ∧ Below w.heap.size w wr) (fun _ i _ => hs.length - (intOf i).toNat)
  case atStart => exact ⟨0, [], rfl, Nat.zero_le _, OwnR.nil _ _, by rw [Hbw.out]; exact HM0.out, AtIs.nil, (Below.refl _ _).alloc (Nat.le_refl _) _⟩
  case round =>
    obtain ⟨k, S, rfl, hk, hown, hmap, hat, hbel⟩ := hrel
    obtain ⟨A7, c7, hv7⟩ := hown.shape
    subst hv7
    by_cases hlt : k < hs.length
    · obtain ⟨g, o, hA, -, x0, x1, x2, x3, x4, x5, x6⟩ := row_hd7 (HR.out.below (hbel.mono hB)) k hlt
      have hya := HHa.out hs[k] (List.getElem_mem hlt)
      have hkl : (k : Int) < (hs.length : Int) := by omega
      have hmore := lack_more M hlt
      have hta : agesH (hs.take k) := fun x hx => HHa.out x (List.mem_of_mem_take hx)
      have hoa := lack_ages (M := M) hta
      have hol : (lackAll M (hs.take k)).length ≤ 2 ^ 20 := Nat.le_trans (lack_len hta) (by rw [List.length_take]; omega)
      have HA := Lib.hid hA
      rw [hA]
      have Hlt := Lib.hid hlt
      generalize hs[k] = x at *
      obtain ⟨y1, y2, y3, y4, y5, y6, y7⟩ := x
      simp only at x0 x1 x2 x3 x4 x5 x6 hya
      obtain ⟨O, hO⟩ : ∃ O, lackAll M (hs.take k) = O := ⟨_, rfl⟩
      rw [hO] at hown hat hmore hoa hol ⊢
      have Hmore := Lib.hid hmore
      have HOa := Lib.hid hoa
      have HOl := Lib.hid hol
      have HAt := Lib.hid hat
      have Hya := Lib.hid hya
      obtain ⟨w8, hw8⟩ : ∃ w8, wr.alloc (.cells #[.int .i64 y1, .int .i64 y2, .int .i64 y3, .int .i64 y4, .int .i64 y5, .int .i64 y6, .int .i64 y7] 34) = w8 := ⟨_, rfl⟩
      obtain ⟨g8, hg8⟩ : ∃ g8, wr.heap.size = g8 := ⟨_, rfl⟩
      have hk8 := Blk.new wr 34 #[.int .i64 y1, .int .i64 y2, .int .i64 y3, .int .i64 y4, .int .i64 y5, .int .i64 y6, .int .i64 y7]
      have hb8 := below_new wr (.cells #[.int .i64 y1, .int .i64 y2, .int .i64 y3, .int .i64 y4, .int .i64 y5, .int .i64 y6, .int .i64 y7] 34)
      rw [hw8, hg8] at hk8
      rw [hw8] at hb8
      have K8 := Lib.hid hk8
      have O8 := Lib.hid (hown.below hb8)
      have M8 := Lib.hid (hmap.below hb8 hmap.lt)
      have B8 := Lib.hid (below_trans hbel hbel.size hb8)
      have HBg := Lib.hid (show g8 ≠ b by have := hmap.lt; omega)
      obtain ⟨z0, z1, z2, z3, z4, z5, z6⟩ := blk7n hk8
      clear hk8 hb8 hmap hbel hown hat hmore hoa hol hta hya hA hlt hO hk
      go_wp2_with fail
      with_reducible refine Calls.mono (keyOf_any _ _ _ _ _ _ _ _) ?_
      rintro r w9 ⟨rfl, hb9⟩
      obtain ⟨w10, hw10⟩ : ∃ w10, w9.alloc (.cells #[.int .i64 y2, .int .i64 y3, .int .i64 y4] 85) = w10 := ⟨_, rfl⟩
      obtain ⟨g10, hg10⟩ : ∃ g10, w9.heap.size = g10 := ⟨_, rfl⟩
      have hk10 := Blk.new w9 85 #[.int .i64 y2, .int .i64 y3, .int .i64 y4]
      have hb10 := below_new w9 (.cells #[.int .i64 y2, .int .i64 y3, .int .i64 y4] 85)
      rw [hw10, hg10] at hk10
      rw [hw10] at hb10
      have hb910 := below_trans hb9 hb9.size hb10
      have K10 := Lib.hid hk10
      have H10 := Lib.hid (K8.out.below hb910 K8.out.lt)
      have O10 := Lib.hid (O8.out.below hb910)
      have M10 := Lib.hid (M8.out.below hb910 M8.out.lt)
      have B10 := Lib.hid (below_trans B8.out B8.out.size hb910)
      obtain ⟨q0, q1, q2⟩ := blk3n hk10
      obtain ⟨u, hu⟩ : ∃ u, (getX ⟨y2, y3, y4⟩ M).getD zeroX = u := ⟨_, rfl⟩
      obtain ⟨is, his⟩ : ∃ is, (getX ⟨y2, y3, y4⟩ M).isSome = is := ⟨_, rfl⟩
      obtain ⟨⟨u1, u2, u3, u4, u5, u6, u7⟩, xa, xc, xs, va, vc, vs⟩ := u
      obtain ⟨ul, hul⟩ : ∃ ul, ul = xs.length := ⟨_, rfl⟩
      obtain ⟨um, hum⟩ : ∃ um, um = vs.length := ⟨_, rfl⟩
      have HG := Lib.hid (DbGet p bd room M y2 y3 y4 w10 (HDb.out.keep B10.out) hu his ul um hul hum)
      have Hu := Lib.hid hu
      have His := Lib.hid his
      clear hk10 hb10 hb9 hb910 z0 z1 z2 z3 z4 z5 z6 hu his hul hum
      go_wp2_with fail
      with_reducible refine Calls.mono HG.out ?_
      rintro r w11 ⟨Aa, ca, Ab, cb, rfl, -, -, hb11⟩
      obtain ⟨w12, hw12⟩ : ∃ w12, w11.alloc (.cells #[.int .i64 u1, .int .i64 u2, .int .i64 u3, .int .i64 u4, .int .i64 u5, .int .i64 u6, .int .i64 u7, .slice Aa ul ca, .slice Ab um cb] 38) = w12 := ⟨_, rfl⟩
      obtain ⟨g12, hg12⟩ : ∃ g12, w11.heap.size = g12 := ⟨_, rfl⟩
      have hk12 := Blk.new w11 38 #[.int .i64 u1, .int .i64 u2, .int .i64 u3, .int .i64 u4, .int .i64 u5, .int .i64 u6, .int .i64 u7, .slice Aa ul ca, .slice Ab um cb]
      have hb12 := below_new w11 (.cells #[.int .i64 u1, .int .i64 u2, .int .i64 u3, .int .i64 u4, .int .i64 u5, .int .i64 u6, .int .i64 u7, .slice Aa ul ca, .slice Ab um cb] 38)
      rw [hw12, hg12] at hk12
      rw [hw12] at hb12
      have hb12' : Below w10.heap.size w10 w12 := below_trans hb11 hb11.size hb12
      have K12 := Lib.hid (K10.out.below hb12' K10.out.lt)
      have H12 := Lib.hid (H10.out.below hb12' H10.out.lt)
      have O12 := Lib.hid (O10.out.below hb12')
      have M12 := Lib.hid (M10.out.below hb12' M10.out.lt)
      have B12 := Lib.hid (below_trans B10.out B10.out.size hb12')
      obtain ⟨a0, a1, a2, a3, a4, a5, a6, a7, a8, af⟩ := blk9 hk12
      clear hb11 hb12 hb12' hk12 q0 q1 q2
      cases is with
      | false =>
        have hno : ¬ hasIt M ⟨y1, y2, y3, y4, y5, y6, y7⟩ = true := by
          have := His.out
          unfold hasIt
          cases hg : getX (keyH ⟨y1, y2, y3, y4, y5, y6, y7⟩) M with
          | none => simp
          | some a => rw [show getX ⟨y2, y3, y4⟩ M = some a from hg] at this; cases this
        have HNo := Lib.hid hno
        clear hno a0 a1 a2 a3 a4 a5 a6 a7 a8 af
        obtain ⟨WB, hWB⟩ : ∃ WB, WB = w12 := ⟨_, rfl⟩
        subst hWB
        have KB := K12
        have HB := H12
        have OB := O12
        have MB := M12
        have BB := B12
        have hl0 := MB.out.look_run keyK3 Try.underlying101 (zeroI13 _) ⟨y2, y3, y4⟩ true
        rw [HAt.out ⟨y2, y3, y4⟩] at hl0
        obtain ⟨q0, q1, q2⟩ := blk3n KB.out
        obtain ⟨z0, z1, z2, z3, z4, z5, z6⟩ := blk7n HB.out
        rcases placeH_get (k := ⟨y2, y3, y4⟩) (L := O) with ⟨h1, h2⟩ | ⟨j, hj, h1, h2, h3, h4⟩
        · have hput : lackStep M O ⟨y1, y2, y3, y4, y5, y6, y7⟩ = O ++ [⟨y1, y2, y3, y4, y5, y6, y7⟩] := by
            unfold lackStep putIt; rw [if_neg HNo.out, show getH (keyH ⟨y1, y2, y3, y4, y5, y6, y7⟩) O = none from h2]
          simp only [if_true, K3.enc, if_pos h1, Option.getD, Option.isSome] at hl0
          have HP := Lib.hid hput
          have H1 := Lib.hid h1
          clear hput h1 h2
          go_wp2_with (first
            | (at_mapUpdate; (refine wpList_update_st _ (by rfl) _ _ _ 101 (by rfl) 85 3 keyK3 Try.underlying101 (by rfl) MB.out ⟨y2, y3, y4⟩ (by rfl) (.int .i64 O.length) (by rfl) ?_); intro w13 hm13 hg13 hs13; have M13 := Lib.hid hm13; have O13 := Lib.hid (OB.out.kept hg13 (.inr (fun e => by have := (OB.out.block _ e).1; have := Hbw.out; omega))); have hb13 : Below w.heap.size w w13 := BB.out.grown hg13 BB.out.size (fun k e => by injection e with e; have := Hbw.out; omega); have H13 := Lib.hid (HB.out.grown hg13 (fun e => HBg.out (by injection e))); have B13 := Lib.hid hb13; clear hm13 hg13 hs13 hb13; obtain ⟨s0, s1, s2, s3, s4, s5, s6⟩ := blk7n H13.out)
            | (at_builtin; (refine app_row Hd.cells (fun _ => rfl) (by decide) (bytes := 56) (by decide) infoHd13 rfl Try.underlying27 onesHd13 (by rfl) _ _ (by rfl) (w.heap.size + 1) _ O (by rfl) (O13.out.alloc _) w13.heap.size ⟨y1, y2, y3, y4, y5, y6, y7⟩ (by rfl) (Blk.new _ _ _) (by have := HOl.out; omega) (by have := M13.out.lt; have := Hbw.out; simp; omega) ?_); intro v14 w14 hown14 hg14 hor14; have O14 := Lib.hid hown14; have M14 := Lib.hid ((M13.out.alloc _).grown hg14 (fun e => by have := (O13.out.block _ e.symm).1; have := Hbw.out; omega)); have B14 := Lib.hid (show Below w.heap.size w w14 from (B13.out.alloc B13.out.size _).grown hg14 (by have := B13.out.size; simp; omega) (fun m e => by have := (O13.out.block _ e).1; omega)); clear hown14 hg14 hor14)
            | fail)
          go_roundw
          case measure => have := Hlt.out; simp only [intOf]; omega
          case rel => exact ⟨k + 1, _, by go_num, Hlt.out, by rw [Hmore.out, HP.out]; exact O14.out, M14.out, by rw [Hmore.out, HP.out]; exact HAt.out.snoc ⟨y1, y2, y3, y4, y5, y6, y7⟩ H1.out, B14.out⟩
        · have hj0 : ¬ (j : Int) < 0 := by omega
          have hjl : (j : Int) < (O.length : Int) := by omega
          simp only [if_true, K3.enc, h1, if_neg hj0, Option.getD, Option.isSome] at hl0
          have hput : lackStep M O ⟨y1, y2, y3, y4, y5, y6, y7⟩ = if 0 < newerI ⟨y1, y2, y3, y4, y5, y6, y7⟩ O[j] then O.set j ⟨y1, y2, y3, y4, y5, y6, y7⟩ else O := by
            unfold lackStep putIt; rw [if_neg HNo.out, show getH (keyH ⟨y1, y2, y3, y4, y5, y6, y7⟩) O = some O[j] from h2, h4 ⟨y1, y2, y3, y4, y5, y6, y7⟩ rfl]
          have hoa := HOa.out O[j] (List.getElem_mem hj)
          obtain ⟨g7, c8, hv, e0, e1, e2, e3, e4, e5, e6⟩ := row_own7 OB.out j hj
          injection hv with hA hnn hcc
          subst hA hcc
          have Hj := Lib.hid hj
          have Hkj := Lib.hid h3
          generalize hx : O[j] = x at hput hoa e0 e1 e2 e3 e4 e5 e6
          obtain ⟨x1, x2, x3, x4, x5, x6, x7⟩ := x
          simp only at e0 e1 e2 e3 e4 e5 e6 hoa
          obtain ⟨m2, hm2⟩ : ∃ m, newerI ⟨y1, y2, y3, y4, y5, y6, y7⟩ ⟨x1, x2, x3, x4, x5, x6, x7⟩ = m := ⟨_, rfl⟩
          rw [hm2] at hput
          have HP := Lib.hid hput
          have CN := Lib.hid (fun dd os => Calls.regrown_of (w := WB) (d := dd) (os := os) (newer_any y1 y2 y3 y4 y5 y6 y7 x1 x2 x3 x4 x5 x6 x7 _ Hya.out.1 Hya.out.2 hoa.1 hoa.2 hm2))
          clear hput h1 h2 h3 h4 hx hm2 hoa hnn
          go_upto_region 13 with fail
          have z0 := cell_regrown z0
          have z1 := cell_regrown z1
          have z2 := cell_regrown z2
          have z3 := cell_regrown z3
          have z4 := cell_regrown z4
          have z5 := cell_regrown z5
          have z6 := cell_regrown z6
          have e0 := cell_regrown e0
          have e1 := cell_regrown e1
          have e2 := cell_regrown e2
          have e3 := cell_regrown e3
          have e4 := cell_regrown e4
          have e5 := cell_regrown e5
          have e6 := cell_regrown e6
          refine wp_below_tail 6 (by kernel_rfl) (by kernel_rfl) ?_
          simp only [List.take_succ_cons, List.take_zero, List.drop_succ_cons, List.drop_zero]
          repeat (go_big_quiet_step (exact CN.out _ _))
          refine wpQuiet_nil ?_
          rintro w15 ⟨⟨dq, osq⟩, rfl⟩
          have hb15 := below_regrown WB dq osq
          generalize grow (redrawn WB dq) osq = w15 at *
          have O15 := Lib.hid (OB.out.below hb15)
          have M15 := Lib.hid (MB.out.below hb15 MB.out.lt)
          have B15 := Lib.hid (below_trans BB.out BB.out.size hb15)
          have H15 := Lib.hid (HB.out.below hb15 HB.out.lt)
          clear hb15 z0 z1 z2 z3 z4 z5 z6 e0 e1 e2 e3 e4 e5 e6 q0 q1 q2 hl0 CN
          by_cases hm1 : 0 < m2
          · rw [if_pos hm1] at HP
            have hm1' : m2 > 0 := hm1
            have hfz := fun i => OwnH13.frozen O15.out i
            obtain ⟨z0, z1, z2, z3, z4, z5, z6⟩ := blk7n H15.out
            obtain ⟨g9, c9, hv9, e0, e1, e2, e3, e4, e5, e6⟩ := row_own7 O15.out j Hj.out
            injection hv9 with hA9 hnn9 hcc9
            injection hA9 with hA9
            injection hA9 with hA9
            subst hA9 hcc9
            go_wp2
            go_roundw
            case measure => have := Hlt.out; simp only [intOf]; omega
            case rel => exact ⟨k + 1, _, by go_num, Hlt.out, by rw [Hmore.out, HP.out, show O.length = (O.set j ⟨y1, y2, y3, y4, y5, y6, y7⟩).length by simp]; exact OwnH13.set7 (by simpa using O15.out) (by simp) j Hj.out ⟨y1, y2, y3, y4, y5, y6, y7⟩, M15.out.grown (grown7 _ _ _ _ _ _ _ _ _ _) (fun e => by injection e with e; have := (O15.out.block g7 rfl).1; have := Hbw.out; omega), by rw [Hmore.out, HP.out]; exact HAt.out.set ⟨y1, y2, y3, y4, y5, y6, y7⟩ j Hj.out Hkj.out, below_set7k B15.out (by have := (O15.out.block g7 rfl).1; have := Hbw.out; omega) _ _ _ _ _ _ _ _⟩
          · rw [if_neg hm1] at HP
            have hm1' : ¬ m2 > 0 := hm1
            go_wp2
            go_roundw
            case measure => have := Hlt.out; simp only [intOf]; omega
            case rel => exact ⟨k + 1, _, by go_num, Hlt.out, by rw [Hmore.out, HP.out]; exact O15.out, M15.out, by rw [Hmore.out, HP.out]; exact HAt.out, B15.out⟩
      | true =>
        obtain ⟨m, hm1⟩ : ∃ m, newerI ⟨y1, y2, y3, y4, y5, y6, y7⟩ ⟨u1, u2, u3, u4, u5, u6, u7⟩ = m := ⟨_, rfl⟩
        have hgx : getX (keyH ⟨y1, y2, y3, y4, y5, y6, y7⟩) M = some ⟨⟨u1, u2, u3, u4, u5, u6, u7⟩, xa, xc, xs, va, vc, vs⟩ := by
          have h1 := His.out
          have h2 := Hu.out
          cases hg : getX ⟨y2, y3, y4⟩ M with
          | none => rw [hg] at h1; cases h1
          | some a => rw [hg] at h2; rw [show getX (keyH ⟨y1, y2, y3, y4, y5, y6, y7⟩) M = some a from hg]; exact congrArg some h2
        have hua := HAg.out _ (getX_mem hgx).1
        simp only at hua
        have hhas : hasIt M ⟨y1, y2, y3, y4, y5, y6, y7⟩ = decide (m ≤ 0) := by
          unfold hasIt
          rw [hgx]
          simp only
          rw [hm1]
        obtain ⟨z0, z1, z2, z3, z4, z5, z6⟩ := blk7n H12.out
        have HN := Lib.hid (newer_any y1 y2 y3 y4 y5 y6 y7 u1 u2 u3 u4 u5 u6 u7 w12 Hya.out.1 Hya.out.2 hua.1 hua.2 hm1)
        have Hhas := Lib.hid hhas
        clear hgx hua hhas hm1
        go_wp2_with fail
        with_reducible refine Calls.mono HN.out ?_
        rintro r WB ⟨rfl, hb13⟩
        have KB := Lib.hid (K12.out.below hb13 K12.out.lt)
        have HB := Lib.hid (H12.out.below hb13 H12.out.lt)
        have OB := Lib.hid (O12.out.below hb13)
        have MB := Lib.hid (M12.out.below hb13 M12.out.lt)
        have BB := Lib.hid (below_trans B12.out B12.out.size hb13)
        clear hb13 a0 a1 a2 a3 a4 a5 a6 a7 a8 af z0 z1 z2 z3 z4 z5 z6
        by_cases hm0 : m ≤ 0
        · have HP := Lib.hid (show lackStep M O ⟨y1, y2, y3, y4, y5, y6, y7⟩ = O by unfold lackStep; rw [if_pos (by rw [Hhas.out]; exact decide_eq_true hm0)])
          go_wp2
          go_roundw
          case measure => have := Hlt.out; simp only [intOf]; omega
          case rel => exact ⟨k + 1, _, by go_num, Hlt.out, by rw [Hmore.out, HP.out]; exact OB.out, MB.out, by rw [Hmore.out, HP.out]; exact HAt.out, BB.out⟩
        · have HNo := Lib.hid (show ¬ hasIt M ⟨y1, y2, y3, y4, y5, y6, y7⟩ = true by rw [Hhas.out]; simpa using hm0)
          have hl0 := MB.out.look_run keyK3 Try.underlying101 (zeroI13 _) ⟨y2, y3, y4⟩ true
          rw [HAt.out ⟨y2, y3, y4⟩] at hl0
          obtain ⟨q0, q1, q2⟩ := blk3n KB.out
          obtain ⟨z0, z1, z2, z3, z4, z5, z6⟩ := blk7n HB.out
          rcases placeH_get (k := ⟨y2, y3, y4⟩) (L := O) with ⟨h1, h2⟩ | ⟨j, hj, h1, h2, h3, h4⟩
          · have hput : lackStep M O ⟨y1, y2, y3, y4, y5, y6, y7⟩ = O ++ [⟨y1, y2, y3, y4, y5, y6, y7⟩] := by
              unfold lackStep putIt; rw [if_neg HNo.out, show getH (keyH ⟨y1, y2, y3, y4, y5, y6, y7⟩) O = none from h2]
            simp only [if_true, K3.enc, if_pos h1, Option.getD, Option.isSome] at hl0
            have HP := Lib.hid hput
            have H1 := Lib.hid h1
            clear hput h1 h2
            go_wp2_with (first
              | (at_mapUpdate; (refine wpList_update_st _ (by rfl) _ _ _ 101 (by rfl) 85 3 keyK3 Try.underlying101 (by rfl) MB.out ⟨y2, y3, y4⟩ (by rfl) (.int .i64 O.length) (by rfl) ?_); intro w13 hm13 hg13 hs13; have M13 := Lib.hid hm13; have O13 := Lib.hid (OB.out.kept hg13 (.inr (fun e => by have := (OB.out.block _ e).1; have := Hbw.out; omega))); have hb13 : Below w.heap.size w w13 := BB.out.grown hg13 BB.out.size (fun k e => by injection e with e; have := Hbw.out; omega); have H13 := Lib.hid (HB.out.grown hg13 (fun e => HBg.out (by injection e))); have B13 := Lib.hid hb13; clear hm13 hg13 hs13 hb13; obtain ⟨s0, s1, s2, s3, s4, s5, s6⟩ := blk7n H13.out)
              | (at_builtin; (refine app_row Hd.cells (fun _ => rfl) (by decide) (bytes := 56) (by decide) infoHd13 rfl Try.underlying27 onesHd13 (by rfl) _ _ (by rfl) (w.heap.size + 1) _ O (by rfl) (O13.out.alloc _) w13.heap.size ⟨y1, y2, y3, y4, y5, y6, y7⟩ (by rfl) (Blk.new _ _ _) (by have := HOl.out; omega) (by have := M13.out.lt; have := Hbw.out; simp; omega) ?_); intro v14 w14 hown14 hg14 hor14; have O14 := Lib.hid hown14; have M14 := Lib.hid ((M13.out.alloc _).grown hg14 (fun e => by have := (O13.out.block _ e.symm).1; have := Hbw.out; omega)); have B14 := Lib.hid (show Below w.heap.size w w14 from (B13.out.alloc B13.out.size _).grown hg14 (by have := B13.out.size; simp; omega) (fun m e => by have := (O13.out.block _ e).1; omega)); clear hown14 hg14 hor14)
              | fail)
            go_roundw
            case measure => have := Hlt.out; simp only [intOf]; omega
            case rel => exact ⟨k + 1, _, by go_num, Hlt.out, by rw [Hmore.out, HP.out]; exact O14.out, M14.out, by rw [Hmore.out, HP.out]; exact HAt.out.snoc ⟨y1, y2, y3, y4, y5, y6, y7⟩ H1.out, B14.out⟩
          · have hj0 : ¬ (j : Int) < 0 := by omega
            have hjl : (j : Int) < (O.length : Int) := by omega
            simp only [if_true, K3.enc, h1, if_neg hj0, Option.getD, Option.isSome] at hl0
            have hput : lackStep M O ⟨y1, y2, y3, y4, y5, y6, y7⟩ = if 0 < newerI ⟨y1, y2, y3, y4, y5, y6, y7⟩ O[j] then O.set j ⟨y1, y2, y3, y4, y5, y6, y7⟩ else O := by
              unfold lackStep putIt; rw [if_neg HNo.out, show getH (keyH ⟨y1, y2, y3, y4, y5, y6, y7⟩) O = some O[j] from h2, h4 ⟨y1, y2, y3, y4, y5, y6, y7⟩ rfl]
            have hoa := HOa.out O[j] (List.getElem_mem hj)
            obtain ⟨g7, c8, hv, e0, e1, e2, e3, e4, e5, e6⟩ := row_own7 OB.out j hj
            injection hv with hA hnn hcc
            subst hA hcc
            have Hj := Lib.hid hj
            have Hkj := Lib.hid h3
            generalize hx : O[j] = x at hput hoa e0 e1 e2 e3 e4 e5 e6
            obtain ⟨x1, x2, x3, x4, x5, x6, x7⟩ := x
            simp only at e0 e1 e2 e3 e4 e5 e6 hoa
            obtain ⟨m2, hm2⟩ : ∃ m, newerI ⟨y1, y2, y3, y4, y5, y6, y7⟩ ⟨x1, x2, x3, x4, x5, x6, x7⟩ = m := ⟨_, rfl⟩
            rw [hm2] at hput
            have HP := Lib.hid hput
            have CN := Lib.hid (fun dd os => Calls.regrown_of (w := WB) (d := dd) (os := os) (newer_any y1 y2 y3 y4 y5 y6 y7 x1 x2 x3 x4 x5 x6 x7 _ Hya.out.1 Hya.out.2 hoa.1 hoa.2 hm2))
            clear hput h1 h2 h3 h4 hx hm2 hoa hnn
            go_upto_region 13 with fail
            have z0 := cell_regrown z0
            have z1 := cell_regrown z1
            have z2 := cell_regrown z2
            have z3 := cell_regrown z3
            have z4 := cell_regrown z4
            have z5 := cell_regrown z5
            have z6 := cell_regrown z6
            have e0 := cell_regrown e0
            have e1 := cell_regrown e1
            have e2 := cell_regrown e2
            have e3 := cell_regrown e3
            have e4 := cell_regrown e4
            have e5 := cell_regrown e5
            have e6 := cell_regrown e6
            refine wp_below_tail 6 (by kernel_rfl) (by kernel_rfl) ?_
            simp only [List.take_succ_cons, List.take_zero, List.drop_succ_cons, List.drop_zero]
            repeat (go_big_quiet_step (exact CN.out _ _))
            refine wpQuiet_nil ?_
            rintro w15 ⟨⟨dq, osq⟩, rfl⟩
            have hb15 := below_regrown WB dq osq
            generalize grow (redrawn WB dq) osq = w15 at *
            have O15 := Lib.hid (OB.out.below hb15)
            have M15 := Lib.hid (MB.out.below hb15 MB.out.lt)
            have B15 := Lib.hid (below_trans BB.out BB.out.size hb15)
            have H15 := Lib.hid (HB.out.below hb15 HB.out.lt)
            clear hb15 z0 z1 z2 z3 z4 z5 z6 e0 e1 e2 e3 e4 e5 e6 q0 q1 q2 hl0 CN
            by_cases hm1 : 0 < m2
            · rw [if_pos hm1] at HP
              have hm1' : m2 > 0 := hm1
              have hfz := fun i => OwnH13.frozen O15.out i
              obtain ⟨z0, z1, z2, z3, z4, z5, z6⟩ := blk7n H15.out
              obtain ⟨g9, c9, hv9, e0, e1, e2, e3, e4, e5, e6⟩ := row_own7 O15.out j Hj.out
              injection hv9 with hA9 hnn9 hcc9
              injection hA9 with hA9
              injection hA9 with hA9
              subst hA9 hcc9
              go_wp2
              go_roundw
              case measure => have := Hlt.out; simp only [intOf]; omega
              case rel => exact ⟨k + 1, _, by go_num, Hlt.out, by rw [Hmore.out, HP.out, show O.length = (O.set j ⟨y1, y2, y3, y4, y5, y6, y7⟩).length by simp]; exact OwnH13.set7 (by simpa using O15.out) (by simp) j Hj.out ⟨y1, y2, y3, y4, y5, y6, y7⟩, M15.out.grown (grown7 _ _ _ _ _ _ _ _ _ _) (fun e => by injection e with e; have := (O15.out.block g7 rfl).1; have := Hbw.out; omega), by rw [Hmore.out, HP.out]; exact HAt.out.set ⟨y1, y2, y3, y4, y5, y6, y7⟩ j Hj.out Hkj.out, below_set7k B15.out (by have := (O15.out.block g7 rfl).1; have := Hbw.out; omega) _ _ _ _ _ _ _ _⟩
            · rw [if_neg hm1] at HP
              have hm1' : ¬ m2 > 0 := hm1
              go_wp2
              go_roundw
              case measure => have := Hlt.out; simp only [intOf]; omega
              case rel => exact ⟨k + 1, _, by go_num, Hlt.out, by rw [Hmore.out, HP.out]; exact O15.out, M15.out, by rw [Hmore.out, HP.out]; exact HAt.out, B15.out⟩
    · have hke : k = hs.length := by omega
      subst hke
      have hkl : ¬ (hs.length : Int) < (hs.length : Int) := by omega
      rw [List.take_length] at hown ⊢
      have O5 := Lib.hid hown
      have B5 := Lib.hid hbel
      clear hown hbel hat hmap hlt
      have hS5 : OwnR 34 7 Hd.cells wr w.heap.size (.slice A7 (lackAll M hs).length c7) (lackAll M hs) := O5.out.lower (by omega)
      have S5 := Lib.hid hS5
      clear hS5
      go_wp2
      go_ret
      exact ⟨⟨_, rfl, S5.out⟩, B5.out⟩

end Go.Proofs.Ytpnbibokddhheaa

/-
  The library's slices.SortFunc, laid at this program: written by lay-plain.mjs of the kit.
-/
namespace Go.Proofs
open Go.Shelf
def Try.sortLsa_ren : Go.Shelf.Ren := ⟨fun | 6 => 53 | 15 => 85 | 14 => 84 | 28 => 109 | 29 => 110 | 20 => 101 | 21 => 102 | 22 => 103 | 23 => 104 | 24 => 105 | 25 => 106 | 26 => 107 | 27 => 108 | 46 => 124 | 47 => 125 | 48 => 126 | 49 => 127 | 50 => 128 | 57 => 140 | n => n, fun | 22 => 22 | 24 => 38 | 25 => 96 | 3 => 3 | 39 => 136 | 0 => 0 | 53 => 157 | 55 => 159 | 4 => 4 | 46 => 151 | 45 => 150 | 50 => 103 | 5 => 5 | 9 => 9 | 66 => 169 | 70 => 173 | 76 => 182 | 77 => 166 | n => n, fun | n => n⟩
theorem Try.sortLsa : Go.Proofs.SlLaysF0.n6 Try.prog Try.sortLsa_ren := {
  mixed := by kernel_rfl
  f6 := ⟨Try.f53.name, by decide, Try.func53.trans (congrArg some (by kernel_rfl))⟩
  f14 := ⟨Try.f84.name, by decide, Try.func84.trans (congrArg some (by kernel_rfl))⟩
  f15 := Try.func85.trans (congrArg some (by kernel_rfl))
  f20 := ⟨Try.f101.name, by decide, Try.func101.trans (congrArg some (by kernel_rfl))⟩
  f21 := ⟨Try.f102.name, by decide, Try.func102.trans (congrArg some (by kernel_rfl))⟩
  f22 := ⟨Try.f103.name, by decide, Try.func103.trans (congrArg some (by kernel_rfl))⟩
  f23 := ⟨Try.f104.name, by decide, Try.func104.trans (congrArg some (by kernel_rfl))⟩
  f24 := ⟨Try.f105.name, by decide, Try.func105.trans (congrArg some (by kernel_rfl))⟩
  f25 := ⟨Try.f106.name, by decide, Try.func106.trans (congrArg some (by kernel_rfl))⟩
  f26 := ⟨Try.f107.name, by decide, Try.func107.trans (congrArg some (by kernel_rfl))⟩
  f27 := ⟨Try.f108.name, by decide, Try.func108.trans (congrArg some (by kernel_rfl))⟩
  f28 := Try.func109.trans (congrArg some (by kernel_rfl))
  f29 := Try.func110.trans (congrArg some (by kernel_rfl))
  f46 := ⟨Try.f124.name, by decide, Try.func124.trans (congrArg some (by kernel_rfl))⟩
  f47 := Try.func125.trans (congrArg some (by kernel_rfl))
  f48 := Try.func126.trans (congrArg some (by kernel_rfl))
  f49 := ⟨Try.f127.name, by decide, Try.func127.trans (congrArg some (by kernel_rfl))⟩
  f50 := ⟨Try.f128.name, by decide, Try.func128.trans (congrArg some (by kernel_rfl))⟩
  f57 := ⟨Try.f140.name, by decide, Try.func140.trans (congrArg some (by kernel_rfl))⟩
  t0 := Try.underlying0
  a0 := Try.isAgg0
  z0 := Try.sizeOf0
  v0 := Try.zeroValue0
  t3 := Try.underlying3
  a3 := Try.isAgg3
  z3 := Try.sizeOf3
  v3 := Try.zeroValue3
  t4 := Try.underlying4
  a4 := Try.isAgg4
  z4 := Try.sizeOf4
  v4 := Try.zeroValue4
  t5 := Try.underlying5
  a5 := Try.isAgg5
  z5 := Try.sizeOf5
  v5 := Try.zeroValue5
  t9 := Try.underlying9
  a9 := Try.isAgg9
  z9 := Try.sizeOf9
  v9 := Try.zeroValue9
  t22 := Try.underlying22
  a22 := Try.isAgg22
  z22 := Try.sizeOf22
  v22 := Try.zeroValue22
  t25 := Try.underlying96
  a25 := Try.isAgg96
  z25 := Try.sizeOf96
  v25 := Try.zeroValue96
  t39 := Try.underlying136
  a39 := Try.isAgg136
  z39 := Try.sizeOf136
  v39 := Try.zeroValue136
  t45 := Try.underlying150
  a45 := Try.isAgg150
  z45 := Try.sizeOf150
  v45 := Try.zeroValue150
  t46 := Try.underlying151
  a46 := Try.isAgg151
  z46 := Try.sizeOf151
  v46 := Try.zeroValue151
  t50 := Try.underlying103
  a50 := Try.isAgg103
  z50 := Try.sizeOf103
  v50 := Try.zeroValue103
  t53 := Try.underlying157
  a53 := Try.isAgg157
  z53 := Try.sizeOf157
  v53 := Try.zeroValue157
  t55 := Try.underlying159
  a55 := Try.isAgg159
  z55 := Try.sizeOf159
  v55 := Try.zeroValue159
  t66 := Try.underlying169
  a66 := Try.isAgg169
  z66 := Try.sizeOf169
  v66 := Try.zeroValue169
  t70 := Try.underlying173
  a70 := Try.isAgg173
  z70 := Try.sizeOf173
  v70 := Try.zeroValue173
  t76 := Try.underlying182
  a76 := Try.isAgg182
  z76 := Try.sizeOf182
  v76 := Try.zeroValue182
  t77 := Try.underlying166
  a77 := Try.isAgg166
  z77 := Try.sizeOf166
  v77 := Try.zeroValue166 }
end Go.Proofs

/-
  Layer 07: how descriptions are compared for their order.
-/
namespace Go.Proofs.Ytpnbibokddhheaa
open Go.RowKit Go.Sort

def cmpX (a b : Lsa) : Int := cmpK (keyX a) (keyX b)
set_option maxHeartbeats 400000 in
theorem keyOf_g7 (h : Hd) (w : World) : Calls Try.prog 47 #[.agg #[.int .i64 h.age, .int .i64 h.kind, .int .i64 h.id, .int .i64 h.adv, .int .i64 h.seq, .int .i64 h.sum, .int .i64 h.long]] w
    fun r w' => r = .returned (.agg #[.int .i64 h.kind, .int .i64 h.id, .int .i64 h.adv]) ∧ ∃ q os', w' = grow (w.drewN q) os' := by
  obtain ⟨a, b, c, d, e, f, g⟩ := h
  go_enter Try.func47, Try.ntmps47
  go_wp2
  refine bodyPost_ret (v := .agg #[.int .i64 b, .int .i64 c, .int .i64 d]) (by simp [results, Try.results47, go_sem]) rfl ⟨rfl, 0, #[.cells #[.int .i64 a, .int .i64 b, .int .i64 c, .int .i64 d, .int .i64 e, .int .i64 f, .int .i64 g] 34, .cells #[.int .i64 b, .int .i64 c, .int .i64 d] 85], ?_⟩
  rw [alloc_eq_grow, alloc_eq_grow, grow_grow]
  rfl
set_option maxHeartbeats 2000000 in
set_option maxRecDepth 100000 in
theorem before_g7 (a1 a2 a3 b1 b2 b3 : Int) (w : World) : Calls Try.prog 55 #[.agg #[.int .i64 a1, .int .i64 a2, .int .i64 a3], .agg #[.int .i64 b1, .int .i64 b2, .int .i64 b3]] w fun r w' => r = .returned (.int .i64 (cmp3 a1 a2 a3 b1 b2 b3)) ∧ ∃ q os', w' = grow (w.drewN q) os' := by
  obtain ⟨w0, hW0⟩ : ∃ w0, (w.alloc (.cells #[.int .i64 a1, .int .i64 a2, .int .i64 a3] 85)).alloc (.cells #[.int .i64 b1, .int .i64 b2, .int .i64 b3] 85) = w0 := ⟨_, rfl⟩
  have hA : Blk w0 w.heap.size 85 #[.int .i64 a1, .int .i64 a2, .int .i64 a3] := by rw [← hW0]; exact (Blk.new w _ _).alloc _
  have hB : Blk w0 (w.heap.size + 1) 85 #[.int .i64 b1, .int .i64 b2, .int .i64 b3] := by
    rw [← hW0]
    have := Blk.new (w.alloc (.cells #[.int .i64 a1, .int .i64 a2, .int .i64 a3] 85)) 85 #[.int .i64 b1, .int .i64 b2, .int .i64 b3]
    simpa using this
  have Hg : Hid (∃ os, w0 = grow w os) := Lib.hid ⟨_, by rw [← hW0, alloc_eq_grow, alloc_eq_grow, grow_grow]⟩
  obtain ⟨a_0, a_1, a_2⟩ : _ ∧ _ ∧ _ := ⟨hA.cell 0, hA.cell 1, hA.cell 2⟩
  obtain ⟨b_0, b_1, b_2⟩ : _ ∧ _ ∧ _ := ⟨hB.cell 0, hB.cell 1, hB.cell 2⟩
  simp only [List.getElem?_toArray, List.getElem?_cons_zero, List.getElem?_cons_succ] at a_0 a_1 a_2 b_0 b_1 b_2
  clear hA hB
  go_enter Try.func55, Try.ntmps55
  go_wp2_with fail
  refine wp_drew_tail 15 (by kernel_rfl) (by kernel_rfl) ?_
  simp only [List.take_succ_cons, List.take_zero, List.drop_succ_cons, List.drop_zero]
  repeat (go_big_quiet_step (exact cmp_q _ _ _ _))
  refine wpQuiet_nil ?_
  rintro w3 ⟨dq, rfl⟩
  go_wp2_with (go_at_call 73; (with_reducible refine Calls.mono (or3_s _ _ _ _) ?_); rintro r w4 ⟨rfl, rfl⟩)
  go_ret
  obtain ⟨os, hos⟩ := Hg.out
  refine ⟨rfl, dq, os.push (.cells #[.int .i64 (cmpI a1 b1), .int .i64 (cmpI a2 b2), .int .i64 (cmpI a3 b3)] 3), ?_⟩
  subst hos
  simp [grow, World.alloc, World.drewN]
theorem blkX {w : World} {g : Nat} {t : TypeId} {a b c d e f x y z : Value} (h : Blk w g t #[a, b, c, d, e, f, x, y, z]) : (∀ q os, (grow (w.drewN q) os).cell? ⟨g, 0, none⟩ = some a) ∧ (∀ q os, (grow (w.drewN q) os).cell? ⟨g, 1, none⟩ = some b) ∧ (∀ q os, (grow (w.drewN q) os).cell? ⟨g, 2, none⟩ = some c) ∧ (∀ q os, (grow (w.drewN q) os).cell? ⟨g, 3, none⟩ = some d) ∧ (∀ q os, (grow (w.drewN q) os).cell? ⟨g, 4, none⟩ = some e) ∧ (∀ q os, (grow (w.drewN q) os).cell? ⟨g, 5, none⟩ = some f) ∧ (∀ q os, (grow (w.drewN q) os).cell? ⟨g, 6, none⟩ = some x) :=
  ⟨cell_gd (h.cell 0), cell_gd (h.cell 1), cell_gd (h.cell 2), cell_gd (h.cell 3), cell_gd (h.cell 4), cell_gd (h.cell 5), cell_gd (h.cell 6)⟩
set_option maxHeartbeats 2000000 in
set_option maxRecDepth 100000 in
theorem allCmp7_any (a b : Lsa) (w : World) : Calls Try.prog 54 #[.agg (Lsa.cells a).toArray, .agg (Lsa.cells b).toArray] w fun r w' => r = .returned (.int .i64 (cmpX a b)) ∧ ∃ q os', w' = grow (w.drewN q) os' := by
  obtain ⟨⟨a1, a2, a3, a4, a5, a6, a7⟩, ka, kc, ls, ma, mc, ms⟩ := a
  obtain ⟨⟨b1, b2, b3, b4, b5, b6, b7⟩, kb, kd, lt, mb, md, mt⟩ := b
  obtain ⟨n1, hn1⟩ : ∃ n, ls.length = n := ⟨_, rfl⟩
  obtain ⟨n2, hn2⟩ : ∃ n, ms.length = n := ⟨_, rfl⟩
  obtain ⟨n3, hn3⟩ : ∃ n, lt.length = n := ⟨_, rfl⟩
  obtain ⟨n4, hn4⟩ : ∃ n, mt.length = n := ⟨_, rfl⟩
  unfold cmpX cmpK keyX keyH Lsa.cells
  simp only [hn1, hn2, hn3, hn4]
  clear hn1 hn2 hn3 hn4
  obtain ⟨w0, hW0⟩ : ∃ w0, (w.alloc (.cells #[.int .i64 a1, .int .i64 a2, .int .i64 a3, .int .i64 a4, .int .i64 a5, .int .i64 a6, .int .i64 a7, .slice ka n1 kc, .slice ma n2 mc] 38)).alloc (.cells #[.int .i64 b1, .int .i64 b2, .int .i64 b3, .int .i64 b4, .int .i64 b5, .int .i64 b6, .int .i64 b7, .slice kb n3 kd, .slice mb n4 md] 38) = w0 := ⟨_, rfl⟩
  have hA : Blk w0 w.heap.size 38 #[.int .i64 a1, .int .i64 a2, .int .i64 a3, .int .i64 a4, .int .i64 a5, .int .i64 a6, .int .i64 a7, .slice ka n1 kc, .slice ma n2 mc] := by rw [← hW0]; exact (Blk.new w _ _).alloc _
  have hB : Blk w0 (w.heap.size + 1) 38 #[.int .i64 b1, .int .i64 b2, .int .i64 b3, .int .i64 b4, .int .i64 b5, .int .i64 b6, .int .i64 b7, .slice kb n3 kd, .slice mb n4 md] := by rw [← hW0]; exact Blk.size (by simp)
  have Hg : Hid (∃ os, w0 = grow w os) := Lib.hid ⟨_, by rw [← hW0, alloc_eq_grow, alloc_eq_grow, grow_grow]⟩
  obtain ⟨a_0, a_1, a_2, a_3, a_4, a_5, a_6⟩ := blkX hA
  obtain ⟨b_0, b_1, b_2, b_3, b_4, b_5, b_6⟩ := blkX hB
  have CK := Lib.hid (fun h q os => gd_of (w := w0) (q := q) (os := os) (keyOf_g7 h _))
  have CB := Lib.hid (fun x1 x2 x3 y1 y2 y3 q os => gd_of (w := w0) (q := q) (os := os) (before_g7 x1 x2 x3 y1 y2 y3 _))
  clear hA hB
  go_enter Try.func54, Try.ntmps54
  go_wp2_with fail
  refine wp_gd_tail 7 (by kernel_rfl) (by kernel_rfl) ?_
  simp only [List.take_succ_cons, List.take_zero, List.drop_succ_cons, List.drop_zero]
  repeat (go_big_quiet_step (first | exact CK.out ⟨_, _, _, _, _, _, _⟩ _ _ | exact CB.out _ _ _ _ _ _ _ _))
  refine wpQuiet_nil ?_
  rintro w3 ⟨⟨dq, osq⟩, rfl⟩
  go_wp2
  go_ret
  obtain ⟨os, hos⟩ := Hg.out
  refine ⟨rfl, dq, os ++ osq, ?_⟩
  subst hos
  simp [grow, World.drewN, Array.append_assoc]

end Go.Proofs.Ytpnbibokddhheaa

/-
  Layer 07: all descriptions, in order: the program's way.
-/
namespace Go.Proofs.Ytpnbibokddhheaa
open Go.RowKit Go.Sort Go.Proofs

instance : Inhabited Lsa := ⟨zeroX⟩
abbrev OwnX (w : World) (B : Nat) (v : Value) (L : List Lsa) : Prop := OwnR 38 9 Lsa.cells w B v L
theorem ltOf_X : ltOf cmpX = fun a b => lessK (keyX a) (keyX b) := by
  funext a b
  exact cmpK_less _ _
theorem swoX : SWO (ltOf cmpX) := by
  rw [ltOf_X]
  exact { irrefl := fun _ => lessK_irr _, trans := fun _ _ _ h1 h2 => lessK_trans h1 h2, ntrans := fun _ _ _ h1 h2 => lessK_ntrans h1 h2 }
theorem call_allCmp7 (xs : Array Value) (w : World) : (callFunc 54 xs).run Try.prog w = .ok (.enter 54 xs) w := callOf Try.func54 rfl (by kernel_rfl) xs w
theorem sortX_of (v : Value) (M : List Lsa) (B : Nat) (w : World) (hown : OwnX w B v M) (hlen : M.length ≤ 2 ^ 20) (hk : (M.map keyX).Nodup) :
    Calls Try.prog 53 #[v, .func (.func 54) #[] #[]] w fun r w' => r = .returned (.tuple #[]) ∧ (∃ N, OwnX w' B v N ∧ N.Perm M ∧ sortedX N) ∧ w.grownBy w' v.ownBlock := by
  have h := sort_row Try.sortLsa (C := 9) Try.isAgg38 Try.sizeOf38 Lsa.cells (fun _ => rfl) onesX cmpX swoX 54 call_allCmp7 (fun x y w => allCmp7_any x y w) v M B w hown hlen
  change Calls Try.prog 53 _ _ _ at h
  refine h.mono ?_
  rintro r w' ⟨rfl, N, hN, hpN, hsN, hg⟩
  rw [ltOf_X] at hsN
  have hkeys : (N.map keyX).Nodup := (hpN.map keyX).nodup_iff.2 hk
  refine ⟨rfl, ⟨N, hN, hpN, ?_⟩, hg⟩
  unfold sortedX
  rw [List.Nodup, List.pairwise_map] at hkeys
  refine (hsN.and hkeys).imp fun {a b} ⟨h1, h2⟩ => ?_
  cases h3 : lessK (keyX a) (keyX b) with
  | true => rfl
  | false => exact absurd (lessK_tot h3 h1) h2
theorem dbL_split {R : List Lsa} {pre post : List (K3 × Value)} {e : K3 × Value} (h : dbL R = pre ++ e :: post) : ∃ P h' Q, R = P ++ h' :: Q ∧ pre = dbL P ∧ post = dbL Q ∧ e = (keyH h'.head, h'.val) := by
  unfold dbL at h
  obtain ⟨P, q, rfl, h1, h2⟩ := List.map_eq_append_iff.1 h
  obtain ⟨h', Q, rfl, h3, h4⟩ := List.map_eq_cons_iff.1 h2
  exact ⟨P, h', Q, rfl, h1.symm, h4.symm, h3.symm⟩
theorem dbL_append (P Q : List Lsa) : dbL P ++ dbL Q = dbL (P ++ Q) := by simp [dbL]
theorem XsAt.sorted {W W' : World} {B : Nat} {v : Value} {D N : List Lsa} (h : XsAt W B v D) (ho : OwnX W' B v N) (hg : W.grownBy W' v.ownBlock) (hp : N.Perm D) : XsAt W' B v N :=
  ⟨ho, fun x hx => (h.rows x (hp.subset hx)).grown hg (fun a ha => ha.elim (fun e => (h.far x (hp.subset hx)).1 a e.1 e.2) (fun e => (h.far x (hp.subset hx)).2 a e.1 e.2)), fun x hx => h.far x (hp.subset hx), fun x hx => h.from_ x (hp.subset hx), fun x hx => h.lens x (hp.subset hx)⟩
/-- sorted by keys without repeats, what they hold stands fast -/
theorem sortedV_one : ∀ {L M : List VX}, L.Perm M → (L.Pairwise fun x y => lessK (keyV x) (keyV y) = true) → (M.Pairwise fun x y => lessK (keyV x) (keyV y) = true) → L = M
  | [], M, hp, _, _ => (List.nil_perm.1 hp).symm
  | x :: L, [], hp, _, _ => absurd hp.length_eq (by simp)
  | x :: L, y :: M, hp, h1, h2 => by
    rw [List.pairwise_cons] at h1 h2
    have hx : x ∈ y :: M := hp.subset (by simp)
    have hy : y ∈ x :: L := hp.symm.subset (by simp)
    have hxy : x = y := by
      rcases List.mem_cons.1 hx with e | hx
      · exact e
      · rcases List.mem_cons.1 hy with e | hy
        · exact e.symm
        · have a := h1.1 y hy
          have b := h2.1 x hx
          have c := lessK_trans a b
          rw [lessK_irr] at c
          cases c
    subst hxy
    rw [sortedV_one (List.Perm.cons_inv hp) h1.2 h2.2]
theorem sortedX_vX {N L : List Lsa} (hp : (N.map vX).Perm (L.map vX)) (h1 : sortedX N) (h2 : sortedX L) : N.map vX = L.map vX :=
  sortedV_one hp (by rw [List.pairwise_map]; exact h1) (by rw [List.pairwise_map]; exact h2)
/-- all, laid out in order -/
structure AllTo (w w' : World) (r : Ending) (M : List Lsa) (v : Value) (N : List Lsa) : Prop where
  ret : r = .returned v
  xs : XsAt w' w.heap.size v N
  perm : (N.map vX).Perm (M.map vX)
  sorted : sortedX N

set_option maxHeartbeats 4000000 in
set_option maxRecDepth 100000 in
theorem DbAll_any (p b : Nat) (room : Int) (M : List Lsa) (w : World) (h : DbAt w p b room M) (hn : (M.map keyX).Nodup) (hlen : M.length ≤ 2 ^ 20) :
    Calls Try.prog 20 #[.pointer (some ⟨p, 0, none⟩)] w fun r w' => (∃ v N, AllTo w w' r M v N) ∧ Below w.heap.size w w' := by
  have hcell := h.ptr.cell 1
  simp only [List.getElem?_toArray, List.getElem?_cons_succ, List.getElem?_cons_zero] at hcell
  have H := Lib.hid h
  have HM := Lib.hid h.map
  have Hn := Lib.hid hn
  clear h hn
  go_enter Try.func20, Try.ntmps20
  go_wp2_with (at_range; refine wpList_range_st _ rfl _ 89 rfl 85 38 Try.underlying89 rfl HM.out ?_; intro w1 hr1 hb1 hs1; have HR := Lib.hid hr1; have Hb1 := Lib.hid hb1; clear hr1 hb1 hs1)
  go_frame
  go_loopw [3] (fun v wr => ∃ D E R, RangeAt K3.enc wr b w.heap.size (dbL M) (dbL R) ∧ (E ++ R).Perm M ∧ D.map vX = E.map vX ∧ XsAt wr (w.heap.size + 1) v D ∧ Below w.heap.size w wr) (fun _ wr => wr.rangeLeft b w.heap.size)
  case atStart => exact ⟨[], [], M, HR.out, by rw [List.nil_append], rfl, XsAt.nil _ _, Hb1.out⟩
  case round =>
    obtain ⟨D, E, R, hrg, hperm, hDE, hxs, hb⟩ := hrel
    obtain ⟨A7, c7, hv7⟩ := hxs.own.shape
    subst hv7
    have hDl : D.length ≤ 2 ^ 20 := by
      have h1 := hperm.length_eq
      have h2 := congrArg List.length hDE
      rw [List.length_append] at h1
      rw [List.length_map, List.length_map] at h2
      omega
    have Hrg := Lib.hid hrg
    have Hperm := Lib.hid hperm
    have HDE := Lib.hid hDE
    have Hxs := Lib.hid hxs
    have Hb := Lib.hid hb
    clear hrg hperm hDE hxs hb
    go_wp2_with (at_next; refine wpList_next_st _ rfl _ rfl keyK3.inj rfl Hrg.out ?_ ?_)
    · intro h0
      have hR0 : R = [] := by simpa [dbL] using h0
      subst hR0
      clear h0
      have hperm := Hperm.out
      rw [List.append_nil] at hperm
      have hp : (D.map vX).Perm (M.map vX) := by rw [HDE.out]; exact hperm.map vX
      have hk : (D.map keyX).Nodup := by
        rw [← map_keys, (hp.map keyV).nodup_iff, map_keys]
        exact Hn.out
      have HS := Lib.hid (fun W hO => sortX_of (.slice A7 D.length c7) D (w.heap.size + 1) W hO hDl hk)
      have Hp := Lib.hid hp
      clear hperm hp hk
      go_wp2_with (go_at_call 53; (with_reducible refine Calls.mono (HS.out _ Hxs.out.own) ?_); rintro r w3 ⟨rfl, ⟨N, hown3, hpN, hsN⟩, hg3⟩; have Hx3 := Lib.hid (Hxs.out.sorted hown3 hg3 hpN); have HN := Lib.hid hpN; have HsN := Lib.hid hsN; have Hg3 := Lib.hid hg3; clear hown3 hg3 hpN hsN)
      go_ret
      exact ⟨⟨_, N, rfl, Hx3.out.lower (by omega), (HN.out.map vX).trans Hp.out, HsN.out⟩, Hb.out.grown Hg3.out Hb.out.size (fun k hk => by have := (Hxs.out.own.block k hk).1; omega)⟩
    · intro pre e ev post w2 hsplit hrg2 hg2 hs2 hen
      obtain ⟨P, x, Q, hR, rfl, rfl, he⟩ := dbL_split hsplit
      injection he with he1 he2
      subst he1 he2
      rw [dbL_append] at hrg2
      have hmeas : (dbL (P ++ Q)).length < (dbL R).length := by rw [hR]; simp [dbL]
      have hperm2 : (E ++ [x] ++ (P ++ Q)).Perm M := by
        refine List.Perm.trans ?_ Hperm.out
        rw [hR, List.append_assoc]
        refine List.Perm.append_left E ?_
        rw [List.singleton_append]
        exact List.perm_middle.symm
      have hxM : x ∈ M := hperm2.subset (by simp)
      have Hmeas := Lib.hid hmeas
      have Hperm2 := Lib.hid hperm2
      have hb2 : Below w.heap.size w w2 := Hb.out.grown hg2 Hb.out.size (fun k hk => by injection hk with hk; omega)
      have hxs2 : XsAt w2 (w.heap.size + 1) (.slice A7 D.length c7) D := Hxs.out.iter hg2 (by omega)
      have hdb2 := H.out.keep hb2
      have Hrow := Lib.hid (hdb2.rows x hxM)
      have Hln := Lib.hid (hdb2.lens x hxM)
      have Hrg2 := Lib.hid hrg2
      have Hxs2 := Lib.hid hxs2
      have Hb2 := Lib.hid hb2
      clear hsplit hrg2 hg2 hs2 hR hmeas hperm2 hxM hb2 hxs2 hdb2
      obtain ⟨⟨y1, y2, y3, y4, y5, y6, y7⟩, ka, kc, ls, ma, mc, ms⟩ := x
      obtain ⟨nl, hnl⟩ : ∃ nl, ls.length = nl := ⟨_, rfl⟩
      obtain ⟨nm, hnm⟩ : ∃ nm, ms.length = nm := ⟨_, rfl⟩
      unfold Lsa.val Lsa.cells keyH at hen
      simp only [hnl, hnm] at hen
      have Hnl := Lib.hid hnl.symm
      have Hnm := Lib.hid hnm.symm
      clear hnl hnm
      obtain ⟨w3, hW3⟩ : ∃ w3, w2.alloc (.cells #[.int .i64 y1, .int .i64 y2, .int .i64 y3, .int .i64 y4, .int .i64 y5, .int .i64 y6, .int .i64 y7, .slice ka nl kc, .slice ma nm mc] 38) = w3 := ⟨_, rfl⟩
      have hb3 := below_new w2 (.cells #[.int .i64 y1, .int .i64 y2, .int .i64 y3, .int .i64 y4, .int .i64 y5, .int .i64 y6, .int .i64 y7, .slice ka nl kc, .slice ma nm mc] 38)
      have hk3 := Blk.new w2 38 #[.int .i64 y1, .int .i64 y2, .int .i64 y3, .int .i64 y4, .int .i64 y5, .int .i64 y6, .int .i64 y7, .slice ka nl kc, .slice ma nm mc]
      rw [hW3] at hb3 hk3
      obtain ⟨z0, z1, z2, z3, z4, z5, z6, z7, z8, zf⟩ := blk9 hk3
      clear hk3
      have HO := Lib.hid (own_any y1 y2 y3 y4 y5 y6 y7 ka kc ls ma mc ms w3 w3.heap.size (rows_keep Hrow.out.1 hb3) (rows_keep Hrow.out.2 hb3) (Nat.le_refl _) (Nat.le_trans Hln.out.1 (by decide)) (Nat.le_trans Hln.out.2 (by decide)) nl nm Hnl.out Hnm.out)
      have Hb3 := Lib.hid hb3
      have Hs3 := Lib.hid (show w2.heap.size + 1 = w3.heap.size by rw [← hW3]; simp)
      clear hb3
      go_wp2_with fail
      with_reducible refine Calls.mono HO.out ?_
      rintro r w4 ⟨Aa, ca, Ab, cb, rfl, oa, ob, hb4⟩
      have hx3 := Hxs2.out.keep Hb3.out
      have HX := Lib.hid (seal_el (q := w.heap.size) (h := ⟨y1, y2, y3, y4, y5, y6, y7⟩) hx3.own (by have := Hb2.out.size; have := Hs3.out; omega) Hnl.out Hnm.out Hln.out.1 Hln.out.2 oa ob)
      have Hx4 := Lib.hid (hx3.keep hb4)
      have Hb4 := Lib.hid (below_trans Hb3.out Hb3.out.size hb4)
      have Hrg4 := Lib.hid (show RangeAt K3.enc w4 b w.heap.size (dbL M) (dbL (P ++ Q)) from by have h := (Hrg2.out.alloc (.cells #[.int .i64 y1, .int .i64 y2, .int .i64 y3, .int .i64 y4, .int .i64 y5, .int .i64 y6, .int .i64 y7, .slice ka nl kc, .slice ma nm mc] 38)); rw [hW3] at h; exact h.below hb4 h.map.lt h.lt)
      have Hba5 := Lib.hid (below_new w4 (.cells #[.int .i64 y1, .int .i64 y2, .int .i64 y3, .int .i64 y4, .int .i64 y5, .int .i64 y6, .int .i64 y7, .slice Aa nl ca, .slice Ab nm cb] 38))
      have Hbk5 := Lib.hid (show Blk (w4.alloc (.cells #[.int .i64 y1, .int .i64 y2, .int .i64 y3, .int .i64 y4, .int .i64 y5, .int .i64 y6, .int .i64 y7, .slice Aa nl ca, .slice Ab nm cb] 38)) w4.heap.size 38 (Lsa.cells ⟨⟨y1, y2, y3, y4, y5, y6, y7⟩, Aa, ca, ls, Ab, cb, ms⟩).toArray by unfold Lsa.cells; simp only; rw [← Hnl.out, ← Hnm.out]; exact Blk.new _ _ _)
      have Hsz := Lib.hid (show w.heap.size + 1 ≤ w4.heap.size from by have := Hb2.out.size; have := Hs3.out; have := hb4.size; omega)
      clear hx3 oa ob hb4
      go_wp2_with (at_builtin; (refine app_row Lsa.cells (fun _ => rfl) (by decide) (bytes := 104) (by decide) infoX rfl Try.underlying22 onesX (by rfl) _ _ (by rfl) (w.heap.size + 1) _ D (by rfl) (Hx4.out.own.below Hba5.out) w4.heap.size ⟨⟨y1, y2, y3, y4, y5, y6, y7⟩, Aa, ca, ls, Ab, cb, ms⟩ (by rfl) Hbk5.out (by omega) (by have := Hsz.out; have := Hba5.out.size; omega) ?_); intro v6 w6 hown6 hg6 hor6; have Hx6 := Lib.hid ((Hx4.out.keep Hba5.out).app hown6 hg6 hor6 (HX.out.1.keep Hba5.out) HX.out.2.1 HX.out.2.2.1 HX.out.2.2.2); have Hg6 := Lib.hid hg6; clear hown6 hg6 hor6)
      have hne : ∀ j, (Value.slice A7 D.length c7).ownBlock = some j → w.heap.size + 1 ≤ j := fun j hj => (Hx4.out.own.block j hj).1
      have hrg6 : RangeAt K3.enc w6 b w.heap.size (dbL M) (dbL (P ++ Q)) := (Hrg4.out.below Hba5.out Hrg4.out.map.lt Hrg4.out.lt).grown Hg6.out (fun e => by have := hne b e.symm; have := HM.out.lt; omega) (fun e => by have := hne _ e.symm; omega)
      have Hrg6 := Lib.hid hrg6
      have Hb6 := Lib.hid (show Below w.heap.size w w6 from ((below_trans Hb2.out Hb2.out.size Hb4.out) |> fun h => below_trans h h.size Hba5.out).grown Hg6.out (by have := Hsz.out; have := Hba5.out.size; omega) (fun j hj => by have := hne j hj; omega))
      clear hne hrg6
      go_wp2
      go_roundw
      case measure => rw [Hrg6.out.left_eq, Hrg.out.left_eq]; exact Hmeas.out
      case rel => exact ⟨D ++ [⟨⟨y1, y2, y3, y4, y5, y6, y7⟩, Aa, ca, ls, Ab, cb, ms⟩], E ++ [⟨⟨y1, y2, y3, y4, y5, y6, y7⟩, ka, kc, ls, ma, mc, ms⟩], P ++ Q, Hrg6.out, Hperm2.out, by rw [List.map_append, List.map_append, HDE.out]; rfl, Hx6.out, Hb6.out⟩

end Go.Proofs.Ytpnbibokddhheaa
