/-
  Layer 13: the keys of what is gone: the program's way.
-/
import Derived.Test.YtpnbibokddhheaaXsAt
import Derived.Test.YtpnbibokddhheaaSuSort
import Derived.Test.YtpnbibokddhheaaOwnR
namespace Go.Proofs.Ytpnbibokddhheaa
open Go.RowKit Go.Sort

theorem infoK13 : (Try.prog.info? 85).map (fun i => (i.zero, i.size, i.bytes)) = some (some (.agg #[.int .i64 0, .int .i64 0, .int .i64 0]), 3, 24) := by kernel_rfl
def goneOf (l : List Lsa) : List K3 := (l.filter fun x => decide (x.head.age = 60)).map keyX
theorem gone_more {l : List Lsa} {k : Nat} (hk : k < l.length) : goneOf (l.take (k + 1)) = goneOf (l.take k) ++ if l[k].head.age = 60 then [keyX l[k]] else [] := by
  unfold goneOf
  rw [List.take_succ_eq_append_getElem hk, List.filter_append, List.map_append]
  congr 1
  by_cases h : l[k].head.age = 60 <;> simp [h]
theorem gone_len (l : List Lsa) : (goneOf l).length ≤ l.length := by
  unfold goneOf
  rw [List.length_map]
  exact List.length_filter_le _ _
set_option maxHeartbeats 8000000 in
set_option maxRecDepth 100000 in
theorem SuGone_any (A : Option Addr) (c : Nat) (l : List Lsa) (w : World) (B : Nat) (h : RowsAt 9 Lsa.cells w B A l) (hB : B ≤ w.heap.size) (hm : l.length ≤ 2 ^ 20) (nn : Nat) (hnn : nn = l.length) (X : List K3)
    (HC : ∀ W A n c N, OwnR 85 3 K3.cells W w.heap.size (.slice A n c) N → N.Perm (goneOf l) → (N.Pairwise fun x y => lessK y x = false) → Calls Try.prog 71 #[.slice A n c] W fun r W' => (∃ v, r = .returned v ∧ OwnR 85 3 K3.cells W' w.heap.size v X) ∧ W.grownBy W' (Value.slice A n c).ownBlock) :
    Calls Try.prog 43 #[.slice A nn c] w fun r w' => (∃ v, r = .returned v ∧ OwnR 85 3 K3.cells w' w.heap.size v X) ∧ Below w.heap.size w w' := by
  subst hnn
  have HL := Lib.hid h
  have HCo := Lib.hid HC
  have hm' : (l.length : Int) ≤ 9223372036854775807 := by omega
  clear h HC
  go_enter Try.func43, Try.ntmps43
  go_wp2
  go_loopw [3, 8] (fun v i wr => ∃ k : Nat, i = .int .i64 k ∧ k ≤ l.length ∧ OwnR 85 3 K3.cells wr w.heap.size v (goneOf (l.take k)) ∧ Below w.heap.size w wr) (fun _ i _ => l.length - (intOf i).toNat)
  case atStart => exact ⟨0, rfl, Nat.zero_le _, OwnR.nil _ _, Below.refl _ _⟩
  case round =>
    obtain ⟨k, rfl, hk, hown, hb⟩ := hrel
    obtain ⟨A7, c7, hv7⟩ := hown.shape
    subst hv7
    have hHl : (goneOf (l.take k)).length ≤ 2 ^ 20 := Nat.le_trans (gone_len _) (by rw [List.length_take]; omega)
    obtain ⟨H, hH⟩ : ∃ H, goneOf (l.take k) = H := ⟨_, rfl⟩
    by_cases hlt : k < l.length
    · obtain ⟨g, o, hA, -, x0, x1, x2, x3, x4, x5, x6, x7, x8⟩ := row_lsa9b (HL.out.below (hb.mono hB)) k hlt
      have hkl : (k : Int) < (l.length : Int) := by omega
      have hmore := gone_more hlt
      have HA := Lib.hid hA
      rw [hA]
      have Hlt := Lib.hid hlt
      generalize l[k] = x at *
      obtain ⟨⟨y1, y2, y3, y4, y5, y6, y7⟩, ka, kc, ls, ma, mc, ms⟩ := x
      simp only at x0 x1 x2 x3 x4 x5 x6 x7 x8 hmore
      obtain ⟨nl, hnl⟩ : ∃ nl, ls.length = nl := ⟨_, rfl⟩
      obtain ⟨nm, hnm⟩ : ∃ nm, ms.length = nm := ⟨_, rfl⟩
      rw [hnl] at x7
      rw [hnm] at x8
      rw [hH] at hown hmore hHl ⊢
      have Hmore := Lib.hid hmore
      have HHl := Lib.hid hHl
      obtain ⟨w8, hw8⟩ : ∃ w8, wr.alloc (.cells #[.int .i64 y1, .int .i64 y2, .int .i64 y3, .int .i64 y4, .int .i64 y5, .int .i64 y6, .int .i64 y7, .slice ka nl kc, .slice ma nm mc] 38) = w8 := ⟨_, rfl⟩
      obtain ⟨g8, hg8⟩ : ∃ g8, wr.heap.size = g8 := ⟨_, rfl⟩
      have hk8 := Blk.new wr 38 #[.int .i64 y1, .int .i64 y2, .int .i64 y3, .int .i64 y4, .int .i64 y5, .int .i64 y6, .int .i64 y7, .slice ka nl kc, .slice ma nm mc]
      have hb8 := below_new wr (.cells #[.int .i64 y1, .int .i64 y2, .int .i64 y3, .int .i64 y4, .int .i64 y5, .int .i64 y6, .int .i64 y7, .slice ka nl kc, .slice ma nm mc] 38)
      rw [hw8, hg8] at hk8
      rw [hw8] at hb8
      have O8 := Lib.hid (hown.below hb8)
      have B8 := Lib.hid (below_trans hb hb.size hb8)
      obtain ⟨z0, z1, z2, z3, z4, z5, z6, z7, z8, zf⟩ := blk9 hk8
      clear hnl hnm hA hlt hk8 hb8 hk hown hb hmore hHl hH
      by_cases h60 : y1 = 60
      · subst h60
        rw [if_pos rfl] at Hmore
        go_wp2_with fail
        with_reducible refine Calls.mono (keyOf_any _ _ _ _ _ _ _ _) ?_
        rintro r w9 ⟨rfl, hb9⟩
        have O9 := Lib.hid (O8.out.below hb9)
        have B9 := Lib.hid (below_trans B8.out B8.out.size hb9)
        clear hb9
        go_wp2_with (at_builtin; (refine app_row K3.cells (fun _ => rfl) (by decide) (bytes := 24) (by decide) infoK13 rfl Try.underlying48 onesK13 (by rfl) _ _ (by rfl) w.heap.size _ H (by rfl) (O9.out.alloc _) w9.heap.size ⟨y2, y3, y4⟩ (by rfl) (Blk.new _ _ _) (by have := HHl.out; omega) (by have := B9.out.size; simp; omega) ?_); intro v6 w6 hown6 hg6 hor6; have O6 := Lib.hid hown6; have Hg6 := Lib.hid hg6; clear hown6 hg6 hor6)
        have B6 := Lib.hid (show Below w.heap.size w w6 from (B9.out.alloc B9.out.size _).grown Hg6.out (by have := B9.out.size; simp; omega) (fun m e => (O9.out.block m e).1))
        go_wp2
        go_roundw
        case measure => have := Hlt.out; simp only [intOf]; omega
        case rel => exact ⟨k + 1, by go_num, Hlt.out, by rw [Hmore.out]; exact O6.out, B6.out⟩
      · rw [if_neg h60, List.append_nil] at Hmore
        go_wp2
        go_roundw
        case measure => have := Hlt.out; simp only [intOf]; omega
        case rel => exact ⟨k + 1, by go_num, Hlt.out, by rw [Hmore.out]; exact O8.out, B8.out⟩
    · have hke : k = l.length := by omega
      subst hke
      have hkl : ¬ (l.length : Int) < (l.length : Int) := by omega
      have hH2 : goneOf l = H := by rw [← hH, List.take_length]
      rw [hH] at hown hHl ⊢
      have HS := Lib.hid (sortKs13 _ H w.heap.size wr hown hHl)
      have B8 := Lib.hid hb
      have O8 := Lib.hid hown
      have HH := Lib.hid hH2
      clear hown hb hlt hH hHl hH2
      go_wp2_with fail
      with_reducible refine Calls.mono HS.out ?_
      rintro r w9 ⟨rfl, ⟨N, hown9, hpN, hsN⟩, hg9⟩
      have hc := HCo.out w9 _ _ _ N hown9 (by rw [HH.out]; exact hpN) hsN
      have HC9 := Lib.hid hc
      have B9 := Lib.hid (show Below w.heap.size w w9 from B8.out.grown hg9 B8.out.size (fun m e => (O8.out.block m e).1))
      have O9 := Lib.hid hown9
      clear hown9 hpN hsN hg9 hc
      go_wp2_with fail
      with_reducible refine Calls.mono HC9.out ?_
      rintro r w10 ⟨⟨v, rfl, hown10⟩, hg10⟩
      have B10 := Lib.hid (show Below w.heap.size w w10 from B9.out.grown hg10 B9.out.size (fun m e => (O9.out.block m e).1))
      obtain ⟨Av, cv, hv⟩ := hown10.shape
      subst hv
      have O10 := Lib.hid hown10
      clear hown10 hg10
      go_wp2
      go_ret
      exact ⟨⟨_, rfl, O10.out⟩, B10.out⟩
theorem SuGone_one (A : Option Addr) (c : Nat) (l : List Lsa) (w : World) (B : Nat) (h : RowsAt 9 Lsa.cells w B A l) (hB : B ≤ w.heap.size) (hm : l.length ≤ 2 ^ 20) (nn : Nat) (hnn : nn = l.length) (h1 : (goneOf l).length < 2) :
    Calls Try.prog 43 #[.slice A nn c] w fun r w' => (∃ v, r = .returned v ∧ OwnR 85 3 K3.cells w' w.heap.size v (goneOf l)) ∧ Below w.heap.size w w' := by
  refine SuGone_any A c l w B h hB hm nn hnn (goneOf l) (fun W A n c N hown hp hs => ?_)
  have hl := hp.length_eq
  have hN : N = goneOf l := by
    cases hg : goneOf l with
    | nil => rw [hg] at hp; exact List.perm_nil.1 hp
    | cons a t =>
      cases t with
      | nil => rw [hg] at hp; exact List.perm_singleton.1 hp
      | cons b t => rw [hg] at h1; simp at h1; omega
  subst hN
  have hn : n = (goneOf l).length := by obtain ⟨A2, c2, hv⟩ := hown.shape; injection hv
  refine (compact1 A c n (by omega) W).mono ?_
  rintro r W' ⟨rfl, rfl⟩
  exact ⟨⟨_, rfl, hown⟩, World.grownBy.refl _ _⟩

end Go.Proofs.Ytpnbibokddhheaa
