/-
  The law FloodKeeps: its walk.
-/
import Derived.Test.YtmjjmkdjjfmhhaaFlWakes
import Derived.Test.YtmjjmkdjjfmhhaaLsMany
import Derived.Test.YtmjjmkdjjfmhhaaRsSealed
import Derived.Test.YtmjjmkdjjfmhhaaKpPlain
namespace Go.Proofs.Ytmjjmkdjjfmhhaa
open Go.RowKit

/-- the database, and the heads that were taken; .. and blocks of the round's own -/
structure FK (w W : World) (p b : Nat) (room : Int) (M : List Lsa) (v : Value) (H : List Hd) (bl : List (Nat × TypeId × Array Value)) : Prop where
  bel : Below w.heap.size w W
  db : DbAt W p b room M
  own : OwnR 23 7 Hd.cells W w.heap.size v H
  lo : w.heap.size ≤ b
  np : v.ownBlock ≠ some p
  nb : v.ownBlock ≠ some b
  far : ∀ x ∈ M, (∀ a, x.ka = some a → 0 < x.links.length → v.ownBlock ≠ some a.block) ∧ (∀ a, x.ma = some a → 0 < x.members.length → v.ownBlock ≠ some a.block)
  blks : ∀ x ∈ bl, Blk W x.1 x.2.1 x.2.2
theorem blk_nemap3 {κ : Type} {enc : κ → Value} {L : List (κ × Value)} {W : World} {g b : Nat} {t : TypeId} {cs : Array Value} (hb : Blk W g t cs) (hm : MapAt enc W b L) : g ≠ b := by
  rintro rfl
  obtain ⟨es, clock, h1, -⟩ := hm
  unfold Blk at hb
  rw [h1] at hb
  cases hb
section
variable {w W W' : World} {p b : Nat} {room : Int} {M M' : List Lsa} {v v' : Value} {H H' : List Hd} {bl : List (Nat × TypeId × Array Value)}
theorem FK.keep (h : FK w W p b room M v H bl) (hb : Below W.heap.size W W') : FK w W' p b room M v H bl :=
  ⟨below_trans h.bel h.bel.size hb, h.db.keep hb, h.own.below hb, h.lo, h.np, h.nb, h.far, fun x hx => (h.blks x hx).below hb (h.blks x hx).lt⟩
theorem FK.grown {x : Lsa} {n : Int} (h : FK w W p b room M v H bl) (ht : TookTo W.heap.size M x n M') (hd : DbAt W' p b room M') (hg : W.grownBy W' (some b)) : FK w W' p b room M' v H bl := by
  refine ⟨h.bel.grown hg h.bel.size (fun k e => by injection e with e; subst e; exact h.lo), hd, h.own.kept hg (.inr h.nb), h.lo, h.np, h.nb, ?_, fun x hx => (h.blks x hx).grown hg (fun e => blk_nemap3 (h.blks x hx) h.db.map (by injection e))⟩
  rcases ht with ⟨-, Aa, ca, Ab, cb, hfa, hfb, rfl⟩ | ⟨-, rfl⟩
  · intro y hy
    rcases setX_mem hy with hy | rfl
    · exact h.far y hy
    · exact ⟨fun a e _ e2 => by have := (h.own.block _ e2).2; have := hfa a e; omega, fun a e _ e2 => by have := (h.own.block _ e2).2; have := hfb a e; omega⟩
  · exact h.far
theorem FK.new (h : FK w W p b room M v H bl) (t : TypeId) (cs : Array Value) : FK w (W.alloc (.cells cs t)) p b room M v H ((W.heap.size, t, cs) :: bl) := by
  have h1 := h.keep (below_new W (.cells cs t))
  refine ⟨h1.bel, h1.db, h1.own, h1.lo, h1.np, h1.nb, h1.far, fun x hx => ?_⟩
  rcases List.mem_cons.1 hx with rfl | hx
  · exact Blk.new W t cs
  · exact h1.blks x hx
theorem FK.less (h : FK w W p b room M v H bl) : FK w W p b room M v H [] := ⟨h.bel, h.db, h.own, h.lo, h.np, h.nb, h.far, fun _ hx => by cases hx⟩
theorem FK.one {x : Nat × TypeId × Array Value} (h : FK w W p b room M v H bl) (hx : x ∈ bl) : FK w W p b room M v H [x] := ⟨h.bel, h.db, h.own, h.lo, h.np, h.nb, h.far, fun y hy => by rw [List.mem_singleton] at hy; rw [hy]; exact h.blks x hx⟩
theorem rows_row {α : Type} {C : Nat} {cells : α → List Value} {A : Option Addr} {R : List α} {row : Option Nat} (h : RowsAt C cells W W.heap.size A R) (hg : W.grownBy W' row) (hne : ∀ a, A = some a → 0 < R.length → row ≠ some a.block) : RowsAt C cells W' W'.heap.size A R := by
  intro h0
  obtain ⟨b', o, e, hb, hc⟩ := h h0
  refine ⟨b', o, e, Nat.lt_of_lt_of_le hb hg.size, fun k hk i u hi hu => ?_⟩
  exact (World.cell?_of_block (w := W) (a := ⟨b', o + k * C + i, none⟩) (hg.block b' hb (fun e2 => hne _ e h0 e2.symm))).trans (hc k hk i u hi hu)
theorem row_lt {α : Type} {C : Nat} {cells : α → List Value} {a : Addr} {R : List α} (h : RowsAt C cells W W.heap.size (some a) R) (h0 : 0 < R.length) : a.block < W.heap.size := by
  obtain ⟨b', o, e, hb, -⟩ := h h0
  injection e with e
  subst e
  exact hb
theorem FK.app (h : FK w W p b room M v H bl) (ho : OwnR 23 7 Hd.cells W' w.heap.size v' H') (hg : W.grownBy W' v.ownBlock) (hor : v'.ownBlock = v.ownBlock ∨ v'.ownBlock = some W.heap.size) : FK w W' p b room M v' H' [] := by
  have hp := h.db.ptr.lt
  have hb := h.db.map.lt
  refine ⟨h.bel.grown hg h.bel.size (fun k e => (h.own.block k e).1), ⟨h.db.ptr.grown hg (fun e => h.np e.symm), h.db.map.grown hg (fun e => h.nb e.symm), fun x hx => ⟨rows_row (h.db.rows x hx).1 hg (h.far x hx).1, rows_row (h.db.rows x hx).2 hg (h.far x hx).2⟩, h.db.lens⟩, ho, h.lo, ?_, ?_, ?_, fun _ hx => by cases hx⟩
  · rcases hor with e | e
    · rw [e]; exact h.np
    · rw [e]; intro e2; injection e2 with e2; omega
  · rcases hor with e | e
    · rw [e]; exact h.nb
    · rw [e]; intro e2; injection e2 with e2; omega
  · intro x hx
    rcases hor with e | e
    · rw [e]; exact h.far x hx
    · rw [e]
      refine ⟨fun a ea h0 e2 => ?_, fun a ea h0 e2 => ?_⟩
      · have h1 := (h.db.rows x hx).1
        rw [ea] at h1
        have := row_lt h1 h0
        injection e2 with e2
        omega
      · have h1 := (h.db.rows x hx).2
        rw [ea] at h1
        have := row_lt h1 h0
        injection e2 with e2
        omega
end

theorem row_hd3 {w : World} {B : Nat} {A : Option Addr} {l : List Hd} (h : RowsAt 7 Hd.cells w B A l) (k : Nat) (hk : k < l.length) :
    ∃ b o, A = some ⟨b, o, none⟩ ∧ b < B ∧ w.cell? ⟨b, o + k * 7, none⟩ = some (.int .i64 l[k].age) ∧ w.cell? ⟨b, o + k * 7 + 1, none⟩ = some (.int .i64 l[k].kind) ∧ w.cell? ⟨b, o + k * 7 + 2, none⟩ = some (.int .i64 l[k].id) ∧ w.cell? ⟨b, o + k * 7 + 3, none⟩ = some (.int .i64 l[k].adv) ∧
      w.cell? ⟨b, o + k * 7 + 4, none⟩ = some (.int .i64 l[k].seq) ∧ w.cell? ⟨b, o + k * 7 + 5, none⟩ = some (.int .i64 l[k].sum) ∧ w.cell? ⟨b, o + k * 7 + 6, none⟩ = some (.int .i64 l[k].long) := by
  obtain ⟨b, o, e, hb, hc⟩ := h (by omega)
  exact ⟨b, o, e, hb, by simpa using hc k hk 0 _ (by omega) rfl, hc k hk 1 _ (by omega) rfl, hc k hk 2 _ (by omega) rfl, hc k hk 3 _ (by omega) rfl, hc k hk 4 _ (by omega) rfl, hc k hk 5 _ (by omega) rfl, hc k hk 6 _ (by omega) rfl⟩
theorem blk7k {w : World} {g : Nat} {t : TypeId} {a b c d e f x : Value} (h : Blk w g t #[a, b, c, d, e, f, x]) : w.cell? ⟨g, 0, none⟩ = some a ∧ w.cell? ⟨g, 1, none⟩ = some b ∧ w.cell? ⟨g, 2, none⟩ = some c ∧ w.cell? ⟨g, 3, none⟩ = some d ∧ w.cell? ⟨g, 4, none⟩ = some e ∧ w.cell? ⟨g, 5, none⟩ = some f ∧ w.cell? ⟨g, 6, none⟩ = some x ∧ ∀ i, w.frozen? ⟨g, i, none⟩ = false :=
  ⟨h.cell 0, h.cell 1, h.cell 2, h.cell 3, h.cell 4, h.cell 5, h.cell 6, fun i => h.frozen i⟩
theorem infoHd3 : (Try.prog.info? 23).map (fun i => (i.zero, i.size, i.bytes)) = some (some (.agg #[.int .i64 0, .int .i64 0, .int .i64 0, .int .i64 0, .int .i64 0, .int .i64 0, .int .i64 0]), 7, 56) := by kernel_rfl
theorem onesHd3 (x : Hd) : ∀ u ∈ Hd.cells x, u.oneCell' = true := by
  intro u hu
  simp [Hd.cells] at hu
  rcases hu with rfl | rfl | rfl | rfl | rfl | rfl | rfl <;> rfl
theorem blk3k {w : World} {g : Nat} {t : TypeId} {a b c : Value} (h : Blk w g t #[a, b, c]) : w.cell? ⟨g, 0, none⟩ = some a ∧ w.cell? ⟨g, 1, none⟩ = some b ∧ w.cell? ⟨g, 2, none⟩ = some c := ⟨h.cell 0, h.cell 1, h.cell 2⟩
set_option maxHeartbeats 8000000 in
set_option maxRecDepth 100000 in
theorem floodKeeps_any (room : Int) (A : Option Addr) (cap : Nat) (l : List Lsa) (w : World) (hl : LsasAt w w.heap.size A l) (hm : l.length ≤ maxLen) :
    Calls Try.prog 4 #[.int .i64 room, .slice A l.length cap] w fun r w' => r = .returned (.bool true) ∧ Below w.heap.size w w' := by
  have HL := Lib.hid hl
  obtain ⟨t, ht⟩ : ∃ t, manyB 60 l = t := ⟨_, rfl⟩
  have HMany := Lib.hid (fun W (hW : Below w.heap.size w W) => many18 A cap l W w.heap.size (hl.rows.below hW) hW.size hm l.length rfl ht)
  have Ht := Lib.hid ht
  have hm' : (l.length : Int) ≤ 9223372036854775807 := by unfold maxLen at hm; omega
  clear hl hm ht
  go_enter Try.func4, Try.ntmps4
  go_wp2_with fail
  with_reducible refine Calls.mono (wakes18 _) ?_
  rintro r w1 ⟨rfl, hb1⟩
  have Hb1 := Lib.hid hb1
  clear hb1
  go_wp2_with fail
  with_reducible refine Calls.mono (HMany.out _ Hb1.out) ?_
  rintro r w2 ⟨rfl, hb2⟩
  have Hb2 := Lib.hid (below_trans Hb1.out Hb1.out.size hb2)
  clear hb2
  cases t with
  | true =>
    go_wp2
    go_ret
    exact ⟨rfl, Hb2.out⟩
  | false =>
    obtain ⟨hl60, hlens⟩ := manyB_lens Ht.out
    have Hlens := Lib.hid hlens
    clear hlens
    go_wp2_with fail
    with_reducible refine Calls.mono (DbNew room _) ?_
    rintro r w3 ⟨rfl, hd3, hb3⟩
    obtain ⟨p, hp⟩ : ∃ p, w2.heap.size + 1 = p := ⟨_, rfl⟩
    obtain ⟨b, hb⟩ : ∃ b, w2.heap.size = b := ⟨_, rfl⟩
    obtain ⟨rm, hrm⟩ : ∃ rm, min (max room 1) 40 = rm := ⟨_, rfl⟩
    rw [hp, hb, hrm] at hd3
    rw [hp]
    have hF : FK w w3 p b rm [] (.slice none 0 0) [] [] := ⟨below_trans Hb2.out Hb2.out.size hb3, hd3, OwnR.nil _ _, by rw [← hb]; exact Hb2.out.size, (by intro e; cases e), (by intro e; cases e), (by intro x hx; cases hx), (by intro x hx; cases hx)⟩
    have HF0 := Lib.hid hF
    clear hF hd3 hb3 hp hb hrm
    go_wp2
    go_loopw [6, 27] (fun v i wr => ∃ (k : Nat) (M : List Lsa) (H : List Hd), i = .int .i64 k ∧ k ≤ l.length ∧ FK w wr p b rm M v H [] ∧ KeepI M H ∧ H.length ≤ k) (fun _ i _ => l.length - (intOf i).toNat)
    case atStart => exact ⟨0, [], [], rfl, Nat.zero_le _, HF0.out, KeepI.nil, Nat.le_refl _⟩
    case round =>
      obtain ⟨k, M, H, rfl, hk, hfk, hki, hHk⟩ := hrel
      obtain ⟨Av, cv, hv⟩ := hfk.own.shape
      subst hv
      have Hki := Lib.hid hki
      have HHk := Lib.hid hHk
      have Hfk := Lib.hid hfk
      clear HF0
      by_cases hlt : k < l.length
      · obtain ⟨g, o, hA, -, x0, x1, x2, x3, x4, x5, x6, x7, x8⟩ := row_lsa9 (HL.out.rows.below hfk.bel) k hlt
        have hok := HL.out.each l[k] (List.getElem_mem hlt)
        have hln := Hlens.out l[k] (List.getElem_mem hlt)
        have hkl : (k : Int) < (l.length : Int) := by omega
        have HA := Lib.hid hA
        rw [hA]
        have Hlt := Lib.hid hlt
        generalize l[k] = x at *
        obtain ⟨⟨y1, y2, y3, y4, y5, y6, y7⟩, ka, kc, ls, ma, mc, ms⟩ := x
        have hls := hok.links
        have hms := hok.members
        simp only at x0 x1 x2 x3 x4 x5 x6 x7 x8 hln hls hms
        obtain ⟨nl, hnl⟩ : ∃ nl, ls.length = nl := ⟨_, rfl⟩
        obtain ⟨nm, hnm⟩ : ∃ nm, ms.length = nm := ⟨_, rfl⟩
        rw [hnl] at x7
        rw [hnm] at x8
        have Hls := Lib.hid hls
        have Hms := Lib.hid hms
        have Hn := Lib.hid (show nl = ls.length ∧ nm = ms.length ∧ ls.length ≤ 1000 ∧ ms.length ≤ 1000 by omega)
        have F8 := Lib.hid (hfk.new 27 #[.int .i64 y1, .int .i64 y2, .int .i64 y3, .int .i64 y4, .int .i64 y5, .int .i64 y6, .int .i64 y7, .slice ka nl kc, .slice ma nm mc])
        obtain ⟨w8, hw8⟩ : ∃ w8, wr.alloc (.cells #[.int .i64 y1, .int .i64 y2, .int .i64 y3, .int .i64 y4, .int .i64 y5, .int .i64 y6, .int .i64 y7, .slice ka nl kc, .slice ma nm mc] 27) = w8 := ⟨_, rfl⟩
        obtain ⟨gx, hgx⟩ : ∃ gx, wr.heap.size = gx := ⟨_, rfl⟩
        rw [hw8, hgx] at F8
        obtain ⟨z0, z1, z2, z3, z4, z5, z6, z7, z8, zf⟩ := blk9 (F8.out.blks _ (List.mem_cons_self ..))
        clear hls hms hln hok hnl hnm hA hlt hfk hki hHk hk
        go_wp2_with fail
        with_reducible refine Calls.mono (keyOf_any _ _ _ _ _ _ _ _) ?_
        rintro r w9 ⟨rfl, hb9⟩
        have F10 := Lib.hid ((F8.out.keep hb9).new 39 #[.int .i64 y2, .int .i64 y3, .int .i64 y4])
        obtain ⟨w10, hw10⟩ : ∃ w10, w9.alloc (.cells #[.int .i64 y2, .int .i64 y3, .int .i64 y4] 39) = w10 := ⟨_, rfl⟩
        obtain ⟨gk, hgk⟩ : ∃ gk, w9.heap.size = gk := ⟨_, rfl⟩
        rw [hw10, hgk] at F10
        obtain ⟨k0, k1, k2⟩ := blk3k (F10.out.blks _ (List.mem_cons_self ..))
        obtain ⟨u, hu⟩ : ∃ u, (getX ⟨y2, y3, y4⟩ M).getD zeroX = u := ⟨_, rfl⟩
        obtain ⟨had, hhad⟩ : ∃ had, (getX ⟨y2, y3, y4⟩ M).isSome = had := ⟨_, rfl⟩
        obtain ⟨⟨u1, u2, u3, u4, u5, u6, u7⟩, xa, xc, xs, va, vc, vs⟩ := u
        obtain ⟨ul, hul⟩ : ∃ ul, ul = xs.length := ⟨_, rfl⟩
        obtain ⟨um, hum⟩ : ∃ um, um = vs.length := ⟨_, rfl⟩
        have HG1 := Lib.hid (DbGet p b rm M y2 y3 y4 w10 F10.out.db hu hhad ul um hul hum)
        have Hu := Lib.hid hu
        have Hhad := Lib.hid hhad
        clear hb9 hu hhad hul hum z0 z1 z2 z3 z4 z5 z6 z7 z8 zf
        go_wp2_with fail
        with_reducible refine Calls.mono HG1.out ?_
        rintro r w11 ⟨Aa, ca, Ab, cb, rfl, -, -, hb11⟩
        have F12 := Lib.hid ((F10.out.keep hb11).new 27 #[.int .i64 u1, .int .i64 u2, .int .i64 u3, .int .i64 u4, .int .i64 u5, .int .i64 u6, .int .i64 u7, .slice Aa ul ca, .slice Ab um cb])
        obtain ⟨w12, hw12⟩ : ∃ w12, w11.alloc (.cells #[.int .i64 u1, .int .i64 u2, .int .i64 u3, .int .i64 u4, .int .i64 u5, .int .i64 u6, .int .i64 u7, .slice Aa ul ca, .slice Ab um cb] 27) = w12 := ⟨_, rfl⟩
        obtain ⟨gu, hgu⟩ : ∃ gu, w11.heap.size = gu := ⟨_, rfl⟩
        rw [hw12, hgu] at F12
        obtain ⟨z0, z1, z2, z3, z4, z5, z6, z7, z8, zf⟩ := blk9 (F12.out.blks (gx, 27, #[.int .i64 y1, .int .i64 y2, .int .i64 y3, .int .i64 y4, .int .i64 y5, .int .i64 y6, .int .i64 y7, .slice ka nl kc, .slice ma nm mc]) (by simp))
        obtain ⟨n, hn⟩ : ∃ n, takeN rm M ⟨⟨y1, y2, y3, y4, y5, y6, y7⟩, ka, kc, ls, ma, mc, ms⟩ true = n := ⟨_, rfl⟩
        have HT := Lib.hid (Take_any p b rm M y1 y2 y3 y4 y5 y6 y7 ka kc ls ma mc ms w12 F12.out.db ((Hls.out.below F12.out.bel).more F12.out.bel.size) ((Hms.out.below F12.out.bel).more F12.out.bel.size) Hn.out.2.2.1 Hn.out.2.2.2 nl nm Hn.out.1 Hn.out.2.1 Hki.out.ages true hn)
        have Hnn := Lib.hid hn
        clear hb11 hn k0 k1 k2
        go_wp2_with fail
        with_reducible refine Calls.mono HT.out ?_
        rintro r w13 ⟨rfl, ⟨M', hT, hd13⟩, hg13⟩
        have HTo := Lib.hid hT
        have F13 := Lib.hid (F12.out.grown hT hd13 hg13)
        clear hd13 hg13 hT z0 z1 z2 z3 z4 z5 z6 z7 z8 zf
        obtain ⟨k0, k1, k2⟩ := blk3k (F13.out.blks (gk, 39, #[.int .i64 y2, .int .i64 y3, .int .i64 y4]) (by simp))
        obtain ⟨v, hv⟩ : ∃ v, (getX ⟨y2, y3, y4⟩ M').getD zeroX = v := ⟨_, rfl⟩
        obtain ⟨is, his⟩ : ∃ is, (getX ⟨y2, y3, y4⟩ M').isSome = is := ⟨_, rfl⟩
        obtain ⟨⟨v1, v2, v3, v4, v5, v6, v7⟩, xa', xc', xs', va', vc', vs'⟩ := v
        obtain ⟨vl, hvl⟩ : ∃ vl, vl = xs'.length := ⟨_, rfl⟩
        obtain ⟨vm, hvm⟩ : ∃ vm, vm = vs'.length := ⟨_, rfl⟩
        have HG2 := Lib.hid (DbGet p b rm M' y2 y3 y4 w13 F13.out.db hv his vl vm hvl hvm)
        have Hv := Lib.hid hv
        have His := Lib.hid his
        clear hv his hvl hvm
        go_wp2_with fail
        with_reducible refine Calls.mono HG2.out ?_
        rintro r w14 ⟨Ba, da, Bb, db, rfl, -, -, hb14⟩
        have F15 := Lib.hid ((F13.out.keep hb14).new 27 #[.int .i64 v1, .int .i64 v2, .int .i64 v3, .int .i64 v4, .int .i64 v5, .int .i64 v6, .int .i64 v7, .slice Ba vl da, .slice Bb vm db])
        obtain ⟨w15, hw15⟩ : ∃ w15, w14.alloc (.cells #[.int .i64 v1, .int .i64 v2, .int .i64 v3, .int .i64 v4, .int .i64 v5, .int .i64 v6, .int .i64 v7, .slice Ba vl da, .slice Bb vm db] 27) = w15 := ⟨_, rfl⟩
        obtain ⟨gv, hgv⟩ : ∃ gv, w14.heap.size = gv := ⟨_, rfl⟩
        rw [hw15, hgv] at F15
        clear hb14 k0 k1 k2
        by_cases h0 : n = 0
        · subst h0
          have hMM := took_none HTo.out
          have hie : is = had := by rw [← His.out, ← Hhad.out, hMM]
          subst hie
          have Hki' := Lib.hid (show KeepI M' H by rw [hMM]; exact Hki.out)
          clear hMM
          cases is
          all_goals
            go_wp2
            go_roundw
            case measure => have := Hlt.out; simp [intOf]; omega
            case rel => exact ⟨k + 1, M', H, by go_num, Hlt.out, F15.out.less, Hki'.out, by have := HHk.out; omega⟩
        · have hright := took_right Hnn.out h0
          obtain ⟨hn1, hki', y, hy, hwas⟩ := took_keep Hki.out Hnn.out HTo.out hright h0
          obtain ⟨-, -, h1m, -, -⟩ := right_head hright
          have hy' : getX ⟨y2, y3, y4⟩ M' = some y := hy
          have hist : is = true := by rw [← His.out, hy']; rfl
          subst hist
          have hvy : y = ⟨⟨v1, v2, v3, v4, v5, v6, v7⟩, xa', xc', xs', va', vc', vs'⟩ := by have := Hv.out; rw [hy'] at this; exact this
          subst hvy
          have hva : 0 ≤ v1 ∧ v1 ≤ 60 := hki'.ages _ (getX_mem hy').1
          obtain ⟨s1, hs1⟩ : ∃ s1, (sealedH ⟨y1, y2, y3, y4, y5, y6, y7⟩ ls ms).sum = s1 := ⟨_, rfl⟩
          obtain ⟨s2, hs2⟩ : ∃ s2, (sealedH ⟨y1, y2, y3, y4, y5, y6, y7⟩ ls ms).long = s2 := ⟨_, rfl⟩
          have hseal : sealedH ⟨y1, y2, y3, y4, y5, y6, y7⟩ ls ms = (⟨y1, y2, y3, y4, y5, s1, s2⟩ : Hd) := by rw [← hs1, ← hs2]; simp only [sealedH]
          simp only at hki' h1m
          rw [hseal] at hki'
          have Hki' := Lib.hid hki'
          have HS := Lib.hid (fun W (hW : Below w.heap.size w W) => refSealed_any y1 y2 y3 y4 y5 y6 y7 ka kc ls ma mc ms W w.heap.size (Hls.out.below hW) (Hms.out.below hW) hW.size Hn.out.2.2.1 Hn.out.2.2.2 nl nm Hn.out.1 Hn.out.2.1 h1m hs1 hs2)
          have Hmx := Lib.hid (show had = true → ∃ m, newerI ⟨v1, v2, v3, v4, v5, v6, v7⟩ ⟨u1, u2, u3, u4, u5, u6, u7⟩ = m ∧ ¬ m < 0 ∧ 0 ≤ u1 ∧ u1 ≤ 60 from by
            intro hh
            subst hh
            cases hg : getX ⟨y2, y3, y4⟩ M with
            | none => have := Hhad.out; rw [hg] at this; cases this
            | some was =>
              have hu2 := Hu.out
              rw [hg] at hu2
              simp only [Option.getD_some] at hu2
              have h3 := hwas was hg
              have h4 := Hki.out.ages was (getX_mem hg).1
              rw [hu2] at h3 h4
              exact ⟨_, rfl, by simp only at h3; omega, h4⟩)
          have Hva := Lib.hid hva
          have g0 : (n == 0) = false := by simpa using h0
          have g1 : (n == 1) = false := by simpa using hn1
          clear hright hki' hy hwas hy' hseal hs1 hs2 h1m hva hn1 h0
          obtain ⟨c0, c1, c2, c3, c4, c5, c6, c7, c8, cf⟩ := blk9 (F15.out.blks (gu, 27, #[.int .i64 u1, .int .i64 u2, .int .i64 u3, .int .i64 u4, .int .i64 u5, .int .i64 u6, .int .i64 u7, .slice Aa ul ca, .slice Ab um cb]) (by simp))
          obtain ⟨d0, d1, d2, d3, d4, d5, d6, d7, d8, df⟩ := blk9 (F15.out.blks (gv, 27, #[.int .i64 v1, .int .i64 v2, .int .i64 v3, .int .i64 v4, .int .i64 v5, .int .i64 v6, .int .i64 v7, .slice Ba vl da, .slice Bb vm db]) (by simp))
          go_upto_region 17 with fail
          go_cut [70] (fun t wx => t = .bool false ∧ FK w wx p b rm M' (.slice Av H.length cv) H [(gx, 27, #[.int .i64 y1, .int .i64 y2, .int .i64 y3, .int .i64 y4, .int .i64 y5, .int .i64 y6, .int .i64 y7, .slice ka nl kc, .slice ma nm mc])])
          case first =>
            cases had with
            | false =>
              go_wp2
              go_meet
              case rel => exact ⟨rfl, F15.out.one (by simp)⟩
            | true =>
              obtain ⟨m, hm, hm0, hu0, hu1⟩ := Hmx.out rfl
              have Hm := Lib.hid (fun W => newer_any v1 v2 v3 v4 v5 v6 v7 u1 u2 u3 u4 u5 u6 u7 W Hva.out.1 Hva.out.2 hu0 hu1 hm)
              clear hm hu0 hu1
              go_wp2_with (go_at_call 22; (with_reducible refine Calls.mono (Hm.out _) ?_); rintro r w16 ⟨rfl, hb16⟩; have F16 := Lib.hid (F15.out.keep hb16); clear hb16)
              go_meet
              case rel => exact ⟨by rw [decide_eq_false (by omega)], F16.out.one (by simp)⟩
          case rest =>
            obtain ⟨rfl, hf16⟩ := hcut
            obtain ⟨w16, rfl⟩ : ∃ w16 : World, w16 = wc := ⟨_, rfl⟩
            have F16 := Lib.hid hf16
            clear hf16 c0 c1 c2 c3 c4 c5 c6 c7 c8 cf d0 d1 d2 d3 d4 d5 d6 d7 d8 df
            obtain ⟨z0, z1, z2, z3, z4, z5, z6, z7, z8, zf⟩ := blk9 (F16.out.blks (gx, 27, #[.int .i64 y1, .int .i64 y2, .int .i64 y3, .int .i64 y4, .int .i64 y5, .int .i64 y6, .int .i64 y7, .slice ka nl kc, .slice ma nm mc]) (by simp))
            go_wp2_with fail
            with_reducible refine Calls.mono (HS.out _ F16.out.bel) ?_
            rintro r w17 ⟨Ca, ec, Cb, ed, rfl, -, -, hb17⟩
            have hfld := fld_lsa y1 y2 y3 y4 y5 s1 s2 Ca nl ec Cb nm ed
            have F17 := Lib.hid (F16.out.keep hb17)
            have F18 := Lib.hid (F17.out.keep (below_new w17 (.cells #[.int .i64 y1, .int .i64 y2, .int .i64 y3, .int .i64 y4, .int .i64 y5, .int .i64 s1, .int .i64 s2] 23)))
            have Hbk := Lib.hid (Blk.new w17 23 (Hd.cells (⟨y1, y2, y3, y4, y5, s1, s2⟩ : Hd)).toArray)
            have hH60 : H.length ≤ 60 := by have := HHk.out; have := Hlt.out; omega
            clear hb17 z0 z1 z2 z3 z4 z5 z6 z7 z8 zf
            go_wp2_with (at_builtin; (refine app_row Hd.cells (fun _ => rfl) (by decide) (bytes := 56) (by decide) infoHd3 rfl Try.underlying37 onesHd3 rfl _ _ rfl w.heap.size _ H rfl F18.out.own w17.heap.size (⟨y1, y2, y3, y4, y5, s1, s2⟩ : Hd) rfl Hbk.out (by omega) F18.out.bel.size ?_); intro v5 w19 hown hg19 hor; have F19 := Lib.hid (F18.out.app hown hg19 hor); obtain ⟨A5, c5, hv5⟩ := hown.shape; obtain ⟨n2, hn2⟩ : ∃ n2, (H ++ [(⟨y1, y2, y3, y4, y5, s1, s2⟩ : Hd)]).length = n2 := ⟨_, rfl⟩; rw [hn2] at hv5; subst hv5; have Hn2 := Lib.hid hn2; clear hn2; clear hown hg19 hor)
            obtain ⟨H2, hH2⟩ : ∃ H2, H ++ [(⟨y1, y2, y3, y4, y5, s1, s2⟩ : Hd)] = H2 := ⟨_, rfl⟩
            have hl2 : H2.length ≤ k + 1 := by rw [← hH2]; simp; have := HHk.out; omega
            rw [hH2] at F19 Hki' Hn2
            obtain rfl : n2 = H2.length := Hn2.out.symm
            have HR := Lib.hid (OwnR.rows (C := 7) (cells := Hd.cells) (fun _ => rfl) F19.out.own).2
            have Hl2 := Lib.hid hl2
            have hl3 : H2.length ≤ 61 := by have := Hlt.out; omega
            clear hH2 hfld hH60 hl2
            obtain ⟨wo, rfl⟩ : ∃ wo : World, wo = wr := ⟨_, rfl⟩
            go_loopw [79] (fun i wq => ∃ j : Nat, i = .int .i64 j ∧ j ≤ H2.length ∧ Below w19.heap.size w19 wq) (fun i _ => H2.length - (intOf i).toNat)
            case atStart => exact ⟨0, rfl, Nat.zero_le _, Below.refl _ _⟩
            case round =>
              obtain ⟨j, rfl, hj, hb⟩ := hrel
              have Hb := Lib.hid hb
              have Fr := Lib.hid (F19.out.keep hb)
              by_cases hjt : j < H2.length
              · obtain ⟨g2, o2, hA2, -, t0', t1', t2', t3', t4', t5', t6'⟩ := row_hd3 (HR.out.below hb) j hjt
                rw [hA2]
                have HA2 := Lib.hid hA2
                have hjl : (j : Int) < (H2.length : Int) := by omega
                obtain ⟨htg, y, hy, hym⟩ := Hki'.out.has H2[j] (List.getElem_mem hjt)
                have hya := Hki'.out.ages y (getX_mem hy).1
                have Hjt := Lib.hid hjt
                generalize H2[j] = h at *
                obtain ⟨t1, t2, t3, t4, t5, t6, t7⟩ := h
                obtain ⟨⟨p1, p2, p3, p4, p5, p6, p7⟩, qa, qc, qs, ra, rc, rs⟩ := y
                simp only at t0' t1' t2' t3' t4' t5' t6' htg hya
                have hy' : getX ⟨t2, t3, t4⟩ M' = some ⟨⟨p1, p2, p3, p4, p5, p6, p7⟩, qa, qc, qs, ra, rc, rs⟩ := hy
                obtain ⟨pl, hpl⟩ : ∃ pl, pl = qs.length := ⟨_, rfl⟩
                obtain ⟨pm, hpm⟩ : ∃ pm, pm = rs.length := ⟨_, rfl⟩
                obtain ⟨m, hm⟩ : ∃ m, newerI ⟨p1, p2, p3, p4, p5, p6, p7⟩ ⟨t1, t2, t3, t4, t5, t6, t7⟩ = m := ⟨_, rfl⟩
                simp only at hym
                rw [hm] at hym
                have hm0 : ¬ m < 0 := by omega
                have HG := Lib.hid (fun W (hW : FK w W p b rm M' (.slice A5 H2.length c5) H2 [(wr.heap.size, 23, #[.int .i64 t1, .int .i64 t2, .int .i64 t3, .int .i64 t4, .int .i64 t5, .int .i64 t6, .int .i64 t7])]) => DbGet p b rm M' t2 t3 t4 W hW.db (is := true) (by rw [hy']; rfl) (by rw [hy']; rfl) pl pm hpl hpm)
                have HM := Lib.hid (fun W => newer_any p1 p2 p3 p4 p5 p6 p7 t1 t2 t3 t4 t5 t6 t7 W hya.1 hya.2 htg.1 htg.2 hm)
                have F20 := Lib.hid (Fr.out.less.new 23 #[.int .i64 t1, .int .i64 t2, .int .i64 t3, .int .i64 t4, .int .i64 t5, .int .i64 t6, .int .i64 t7])
                have Hb20 := Lib.hid (below_trans Hb.out Hb.out.size (below_new wr (.cells #[.int .i64 t1, .int .i64 t2, .int .i64 t3, .int .i64 t4, .int .i64 t5, .int .i64 t6, .int .i64 t7] 23)))
                obtain ⟨w20, hw20⟩ : ∃ w20, wr.alloc (.cells #[.int .i64 t1, .int .i64 t2, .int .i64 t3, .int .i64 t4, .int .i64 t5, .int .i64 t6, .int .i64 t7] 23) = w20 := ⟨_, rfl⟩
                rw [hw20] at F20 Hb20
                obtain ⟨q0, q1, q2, q3, q4, q5, q6, qf⟩ := blk7k (F20.out.blks (wr.heap.size, 23, #[.int .i64 t1, .int .i64 t2, .int .i64 t3, .int .i64 t4, .int .i64 t5, .int .i64 t6, .int .i64 t7]) (by simp))
                clear hb hy hy' hym hya htg hpl hpm hm hA2 hjt
                go_wp2_with fail
                with_reducible refine Calls.mono (keyOf_any _ _ _ _ _ _ _ _) ?_
                rintro r w21 ⟨rfl, hb21⟩
                have F21 := Lib.hid (F20.out.keep hb21)
                have Hb21 := Lib.hid (below_trans Hb20.out Hb20.out.size hb21)
                clear hb21
                go_wp2_with fail
                with_reducible refine Calls.mono (HG.out _ F21.out) ?_
                rintro r w22 ⟨Da, fa, Db, fb, rfl, -, -, hb22⟩
                have F23 := Lib.hid ((F21.out.keep hb22).new 27 #[.int .i64 p1, .int .i64 p2, .int .i64 p3, .int .i64 p4, .int .i64 p5, .int .i64 p6, .int .i64 p7, .slice Da pl fa, .slice Db pm fb])
                have Hb23 := Lib.hid (below_trans Hb21.out Hb21.out.size (below_trans hb22 hb22.size (below_new w22 (.cells #[.int .i64 p1, .int .i64 p2, .int .i64 p3, .int .i64 p4, .int .i64 p5, .int .i64 p6, .int .i64 p7, .slice Da pl fa, .slice Db pm fb] 27))))
                obtain ⟨w23, hw23⟩ : ∃ w23, w22.alloc (.cells #[.int .i64 p1, .int .i64 p2, .int .i64 p3, .int .i64 p4, .int .i64 p5, .int .i64 p6, .int .i64 p7, .slice Da pl fa, .slice Db pm fb] 27) = w23 := ⟨_, rfl⟩
                rw [hw23] at F23 Hb23
                clear hb22 q0 q1 q2 q3 q4 q5 q6 qf
                obtain ⟨q0, q1, q2, q3, q4, q5, q6, qf⟩ := blk7k (F23.out.blks (wr.heap.size, 23, #[.int .i64 t1, .int .i64 t2, .int .i64 t3, .int .i64 t4, .int .i64 t5, .int .i64 t6, .int .i64 t7]) (by simp))
                obtain ⟨d0, d1, d2, d3, d4, d5, d6, d7, d8, df⟩ := blk9 (F23.out.blks (w22.heap.size, 27, #[.int .i64 p1, .int .i64 p2, .int .i64 p3, .int .i64 p4, .int .i64 p5, .int .i64 p6, .int .i64 p7, .slice Da pl fa, .slice Db pm fb]) (by simp))
                go_wp2_with (go_at_call 22; (with_reducible refine Calls.mono (HM.out _) ?_); rintro r w24 ⟨rfl, hb24⟩; have Hb24 := Lib.hid (below_trans Hb23.out Hb23.out.size hb24); clear hb24)
                go_roundw
                case measure => have := Hjt.out; simp [intOf]; omega
                case rel => exact ⟨j + 1, by go_num, Hjt.out, Hb24.out⟩
              · have hjl : ¬ (j : Int) < (H2.length : Int) := by omega
                have Fz := Lib.hid (F19.out.keep hb)
                clear hb
                go_wp2
                go_roundw
                case measure => have := Hlt.out; simp [intOf]; omega
                case rel => exact ⟨k + 1, M', H2, by go_num, Hlt.out, Fz.out.less, Hki'.out, Hl2.out⟩
      · have hkl : ¬ (k : Int) < (l.length : Int) := by omega
        clear hfk hki hHk hlt
        go_wp2
        go_ret
        exact ⟨rfl, Hfk.out.bel⟩

end Go.Proofs.Ytmjjmkdjjfmhhaa
