/-
  The law SummSync: its walk.
-/
import Derived.Test.YtpnbibokddhheaaGreatBai
import Derived.Test.YtpnbibokddhheaaGreatBaj
import Derived.Test.YtpnbibokddhheaaGreatBal
import Derived.Test.YtpnbibokddhheaaGreatBam
import Derived.Test.YtpnbibokddhheaaGreatBan
namespace Go.Proofs.YtpnbibokddhheaaGreat
open Go.RowKit Go.Sort

theorem heads_told {N : List Lsa} (h : ages13 N) : headsOf N = toldL N := by
  unfold headsOf toldL
  congr 1
  refine List.filter_congr fun x hx => ?_
  have := h x hx
  by_cases hx60 : x.head.age = 60
  · simp [hx60]
  · simp [hx60]; omega
theorem stbS_sorted {L : List Hd} (h : sortedH L) : stbS L = L := by
  refine (stbS_is (Stb.refl ?_)).symm
  unfold SrtL
  refine h.imp fun {a b} hab => ?_
  unfold ltS
  cases e : lessK (keyH b) (keyH a) with
  | false => rfl
  | true => have := lessK_trans hab e; rw [lessK_irr] at this; cases this
theorem ages_perm {N F : List Lsa} (hp : (N.map vX).Perm (F.map vX)) (h : ages13 F) : ages13 N := fun y hy => by
  have hm : vX y ∈ F.map vX := hp.subset (List.mem_map_of_mem hy)
  obtain ⟨x, hx, e⟩ := List.mem_map.1 hm
  have := h x hx
  rw [show x.head = y.head from congrArg (fun v : VX => v.1) e] at this
  exact this
/-- where a summary stands behind k pieces -/
def atP (k n : Nat) : Nat := if 3 * k < n then 3 * k else n
theorem atP_le (k n : Nat) : atP k n ≤ n := by unfold atP; split <;> omega
theorem atP_next (k n : Nat) : nextAt (atP k n) n = atP (k + 1) n := by
  unfold nextAt atP
  split <;> split <;> split <;> omega
theorem take_piece {H : List Hd} {k n : Nat} (hn : H.length = n) : H.take (3 * k) ++ pieceAt H (atP k n) = H.take (3 * (k + 1)) := by
  unfold atP pieceAt
  by_cases h : 3 * k < n
  · rw [if_pos h, show 3 * (k + 1) = 3 * k + 3 by omega, List.take_add]
  · have h1 : H.drop n = [] := List.drop_eq_nil_of_le (by omega)
    have h2 : H.take (3 * k) = H := List.take_of_length_le (by omega)
    have h3 : H.take (3 * (k + 1)) = H := List.take_of_length_le (by omega)
    rw [if_neg h, h1, h2, h3]
    simp
/-- all of it -/
structure SyncM (w W : World) (p1 b1 p2 b2 : Nat) (F T : List Lsa) (B : Nat) (vh vd : Value) (Hs D R : List Hd) : Prop where
  two : TwoDb w W p1 b1 p2 b2 F T
  hd : OwnR 27 7 Hd.cells W B vh Hs
  dl : OwnR 27 7 Hd.cells W B vd D
  load : LoadAt T Hs R
section
variable {w W W' : World} {p1 b1 p2 b2 B : Nat} {F T : List Lsa} {vh vd : Value} {Hs D R : List Hd} {r : Hd}
theorem SyncM.keep (h : SyncM w W p1 b1 p2 b2 F T B vh vd Hs D R) (hb : Below W.heap.size W W') : SyncM w W' p1 b1 p2 b2 F T B vh vd Hs D R :=
  ⟨h.two.keep hb, h.hd.below hb, h.dl.below hb, h.load⟩
theorem SyncM.put (h : SyncM w W p1 b1 p2 b2 F T B vh vd Hs D (r :: R)) (hs : sortedH Hs) {z : Lsa} (hd : DbAt W' p2 b2 40 (setX z T)) (hz : z.head = r) (hok : DbOk (setX z T)) (hg : W.grownBy W' (some b2)) : SyncM w W' p1 b1 p2 b2 F (setX z T) B vh vd Hs D R :=
  ⟨h.two.put2 hd hok hg, h.hd.other h.two.dt.map hg, h.dl.other h.two.dt.map hg, h.load.put hs hz hok⟩
end
theorem tell_app {v u : Value} {B : Nat} (h1 : ∀ m, v.ownBlock = some m → m < B) (h2 : ∀ m, u.ownBlock = some m → B ≤ m) : v.ownBlock = none ∨ v.ownBlock ≠ u.ownBlock := by
  cases hv : v.ownBlock with
  | none => exact .inl rfl
  | some m => exact .inr (fun e => by have := h1 m hv; have := h2 m e.symm; omega)
theorem own_at7b {W : World} {B n c : Nat} {A : Option Addr} {L : List Hd} (h : OwnR 27 7 Hd.cells W B (.slice A n c) L) (k : Nat) (hk : k < L.length) : ∃ g, A = some ⟨g, 0, none⟩ ∧ W.cell? ⟨g, k * 7, none⟩ = some (.int .i64 L[k].age) ∧ W.cell? ⟨g, k * 7 + 1, none⟩ = some (.int .i64 L[k].kind) ∧ W.cell? ⟨g, k * 7 + 2, none⟩ = some (.int .i64 L[k].id) ∧ W.cell? ⟨g, k * 7 + 3, none⟩ = some (.int .i64 L[k].adv) ∧ W.cell? ⟨g, k * 7 + 4, none⟩ = some (.int .i64 L[k].seq) ∧ W.cell? ⟨g, k * 7 + 5, none⟩ = some (.int .i64 L[k].sum) ∧ W.cell? ⟨g, k * 7 + 6, none⟩ = some (.int .i64 L[k].long) := by
  obtain ⟨g, c', hv, z⟩ := row_own7 h k hk
  injection hv with hv
  exact ⟨g, hv, z⟩
set_option maxHeartbeats 32000000 in
set_option maxRecDepth 100000 in
theorem summSync_any (A : Option Addr) (cap : Nat) (la : List Lsa) (A2 : Option Addr) (cap2 : Nat) (lb : List Lsa) (w : World) (hl : LsasAt w w.heap.size A la) (hm : la.length ≤ maxLen) (hl2 : LsasAt w w.heap.size A2 lb) (hm2 : lb.length ≤ maxLen) :
    Calls Tryz.prog 5 #[.slice A la.length cap, .slice A2 lb.length cap2] w fun r w' => r = .returned (.bool true) ∧ Below w.heap.size w w' := by
  have HL := Lib.hid hl
  have HL2 := Lib.hid hl2
  obtain ⟨t, ht⟩ : ∃ t, manyB 60 la = t := ⟨_, rfl⟩
  obtain ⟨t2, ht2⟩ : ∃ t, manyB 60 lb = t := ⟨_, rfl⟩
  have HMany := Lib.hid (fun W (hW : Below w.heap.size w W) => many13 A cap la W w.heap.size (hl.rows.below hW) hW.size hm la.length rfl ht)
  have HMany2 := Lib.hid (fun W (hW : Below w.heap.size w W) => many13 A2 cap2 lb W w.heap.size (hl2.rows.below hW) hW.size hm2 lb.length rfl ht2)
  have Ht := Lib.hid ht
  have Ht2 := Lib.hid ht2
  clear hl hm hl2 hm2 ht ht2
  go_enter Tryz.func5, Tryz.ntmps5
  go_wp2_with fail
  with_reducible refine Calls.mono (wakes13 _) ?_
  rintro r w1 ⟨rfl, hb1⟩
  have Hb1 := Lib.hid hb1
  clear hb1
  go_wp2_with fail
  with_reducible refine Calls.mono (HMany.out _ Hb1.out) ?_
  rintro r w2 ⟨rfl, hb2⟩
  have Hb2 := Lib.hid (below_trans Hb1.out Hb1.out.size hb2)
  clear hb2
  cases t with
  | true =>
    go_wp2
    go_ret
    exact ⟨rfl, Hb2.out⟩
  | false =>
  go_wp2_with fail
  with_reducible refine Calls.mono (HMany2.out _ Hb2.out) ?_
  rintro r w3 ⟨rfl, hb3⟩
  have Hb3 := Lib.hid (below_trans Hb2.out Hb2.out.size hb3)
  clear hb3
  cases t2 with
  | true =>
    go_wp2
    go_ret
    exact ⟨rfl, Hb3.out⟩
  | false =>
  obtain ⟨hl60, hlens⟩ := manyB_lens Ht.out
  obtain ⟨hl60b, hlensb⟩ := manyB_lens Ht2.out
  have HBo := Lib.hid (fun W (hW : Below w.heap.size w W) => both13k_any A cap la W ((HL.out.rows.below hW).more hW.size) (fun x hx => ⟨((HL.out.each x hx).links.below hW).more hW.size, ((HL.out.each x hx).members.below hW).more hW.size⟩) hlens hl60 la.length rfl)
  have HBo2 := Lib.hid (fun W (hW : Below w.heap.size w W) => both13k_any A2 cap2 lb W ((HL2.out.rows.below hW).more hW.size) (fun x hx => ⟨((HL2.out.each x hx).links.below hW).more hW.size, ((HL2.out.each x hx).members.below hW).more hW.size⟩) hlensb hl60b lb.length rfl)
  clear hlens hl60 hlensb hl60b
  go_wp2_with fail
  with_reducible refine Calls.mono (HBo.out _ Hb3.out) ?_
  rintro r w4 ⟨p1, b1, q1, F, v1, L1, rfl, hbk1, hok1⟩
  have Hd4 := Lib.hid (show DbAt w4 p1 b1 40 F ∧ w.heap.size ≤ b1 ∧ DbOk F from ⟨hbk1.db, by have := hbk1.lb; have := Hb3.out.size; omega, hok1⟩)
  have Hb4 := Lib.hid (below_trans Hb3.out Hb3.out.size hbk1.bel)
  clear hbk1 hok1
  go_wp2_with fail
  with_reducible refine Calls.mono (HBo2.out _ Hb4.out) ?_
  rintro r w5 ⟨p2, b2, q2, T, v2, L2, rfl, hbk2, hok2⟩
  have HTw := Lib.hid (show TwoDb w w5 p1 b1 p2 b2 F T from ⟨below_trans Hb4.out Hb4.out.size hbk2.bel, Hd4.out.1.keep hbk2.bel, hbk2.db, by have := Hd4.out.1.map.lt; have := hbk2.lb; omega, Hd4.out.2.1, by have := hbk2.lb; have := Hb4.out.size; omega, Hd4.out.2.2, hok2⟩)
  clear hbk2 hok2
  have HAl := Lib.hid (fun W (hd : DbAt W p1 b1 40 F) => DbAll_any p1 b1 40 F W hd HTw.out.okF.nodup (by have := HTw.out.okF.len; omega))
  go_wp2_with fail
  with_reducible refine Calls.mono (HAl.out _ HTw.out.fr) ?_
  rintro r w6 ⟨⟨vN, N, ⟨rfl, hxN, hpN, hsN⟩⟩, hb6⟩
  obtain ⟨AN, cN, hvN⟩ := hxN.own.shape
  subst hvN
  have hN60 : N.length ≤ 40 := by have h1 := hpN.length_eq; rw [List.length_map, List.length_map] at h1; have := HTw.out.okF.len; omega
  have hNa := ages_perm hpN HTw.out.okF.ages
  have hSt : stbS (headsOf N) = toldL N := by rw [heads_told hNa]; exact stbS_sorted (told_sorted hsN)
  obtain ⟨H, hH⟩ : ∃ H, toldL N = H := ⟨_, rfl⟩
  have hHl : H.length ≤ 40 := by rw [← hH]; exact Nat.le_trans (told_len N) hN60
  have hsH : sortedH H := by rw [← hH]; exact told_sorted hsN
  have hagH : agesH H := by
    rw [← hH]
    intro x hx
    obtain ⟨y, hy, e, -⟩ := told_mem hpN HTw.out.okF.nodup hx
    rw [← e]
    exact HTw.out.okF.ages y hy
  rw [hH] at hSt
  obtain ⟨nN, hnN⟩ : ∃ n, N.length = n := ⟨_, rfl⟩
  have HNw := Lib.hid (SuNew_any AN cN N w6 w6.heap.size (OwnR.rows (C := 9) (cells := Lsa.cells) (fun _ => rfl) hxN.own).2 (Nat.le_refl _) (by omega) nN hnN.symm (stbS (headsOf N)) (fun W v ho => sortStb v _ _ W ho (by have := heads_len N; omega)))
  rw [hSt] at HNw
  obtain ⟨nH, hnH⟩ : ∃ n, H.length = n := ⟨_, rfl⟩
  rw [hnN]
  have HpN := Lib.hid (show (N.map vX).Perm (F.map vX) ∧ toldL N = H ∧ stbS (headsOf N) = H from ⟨hpN, hH, hSt⟩)
  have HsH := Lib.hid hsH
  have HagH := Lib.hid hagH
  have HnH := Lib.hid hnH
  have HT6 := Lib.hid (HTw.out.keep hb6)
  have hnHb : nH ≤ 40 := by omega
  clear hxN hpN hsN hb6 hN60 hNa hSt hH hHl hsH hagH hnN hnH HTw
  go_wp2_with fail
  with_reducible refine Calls.mono HNw.out ?_
  rintro r w7 ⟨rfl, ⟨vS, hsm⟩, hb7⟩
  obtain ⟨s, hs⟩ : ∃ s, w6.heap.size = s := ⟨_, rfl⟩
  rw [hs] at hsm ⊢
  have Hs := Lib.hid hs
  have Hsm := Lib.hid hsm
  have Hb7 := Lib.hid hb7
  have HvS := Lib.hid (show (∀ m, vS.ownBlock = some m → m < w7.heap.size) ∧ s < w7.heap.size ∧ w6.heap.size ≤ w7.heap.size from ⟨fun m e => (hsm.own.block m e).2, hsm.ptr.lt, hb7.size⟩)
  clear hsm hb7 hs
  go_wp2
  go_loopw [9, 11] (fun v9 v11 wr => ∃ k : Nat, v11 = .int .i64 k ∧ k ≤ 20 ∧ Hid (OwnR 27 7 Hd.cells wr w7.heap.size v9 (H.take (3 * k)) ∧ SmAt wr s vS (atP k nH : Nat) H ∧ Below w6.heap.size w6 wr ∧ w7.heap.size ≤ wr.heap.size)) (fun _ v11 _ => 20 - (intOf v11).toNat)
  case atStart => exact ⟨0, rfl, by omega, Lib.hid ⟨OwnR.nil _ _, by have : atP 0 nH = 0 := by { unfold atP; split <;> omega }; rw [this]; exact Hsm.out, Hb7.out, Nat.le_refl _⟩⟩
  case round =>
    obtain ⟨k, rfl, hk, HJ⟩ := hrel
    clear Hsm Hb7
    obtain ⟨A9, c9, hv9⟩ := HJ.out.1.shape
    subst hv9
    by_cases hlt : k < 20
    · have hkl : (k : Int) < 20 := by omega
      have hpl := piece_len H (atP k nH) (by rw [HnH.out]; exact atP_le k nH)
      have hpl3 : (pieceAt H (atP k nH)).length ≤ 3 := by unfold pieceAt; rw [List.length_take]; omega
      have HPc := Lib.hid (SuPiece_any s vS (atP k nH) H wr HJ.out.2.1 (by rw [HnH.out]; exact atP_le k nH) (by have := HnH.out; omega))
      obtain ⟨K, hK⟩ : ∃ K, H.take (3 * k) = K := ⟨_, rfl⟩
      have hKl : K.length ≤ 40 := by rw [← hK, List.length_take]; have := HnH.out; omega
      obtain ⟨Q, hQ⟩ : ∃ Q, pieceAt H (atP k nH) = Q := ⟨_, rfl⟩
      have hnext : K ++ Q = H.take (3 * (k + 1)) := by rw [← hK, ← hQ]; exact take_piece HnH.out
      rw [hQ] at HPc hpl3
      have Hnext := Lib.hid hnext
      have HO := HJ.out.1
      rw [hK] at HO ⊢
      have HOw := Lib.hid HO
      have HKl := Lib.hid (show K.length ≤ 40 ∧ Q.length ≤ 3 from ⟨hKl, hpl3⟩)
      clear hpl hpl3 hK hKl hQ hnext HO
      go_wp2_with fail
      with_reducible refine Calls.mono HPc.out ?_
      rintro r w8 ⟨⟨v8, rfl, ho8⟩, hb8⟩
      obtain ⟨A8, c8, hv8⟩ := ho8.shape
      subst hv8
      have HO8 := Lib.hid (HOw.out.below hb8)
      have Hsm8 := Lib.hid (HJ.out.2.1.keep hb8)
      have Hb8 := Lib.hid (below_trans HJ.out.2.2.1 HJ.out.2.2.1.size hb8)
      have HR8 := Lib.hid (OwnR.rows (C := 7) (cells := Hd.cells) (fun _ => rfl) ho8).2
      have Hs8 := Lib.hid (show w7.heap.size ≤ w8.heap.size from Nat.le_trans HJ.out.2.2.2 hb8.size)
      clear ho8 hb8
      go_wp2_with (at_builtin; (refine app_rows (e := 27) Hd.cells (fun _ => rfl) (by decide) (bytes := 56) (by decide) infoHd13 rfl Tryz.underlying58 onesHd13 (by rfl) _ _ (by rfl) w7.heap.size _ K (by rfl) HO8.out A8 _ Q.length Q rfl (by rfl) HR8.out (by have := HKl.out; omega) Hs8.out ?_); intro v6 w9 hown9 hg9 hor9; have O9 := Lib.hid hown9; have Hsm9 := Lib.hid (show SmAt w9 s vS (atP k nH : Nat) H from ⟨Hsm8.out.ptr.grown hg9 (fun e => by have := (HO8.out.block s e.symm).1; have := HvS.out; omega), Hsm8.out.own.kept hg9 (tell_app HvS.out.1 (fun m e => (HO8.out.block m e).1))⟩); have Hb9 := Lib.hid (show Below w6.heap.size w6 w9 from Hb8.out.grown hg9 Hb8.out.size (fun m e => by have := (HO8.out.block m e).1; have := HvS.out; omega)); have Hz9 := Lib.hid (show w7.heap.size ≤ w9.heap.size from Nat.le_trans Hs8.out hg9.size); clear hown9 hg9 hor9)
      have HSt := Lib.hid (SuStep_any s vS (atP k nH) H w9 Hsm9.out (by rw [HnH.out]; exact atP_le k nH) (by have := HnH.out; omega))
      rw [HnH.out, atP_next] at HSt
      have Hlt := Lib.hid hlt
      clear hlt hk
      go_wp2_with fail
      with_reducible refine Calls.mono HSt.out ?_
      rintro r w10 ⟨rfl, hsm10, hg10⟩
      have HE := Lib.hid (show OwnR 27 7 Hd.cells w10 w7.heap.size v6 (H.take (3 * (k + 1))) ∧ SmAt w10 s vS (atP (k + 1) nH : Nat) H ∧ Below w6.heap.size w6 w10 ∧ w7.heap.size ≤ w10.heap.size from ⟨by rw [← Hnext.out]; exact O9.out.kept hg10 (.inr (fun e => by have := (O9.out.block s e).1; have := HvS.out; omega)), hsm10, Hb9.out.grown hg10 Hb9.out.size (fun m e => by injection e with e; have := Hs.out; omega), Nat.le_trans Hz9.out hg10.size⟩)
      clear hsm10 hg10
      go_wp2
      go_roundw
      case measure => have := Hlt.out; simp [intOf]; omega
      case rel => exact ⟨k + 1, by go_num, Hlt.out, HE⟩
    · have hkl : ¬ (k : Int) < 20 := by omega
      have hHt : H.take (3 * k) = H := List.take_of_length_le (by have := HnH.out; omega)
      have hO := HJ.out.1
      have hT7 := HT6.out.keep HJ.out.2.2.1
      rw [hHt] at hO ⊢
      rw [HnH.out] at hO ⊢
      have HO := Lib.hid hO
      have HT7 := Lib.hid hT7
      have HLk := Lib.hid (fun T2 W (hd : DbAt W p2 b2 40 T2) (hok : DbOk T2) (ho : OwnR 27 7 Hd.cells W w7.heap.size (.slice A9 nH c9) H) => Lacks_any p2 b2 40 T2 A9 c9 H W W.heap.size hd hok.ages (OwnR.rows (C := 7) (cells := Hd.cells) (fun _ => rfl) ho).2 (Nat.le_refl _) (by have := HnH.out; omega) HagH.out nH HnH.out.symm)
      obtain ⟨D, hD⟩ : ∃ D, lackAll T H = D := ⟨_, rfl⟩
      have HLd := Lib.hid (show LoadAt T H D by rw [← hD]; exact LoadAt.start HT7.out.okT HsH.out)
      obtain ⟨nD, hnD⟩ : ∃ n, D.length = n := ⟨_, rfl⟩
      have hnDb : nD ≤ 40 := by rw [← hnD, ← hD, lackAll_filter HsH.out]; have := List.length_filter_le (fun h => !hasIt T h) H; have := HnH.out; omega
      have HnD := Lib.hid hnD
      have HD := Lib.hid hD
      clear hlt hk hHt hO hT7 hnD hD
      go_wp2_with fail
      with_reducible refine Calls.mono (HLk.out T _ HT7.out.dt HT7.out.okT HO.out) ?_
      rintro r w11 ⟨⟨v11, rfl, ho11⟩, hb11⟩
      rw [HD.out] at ho11
      obtain ⟨A11, c11, hv11⟩ := ho11.shape
      rw [HnD.out] at hv11
      subst hv11
      have HSy := Lib.hid (show SyncM w w11 p1 b1 p2 b2 F T w7.heap.size (.slice A9 nH c9) (.slice A11 nD c11) H D D from ⟨HT7.out.keep hb11, HO.out.below hb11, ho11.lower HJ.out.2.2.2, HLd.out⟩)
      have HF := Lib.hid HT7.out.okF
      clear ho11 hb11
      go_wp2
      go_loopw [51, 13, 14, 15] (fun v51 v13 v14 v15 wr => ∃ (j : Nat) (T : List Lsa), v51 = .int .i64 j ∧ j ≤ nD ∧ SyncM w wr p1 b1 p2 b2 F T w7.heap.size (.slice A9 nH c9) (.slice A11 nD c11) H D (D.drop j)) (fun v51 _ _ _ _ => nD - (intOf v51).toNat)
      case atStart => exact ⟨0, T, rfl, Nat.zero_le _, by rw [List.drop_zero]; exact HSy.out⟩
      case round =>
        obtain ⟨j, T, rfl, hj, hsy⟩ := hrel
        have HSj := Lib.hid hsy
        clear HSy HJ HO HT7 HLd
        by_cases hjl : j < nD
        · have hjli : (j : Int) < (nD : Int) := by omega
          have hjD : j < D.length := by rw [HnD.out]; exact hjl
          obtain ⟨g11, hA11, x0, x1, x2, x3, x4, x5, x6⟩ := own_at7b hsy.dl j hjD
          have hdc : D.drop j = D[j] :: D.drop (j + 1) := List.drop_eq_getElem_cons hjD
          rw [hdc] at hsy
          have hrH := hsy.load.sub _ (List.mem_cons_self (a := D[j]) (l := D.drop (j + 1)))
          subst hA11
          generalize D[j] = r at *
          rw [← HpN.out.2.1] at hrH
          obtain ⟨y, hyF, hyh, hyg⟩ := told_mem HpN.out.1 HF.out.nodup hrH
          obtain ⟨⟨y1, y2, y3, y4, y5, y6, y7⟩, ka, kc, ls, ma, mc, ms⟩ := y
          simp only at hyh
          subst hyh
          simp only at x0 x1 x2 x3 x4 x5 x6
          have har := HF.out.right _ hyF
          have has := HF.out.sealed _ hyF
          simp only at has
          have hle := hsy.two.fr.lens _ hyF
          simp only at hle
          obtain ⟨nl, hnl⟩ : ∃ nl, nl = ls.length := ⟨_, rfl⟩
          obtain ⟨nm, hnm⟩ : ∃ nm, nm = ms.length := ⟨_, rfl⟩
          have hgk : getX ⟨y2, y3, y4⟩ F = some ⟨⟨y1, y2, y3, y4, y5, y6, y7⟩, ka, kc, ls, ma, mc, ms⟩ := hyg
          have HGt := Lib.hid (fun W (hd : DbAt W p1 b1 40 F) => DbGet p1 b1 40 F y2 y3 y4 W hd (is := true) (by rw [hgk]; rfl) (by rw [hgk]; rfl) nl nm hnl hnm)
          obtain ⟨w12, hw12⟩ : ∃ w12, wr.alloc (.cells #[.int .i64 y1, .int .i64 y2, .int .i64 y3, .int .i64 y4, .int .i64 y5, .int .i64 y6, .int .i64 y7] 27) = w12 := ⟨_, rfl⟩
          obtain ⟨g13, hg13⟩ : ∃ g, wr.heap.size = g := ⟨_, rfl⟩
          have hk12 := Blk.new wr 27 #[.int .i64 y1, .int .i64 y2, .int .i64 y3, .int .i64 y4, .int .i64 y5, .int .i64 y6, .int .i64 y7]
          have hb12 := below_new wr (.cells #[.int .i64 y1, .int .i64 y2, .int .i64 y3, .int .i64 y4, .int .i64 y5, .int .i64 y6, .int .i64 y7] 27)
          rw [hw12, hg13] at hk12
          rw [hw12] at hb12
          have hs12 := hsy.keep hb12
          have HS12 := Lib.hid hs12
          obtain ⟨z0, z1, z2, z3, z4, z5, z6⟩ : _ ∧ _ ∧ _ ∧ _ ∧ _ ∧ _ ∧ _ := ⟨hk12.cell 0, hk12.cell 1, hk12.cell 2, hk12.cell 3, hk12.cell 4, hk12.cell 5, hk12.cell 6⟩
          simp only [List.getElem?_toArray, List.getElem?_cons_zero, List.getElem?_cons_succ] at z0 z1 z2 z3 z4 z5 z6
          have Har := Lib.hid har
          have Has := Lib.hid has
          have Hle := Lib.hid hle
          have Hnl := Lib.hid hnl
          have Hnm := Lib.hid hnm
          have Hjl := Lib.hid hjl
          clear hdc hjD hsy hrH hyF hyg har has hle hnl hnm hgk hk12 hb12 hs12 hjl hj
          go_wp2_with fail
          with_reducible refine Calls.mono (keyOf_any _ _ _ _ _ _ _ _) ?_
          rintro r w13 ⟨rfl, hb13⟩
          have HS13 := Lib.hid (HS12.out.keep hb13)
          clear hb13 z0 z1 z2 z3 z4 z5 z6 hw12 hg13
          go_wp2_with fail
          with_reducible refine Calls.mono (HGt.out _ HS13.out.two.fr) ?_
          rintro r w14 ⟨Aa, ca, Ab, cb, rfl, oa, ob, hb14⟩
          have HS14 := Lib.hid (HS13.out.keep hb14)
          obtain ⟨w15, hw15⟩ : ∃ v, w14.alloc (.cells #[.int .i64 y1, .int .i64 y2, .int .i64 y3, .int .i64 y4, .int .i64 y5, .int .i64 y6, .int .i64 y7, .slice Aa nl ca, .slice Ab nm cb] 31) = v := ⟨_, rfl⟩
          obtain ⟨g15, hg15⟩ : ∃ g, w14.heap.size = g := ⟨_, rfl⟩
          have hb15 := below_new w14 (.cells #[.int .i64 y1, .int .i64 y2, .int .i64 y3, .int .i64 y4, .int .i64 y5, .int .i64 y6, .int .i64 y7, .slice Aa nl ca, .slice Ab nm cb] 31)
          have hk15 := Blk.new w14 31 #[.int .i64 y1, .int .i64 y2, .int .i64 y3, .int .i64 y4, .int .i64 y5, .int .i64 y6, .int .i64 y7, .slice Aa nl ca, .slice Ab nm cb]
          rw [hw15, hg15] at hk15
          rw [hw15] at hb15
          have HS15 := Lib.hid (HS14.out.keep hb15)
          have hra := (OwnR.rows (C := 4) (cells := Lnk.cells) (fun _ => rfl) (oa.below hb15)).2
          have hrb := (OwnR.rows (C := 1) (cells := icell) (fun _ => rfl) (ob.below hb15)).2
          obtain ⟨z0, z1, z2, z3, z4, z5, z6, z7, z8, zf⟩ := blk9 hk15
          have hle := Hle.out
          have har : rightB ⟨⟨y1, y2, y3, y4, y5, y6, y7⟩, Aa, ca, ls, Ab, cb, ms⟩ = true := by rw [← Har.out]; exact right_v rfl
          by_cases hroom : (getX ⟨y2, y3, y4⟩ T).isSome = true ∨ (T.length : Int) ≠ 40
          · have HP := Lib.hid (DbPut_ok p2 b2 40 T y1 y2 y3 y4 y5 y6 y7 Aa ca ls Ab cb ms w15 HS15.out.two.dt hra hrb (by omega) (by omega) nl nm Hnl.out Hnm.out har rfl hroom)
            have Hroom := Lib.hid hroom
            have HarA := Lib.hid har
            clear hroom oa ob hb14 hb15 hk15 hra hrb hle har
            go_wp2_with fail
            with_reducible refine Calls.mono HP.out ?_
            rintro r w16 ⟨rfl, ⟨Ac, cc, Ad, cd, -, -, hd16⟩, hg16⟩
            have hz : (⟨sealedH ⟨y1, y2, y3, y4, y5, y6, y7⟩ ls ms, Ac, cc, ls, Ad, cd, ms⟩ : Lsa).head = ⟨y1, y2, y3, y4, y5, y6, y7⟩ := Has.out
            have hokz : DbOk (setX ⟨sealedH ⟨y1, y2, y3, y4, y5, y6, y7⟩ ls ms, Ac, cc, ls, Ad, cd, ms⟩ T) := by
              refine HS15.out.two.okT.set_ ?_ (seal_again _ _ _) ?_
              · rw [← HarA.out]; exact right_v (by unfold vX; rw [hz])
              · exact Hroom.out
            have HSn := Lib.hid (HS15.out.put HsH.out hd16 hz hokz hg16)
            clear hd16 hg16 hz hokz z0 z1 z2 z3 z4 z5 z6 z7 z8 zf
            go_wp2
            go_roundw
            case measure => have := Hjl.out; simp [intOf]; omega
            case rel => exact ⟨j + 1, _, by go_num, Hjl.out, HSn.out⟩
          · have h1 : (getX ⟨y2, y3, y4⟩ T).isSome = false := by
              cases hs : (getX ⟨y2, y3, y4⟩ T).isSome with
              | false => rfl
              | true => exact absurd (.inl hs) hroom
            have h2 : (T.length : Int) = 40 := Decidable.byContradiction fun c => hroom (.inr c)
            have HP := Lib.hid (DbPut_full p2 b2 40 T y1 y2 y3 y4 y5 y6 y7 Aa ca ls Ab cb ms w15 HS15.out.two.dt hra hrb (by omega) (by omega) nl nm Hnl.out Hnm.out har h1 h2)
            clear hroom oa ob hb14 hb15 hk15 hra hrb hle har h1
            go_wp2_with fail
            with_reducible refine Calls.mono HP.out ?_
            rintro r w16 ⟨rfl, hb16⟩
            have HS16 := Lib.hid (HS15.out.keep hb16)
            have HLe := Lib.hid (DbLen p2 b2 40 T w16 HS16.out.two.dt)
            clear hb16 z0 z1 z2 z3 z4 z5 z6 z7 z8 zf
            go_wp2_with fail
            with_reducible refine Calls.mono HLe.out ?_
            rintro r w17 ⟨rfl, rfl⟩
            go_wp2
            go_ret
            exact ⟨rfl, HS16.out.two.bel⟩
        · have hjli : ¬ (j : Int) < (nD : Int) := by omega
          obtain rfl : j = nD := by omega
          rw [← HnD.out, List.drop_length] at hsy
          have hdone := hsy.load.done HsH.out
          have HLz := Lib.hid (fun W (hd : DbAt W p2 b2 40 T) (ho : OwnR 27 7 Hd.cells W w7.heap.size (.slice A9 nH c9) H) => HLk.out T W hd hsy.two.okT ho)
          rw [hdone] at HLz
          have hfl := hsy.two.okF.len
          clear hj hjl hsy hdone
          go_wp2_with fail
          with_reducible refine Calls.mono (HLz.out _ HSj.out.two.dt HSj.out.hd) ?_
          rintro r w14 ⟨⟨v14, rfl, ho14⟩, hb14⟩
          obtain ⟨A14, c14, hv14⟩ := ho14.shape
          subst hv14
          have hnil : ([] : List Hd).length = 0 := rfl
          rw [hnil]
          have HS14 := Lib.hid (HSj.out.keep hb14)
          clear ho14 hb14 hnil
          go_wp2_with fail
          with_reducible refine Calls.mono (HAl.out _ HS14.out.two.fr) ?_
          rintro r w15 ⟨⟨vM, N2, ⟨rfl, hxM, hpM, hsM⟩⟩, hb15⟩
          obtain ⟨AM, cM, hvM⟩ := hxM.own.shape
          subst hvM
          obtain ⟨nM, hnM⟩ : ∃ n, N2.length = n := ⟨_, rfl⟩
          have hnMl : nM = F.length := by have h1 := hpM.length_eq; rw [List.length_map, List.length_map] at h1; omega
          rw [hnM]
          have HGn := Lib.hid (SuGoneK AM cM N2 w15 w15.heap.size (OwnR.rows (C := 9) (cells := Lsa.cells) (fun _ => rfl) hxM.own).2 (Nat.le_refl _) (by omega) nM hnM.symm)
          have hgt := gone_told hpM HpN.out.1 hsM.keys
          rw [HpN.out.2.2, HnH.out] at hgt
          obtain ⟨nG, hnG⟩ : ∃ n, (goneL (goneOf N2)).length = n := ⟨_, rfl⟩
          rw [hnG] at hgt
          have HnG := Lib.hid hnG
          have HS15 := Lib.hid (HS14.out.keep hb15)
          obtain ⟨nF, hnF⟩ : ∃ n, F.length = n := ⟨_, rfl⟩
          have HLe := Lib.hid (fun W (hd : DbAt W p1 b1 40 F) => DbLen p1 b1 40 F W hd)
          rw [hnF] at HLe hgt hfl
          have hsum : (nH : Int) + (nG : Int) = (nF : Int) := by omega
          have hnGb : nG ≤ 40 := by omega
          have hnFb : nF ≤ 40 := hfl
          clear hxM hpM hsM hb15 hnM hnMl hgt hnG hnF hfl
          go_wp2_with fail
          with_reducible refine Calls.mono HGn.out ?_
          rintro r w16 ⟨⟨v16, rfl, ho16⟩, hb16⟩
          obtain ⟨A16, c16, hv16⟩ := ho16.shape
          rw [HnG.out] at hv16
          subst hv16
          have HS16 := Lib.hid (HS15.out.keep hb16)
          clear ho16 hb16
          go_wp2_with fail
          with_reducible refine Calls.mono (HLe.out _ HS16.out.two.fr) ?_
          rintro r w17 ⟨rfl, rfl⟩
          go_wp2
          go_ret
          exact ⟨rfl, HS16.out.two.bel⟩

end Go.Proofs.YtpnbibokddhheaaGreat
