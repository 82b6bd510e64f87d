/-
  The law SummLacks: its walk.
-/
import Derived.Test.YtmjjmkdjjfmhhaaSuWakes
import Derived.Test.YtmjjmkdjjfmhhaaRkLacks
namespace Go.Proofs.Ytmjjmkdjjfmhhaa
open Go.RowKit Go.Sort

theorem bk_ages {M L : List Lsa} (h : DEq M L) (ha : ages13 M) : ages13 L := by
  intro y hy
  have h1 : vX y ∈ M.map vX := h.perm.symm.subset (List.mem_map_of_mem hy)
  obtain ⟨z, hz, he⟩ := List.mem_map.1 h1
  have := ha z hz
  rw [show z.head = y.head from congrArg (fun v : VX => v.1) he] at this
  exact this
set_option maxHeartbeats 8000000 in
set_option maxRecDepth 100000 in
theorem summLacks_any (A : Option Addr) (cap : Nat) (l : List Lsa) (Ah : Option Addr) (ch : Nat) (hs : List Hd) (w : World) (hl : LsasAt w w.heap.size A l) (hm : l.length ≤ maxLen) (hh : RowsAt 7 Hd.cells w w.heap.size Ah hs) (hhm : hs.length ≤ maxLen) :
    Calls Try.prog 9 #[.slice A l.length cap, .slice Ah hs.length ch] w fun r w' => r = .returned (.bool true) ∧ Below w.heap.size w w' := by
  have HL := Lib.hid hl
  have HH := Lib.hid hh
  obtain ⟨t, ht⟩ : ∃ t, manyB 60 l = t := ⟨_, rfl⟩
  obtain ⟨t2, ht2⟩ : ∃ t, may13B hs = t := ⟨_, rfl⟩
  have HMany := Lib.hid (fun W (hW : Below w.heap.size w W) => many13 A cap l W w.heap.size (hl.rows.below hW) hW.size hm l.length rfl ht)
  have HMay := Lib.hid (fun W (hW : Below w.heap.size w W) => may13 Ah ch hs W w.heap.size (hh.below hW) hW.size hhm ht2 hs.length rfl)
  have Ht := Lib.hid ht
  have Ht2 := Lib.hid ht2
  clear hl hm hh hhm ht ht2
  go_enter Try.func9, Try.ntmps9
  go_wp2_with fail
  with_reducible refine Calls.mono (wakes13 _) ?_
  rintro r w1 ⟨rfl, hb1⟩
  have Hb1 := Lib.hid hb1
  clear hb1
  go_wp2_with fail
  with_reducible refine Calls.mono (HMany.out _ Hb1.out) ?_
  rintro r w2 ⟨rfl, hb2⟩
  have Hb2 := Lib.hid (below_trans Hb1.out Hb1.out.size hb2)
  clear hb2
  cases t with
  | true =>
    go_wp2
    go_ret
    exact ⟨rfl, Hb2.out⟩
  | false =>
    go_wp2_with fail
    with_reducible refine Calls.mono (HMay.out _ Hb2.out) ?_
    rintro r w3 ⟨rfl, hb3⟩
    have Hb3 := Lib.hid (below_trans Hb2.out Hb2.out.size hb3)
    clear hb3
    cases t2 with
    | false =>
      go_wp2
      go_ret
      exact ⟨rfl, Hb3.out⟩
    | true =>
      obtain ⟨hha, hhl⟩ := may13B_ages Ht2.out
      obtain ⟨hl60, hlens⟩ := manyB_lens Ht.out
      have HHa := Lib.hid hha
      have HBo := Lib.hid (both13_any A cap l w3 ((HL.out.rows.below Hb3.out).more Hb3.out.size) (fun x hx => ⟨((HL.out.each x hx).links.below Hb3.out).more Hb3.out.size, ((HL.out.each x hx).members.below Hb3.out).more Hb3.out.size⟩) hlens hl60 l.length rfl)
      clear hha hlens
      go_wp2_with fail
      with_reducible refine Calls.mono HBo.out ?_
      rintro r w4 ⟨p, b, q, M, v, L, rfl, hbk, hag⟩
      have HBk := Lib.hid hbk
      have HAg := Lib.hid hag
      have Hb4 := Lib.hid (below_trans Hb3.out Hb3.out.size hbk.bel)
      clear hbk hag
      have HE : Hid (OwnR 23 7 Hd.cells (w4.alloc (.cells #[] 23)) w4.heap.size (.slice (some ⟨w4.heap.size, 0, none⟩) 0 0) ([] : List Hd)) := Lib.hid (own_empty _)
      have hb5 := below_new w4 (.cells #[] 23)
      have Hb5 := Lib.hid (below_trans Hb4.out Hb4.out.size hb5)
      have HB5 := Lib.hid (HBk.out.keep hb5)
      clear hb5
      go_wp2_with (at_builtin; (refine app_rows (e := 23) Hd.cells (fun _ => rfl) (by decide) (bytes := 56) (by decide) infoHd13 rfl Try.underlying37 onesHd13 (by rfl) _ _ (by rfl) w4.heap.size _ [] (by rfl) HE.out Ah ch hs.length hs rfl (by rfl) ((HH.out.below Hb5.out).more Hb5.out.size) (by simp; omega) (by simp) ?_); intro v6 w6 hown6 hg6 hor6; have O6 := Lib.hid (show OwnR 23 7 Hd.cells w6 w4.heap.size v6 hs from hown6); have hb6 : Below w4.heap.size w4 w6 := (below_new w4 (.cells #[] 23)).grown hg6 (by simp) (fun j hj => (HE.out.block j hj).1); have Hb6 := Lib.hid (below_trans Hb4.out Hb4.out.size hb6); have HB6 := Lib.hid (HBk.out.keep hb6); obtain ⟨A6, c6, hv6⟩ := O6.out.shape; subst hv6; have HLk := Lib.hid (Lacks_any p b 40 M A6 c6 hs w6 w6.heap.size HB6.out.db HAg.out (OwnR.rows (C := 7) (cells := Hd.cells) (fun _ => rfl) O6.out).2 (Nat.le_refl _) (by omega) HHa.out hs.length rfl); clear hown6 hg6 hor6 hb6)
      with_reducible refine Calls.mono HLk.out ?_
      rintro r w7 ⟨⟨u7, rfl, hown7⟩, hb7⟩
      have HB7 := Lib.hid (HB6.out.keep hb7)
      have O7 := Lib.hid hown7
      have O67 := Lib.hid (O6.out.below hb7)
      have Hb7 := Lib.hid (below_trans Hb6.out Hb6.out.size hb7)
      obtain ⟨A7, c7, hv7⟩ := hown7.shape
      subst hv7
      have HRk := Lib.hid (refLacks_any q 40 v L Ah ch hs w7 w7.heap.size HB7.out.rd (bk_ages HB7.out.eq HAg.out) (by have := HB7.out.eq.len; have := HB7.out.le; omega) ((HH.out.below Hb7.out).more Hb7.out.size) (Nat.le_refl _) (by omega) HHa.out hs.length rfl)
      clear hown7 hb7
      go_wp2_with fail
      with_reducible refine Calls.mono HRk.out ?_
      rintro r w8 ⟨⟨u8, rfl, hown8⟩, hb8⟩
      rw [lack_same HB7.out.eq] at hown8
      have O8 := Lib.hid hown8
      have O78 := Lib.hid (O7.out.below hb8)
      have O68 := Lib.hid (O67.out.below hb8)
      have Hb8 := Lib.hid (below_trans Hb7.out Hb7.out.size hb8)
      obtain ⟨A8, c8, hv8⟩ := hown8.shape
      subst hv8
      have hll := lack_len (M := M) HHa.out
      have HS1 := Lib.hid (Same13s A7 A8 c7 c8 (lackAll M hs) w8 w8.heap.size w8.heap.size (OwnR.rows (C := 7) (cells := Hd.cells) (fun _ => rfl) O78.out).2 (OwnR.rows (C := 7) (cells := Hd.cells) (fun _ => rfl) O8.out).2 (Nat.le_refl _) (Nat.le_refl _) (by omega) (lackAll M hs).length (lackAll M hs).length rfl rfl)
      have HS2 := Lib.hid (fun W (hW : Below w8.heap.size w8 W) => Same13s A6 Ah c6 ch hs W W.heap.size w.heap.size (OwnR.rows (C := 7) (cells := Hd.cells) (fun _ => rfl) (O68.out.below hW)).2 (HH.out.below (below_trans Hb8.out Hb8.out.size hW)) (Nat.le_refl _) (Nat.le_trans Hb8.out.size hW.size) (by omega) hs.length hs.length rfl rfl)
      clear hown8 hb8 hll
      go_wp2_with fail
      with_reducible refine Calls.mono HS1.out ?_
      rintro r w9 ⟨rfl, hb9⟩
      have HS3 := Lib.hid (HS2.out w9 hb9)
      have Hb9 := Lib.hid (below_trans Hb8.out Hb8.out.size hb9)
      clear hb9
      go_wp2_with fail
      with_reducible refine Calls.mono HS3.out ?_
      rintro r w10 ⟨rfl, hb10⟩
      have Hb10 := Lib.hid (below_trans Hb9.out Hb9.out.size hb10)
      clear hb10
      go_wp2
      go_ret
      exact ⟨rfl, Hb10.out⟩

end Go.Proofs.Ytmjjmkdjjfmhhaa
