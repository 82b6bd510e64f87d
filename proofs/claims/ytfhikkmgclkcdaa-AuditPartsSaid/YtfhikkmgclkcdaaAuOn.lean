/-
  Layer 27: who is on a network (audit.On).
-/
import Derived.Test.YtfhikkmgclkcdaaAuTable
import Derived.Test.YtfhikkmgclkcdaaElGo
namespace Go.Proofs.Ytfhikkmgclkcdaa
open Go.RowKit

def natI (n : Nat) : Int := n
def selK (l : List Stt) (q : Nat → Bool) (k : Nat) : List Int := ((List.range k).filter fun id => (tblI l id).isSome && q id).map natI
theorem selK_succ (l : List Stt) (q : Nat → Bool) (k : Nat) : selK l q (k + 1) = selK l q k ++ (if ((tblI l k).isSome && q k) = true then [natI k] else []) := by
  unfold selK
  rw [List.range_succ, List.filter_append, List.map_append]
  congr 1
  by_cases h : ((tblI l k).isSome && q k) = true <;> simp [h]
theorem selK_len (l : List Stt) (q : Nat → Bool) (k : Nat) : (selK l q k).length ≤ k := by
  unfold selK
  rw [List.length_map]
  have := List.length_filter_le (fun id => (tblI l id).isSome && q id) (List.range k)
  rwa [List.length_range] at this

set_option maxHeartbeats 2000000 in
set_option maxRecDepth 100000 in
theorem numbers_any (g : Nat) (b o : Nat) (l : List Stt) (f : Nat) (lb : Array Value) (hcall : ∀ (xs : Array Value) (w : World), (callFunc f xs).run Try.prog w = .ok (.enter f xs) w) (q : Nat → Bool) (w : World) (hT : Blk w g 172 (tblC (some ⟨b, o, none⟩) l))
    (hf : ∀ W, Below w.heap.size w W → ∀ id i, tblI l id = some i → Calls Try.prog f (#[.pointer (some ⟨b, o + i * 4, none⟩)] ++ lb) W fun e w' => e = .returned (.bool (q id)) ∧ Below W.heap.size W w') :
    Calls Try.prog 70 #[.pointer (some ⟨g, 0, none⟩), .func (.func f) #[] lb] w fun r w' => ∃ v, r = .returned v ∧ OwnI w' w.heap.size v (selK l q 16) ∧ Below w.heap.size w w' := by
  have HT := Lib.hid hT
  have Hf := Lib.hid hf
  clear hT hf
  go_enter Try.func70, Try.ntmps70
  go_wp2
  go_loopw [5, 9] (fun v i wr => ∃ k : Nat, k ≤ 16 ∧ i = .int .i64 k ∧ OwnI wr w.heap.size v (selK l q k) ∧ Below w.heap.size w wr) (fun _ i _ => 16 - (intOf i).toNat)
  case atStart => exact ⟨0, Nat.zero_le _, rfl, OwnI.nil _ _, Below.refl _ _⟩
  case round =>
    obtain ⟨k, hk, rfl, hown, hb⟩ := hrel
    obtain ⟨A5, c5, rfl⟩ := hown.shape
    by_cases hlt : k < 16
    · have hT := HT.out.below hb HT.out.lt
      have x0 : wr.cell? ⟨g, k, none⟩ = some (tblV (some ⟨b, o, none⟩) l k) := by rw [hT.cell k, tblC_get _ _ k hlt]
      have hs := selK_succ l q k
      have hsl := selK_len l q k
      have hkl : (k : Int) < 16 := by omega
      have Hs := Lib.hid hs
      have Hsl := Lib.hid hsl
      have Hown := Lib.hid hown
      have Hb := Lib.hid hb
      clear hs hsl hown hT hb
      rcases hi : tblI l k with _ | i
      · have e : tblV (some ⟨b, o, none⟩) l k = .pointer none := by unfold tblV; rw [hi]
        rw [e] at x0
        have Hi := Lib.hid hi
        clear hi e
        go_wp2_with fail
        refine wp_region_held (S := fun W => W.cell? ⟨g, k, none⟩ = some (.pointer none)) (by kernel_rfl) ?_
        obtain ⟨wd, hwd⟩ : ∃ wd : World, ({ wr with drawn := wr.drawn + 1 } : World) = wd := ⟨_, rfl⟩
        rw [hwd]
        have hbwd : Below wr.heap.size wr wd := by rw [← hwd]; exact (Below.refl _ _).drew
        have hS : wd.cell? ⟨g, k, none⟩ = some (.pointer none) := cellIn x0 hbwd
        refine wpAnyH_take (i := 0) rfl (by kernel_rfl) (by kernel_rfl) (by kernel_rfl) (fun _ _ _ h => h) (Or.inl ⟨rfl, fun W hW => by (have hW' : W.cell? ⟨g, k, none⟩ = some (.pointer none) := hW); go_simp; try with_reducible rfl⟩) hS ?_
        refine wpAnyH_take (i := 1) rfl (by kernel_rfl) (by kernel_rfl) (by kernel_rfl) (fun _ _ _ h => h) (Or.inl ⟨rfl, fun W hW => by (have hW' : W.cell? ⟨g, k, none⟩ = some (.pointer none) := hW); go_simp; try with_reducible rfl⟩) hS ?_
        refine wpAnyH_take (i := 2) rfl (by kernel_rfl) (by kernel_rfl) (by kernel_rfl) (fun _ _ _ h => h) (Or.inl ⟨rfl, fun W hW => by (have hW' : W.cell? ⟨g, k, none⟩ = some (.pointer none) := hW); go_simp; try with_reducible rfl⟩) hS ?_
        refine wpAnyH_take (i := 3) rfl (by kernel_rfl) (by kernel_rfl) (by kernel_rfl) (fun _ _ _ h => h) (Or.inl ⟨rfl, fun W hW => by (have hW' : W.cell? ⟨g, k, none⟩ = some (.pointer none) := hW); go_simp; try with_reducible rfl⟩) hS ?_
        refine wpAnyH_take (i := 4) rfl (by kernel_rfl) (by kernel_rfl) (by kernel_rfl) (fun _ _ _ h => h) (Or.inl ⟨rfl, fun W hW => by (have hW' : W.cell? ⟨g, k, none⟩ = some (.pointer none) := hW); go_simp; try with_reducible rfl⟩) hS ?_
        refine wpAnyH_take (i := 5) rfl (by kernel_rfl) (by kernel_rfl) (by kernel_rfl) (fun _ _ _ h => h) (Or.inl ⟨rfl, fun W hW => by (have hW' : W.cell? ⟨g, k, none⟩ = some (.pointer none) := hW); go_simp; try with_reducible rfl⟩) hS ?_
        refine wpAnyH_done (by kernel_rfl) ?_ _
        have hownd : OwnI wd w.heap.size (.slice A5 (selK l q k).length c5) (selK l q k) := Hown.out.below hbwd
        have hbd : Below w.heap.size w wd := Hb.out.trans (hbwd.mono Hb.out.size)
        have Hownd := Lib.hid hownd
        have Hbd := Lib.hid hbd
        clear hwd hbwd hS hownd hbd x0
        go_simp
        go_wp2
        go_roundw
        case measure => simp [intOf]; omega
        case rel => exact ⟨k + 1, hlt, by go_num, by rw [Hs.out, Hi.out]; simpa using Hownd.out, Hbd.out⟩
      · have e : tblV (some ⟨b, o, none⟩) l k = .pointer (some ⟨b, o + i * 4, none⟩) := by unfold tblV; rw [hi]; rfl
        rw [e] at x0
        have Hi := Lib.hid hi
        clear hi e
        cases hq : q k
        all_goals
          have Hq := Lib.hid hq
          clear hq
          go_wp2_with fail
          refine wp_region_held (S := fun W => W.cell? ⟨g, k, none⟩ = some (.pointer (some ⟨b, o + i * 4, none⟩))) (by kernel_rfl) ?_
          obtain ⟨wd, hwd⟩ : ∃ wd : World, ({ wr with drawn := wr.drawn + 1 } : World) = wd := ⟨_, rfl⟩
          rw [hwd]
          have hbwd : Below wr.heap.size wr wd := by rw [← hwd]; exact (Below.refl _ _).drew
          have hS : wd.cell? ⟨g, k, none⟩ = some (.pointer (some ⟨b, o + i * 4, none⟩)) := cellIn x0 hbwd
          refine wpAnyH_take (i := 0) rfl (by kernel_rfl) (by kernel_rfl) (by kernel_rfl) (fun _ _ _ h => h) (Or.inl ⟨rfl, fun W hW => by (have hW' : W.cell? ⟨g, k, none⟩ = some (.pointer (some ⟨b, o + i * 4, none⟩)) := hW); go_simp; try with_reducible rfl⟩) hS ?_
          refine wpAnyH_take (i := 1) rfl (by kernel_rfl) (by kernel_rfl) (by kernel_rfl) (fun _ _ _ h => h) (Or.inl ⟨rfl, fun W hW => by (have hW' : W.cell? ⟨g, k, none⟩ = some (.pointer (some ⟨b, o + i * 4, none⟩)) := hW); go_simp; try with_reducible rfl⟩) hS ?_
          refine wpAnyH_take (i := 2) rfl (by kernel_rfl) (by kernel_rfl) (by kernel_rfl) (fun _ _ _ h => h) (Or.inl ⟨rfl, fun W hW => by (have hW' : W.cell? ⟨g, k, none⟩ = some (.pointer (some ⟨b, o + i * 4, none⟩)) := hW); go_simp; try with_reducible rfl⟩) hS ?_
          refine wpAnyH_take (i := 3) rfl (by kernel_rfl) (by kernel_rfl) (by kernel_rfl) (fun _ _ _ h => h) (Or.inl ⟨rfl, fun W hW => by (have hW' : W.cell? ⟨g, k, none⟩ = some (.pointer (some ⟨b, o + i * 4, none⟩)) := hW); go_simp; try with_reducible rfl⟩) hS ?_
          refine wpAnyH_take (i := 4) rfl (by kernel_rfl) (by kernel_rfl) (by kernel_rfl) (fun _ _ _ h => h) (Or.inl ⟨rfl, fun W hW => by (have hW' : W.cell? ⟨g, k, none⟩ = some (.pointer (some ⟨b, o + i * 4, none⟩)) := hW); go_simp; try with_reducible rfl⟩) hS ?_
          refine wpAnyH_take (i := 5) rfl (by kernel_rfl) (by kernel_rfl) (by kernel_rfl) (fun _ _ _ h => h) (Or.inl ⟨rfl, fun W hW => by (have hW' : W.cell? ⟨g, k, none⟩ = some (.pointer (some ⟨b, o + i * 4, none⟩)) := hW); go_simp; try with_reducible rfl⟩) hS ?_
          refine wpAnyH_done (by kernel_rfl) ?_ _
          have hownd : OwnI wd w.heap.size (.slice A5 (selK l q k).length c5) (selK l q k) := Hown.out.below hbwd
          have hbd : Below w.heap.size w wd := Hb.out.trans (hbwd.mono Hb.out.size)
          have Hownd := Lib.hid hownd
          have Hbd := Lib.hid hbd
          clear hwd hbwd hS hownd hbd x0
          go_simp
        · go_wp2_with ((with_reducible refine Calls.mono (Hf.out _ Hbd.out k i Hi.out) ?_); rw [Hq.out]; rintro r w2 ⟨rfl, hb2⟩; have Hown2 := Lib.hid (Hownd.out.below hb2); have Hb2 := Lib.hid (Hbd.out.trans (hb2.mono Hbd.out.size)); clear hb2)
          go_roundw
          case measure => simp [intOf]; omega
          case rel => exact ⟨k + 1, hlt, by go_num, by rw [Hs.out, Hi.out, Hq.out]; simpa using Hown2.out, Hb2.out⟩
        · go_wp2_with (first
            | (at_builtin; refine app_int rfl _ _ rfl w.heap.size (.slice A5 (selK l q k).length c5) (selK l q k) rfl (Hown2.out.alloc _) w2.heap.size (k : Int) rfl ((Blk.new _ _ _).cell 0) (by have := Hsl.out; omega) (by have := Hb2.out.size; simp; omega) ?_; intro v5 w5 hown5 hg5; have Hown5 := Lib.hid hown5; have Hb5 := Lib.hid ((Hb2.out.alloc Hb2.out.size _).grown hg5 (Hb2.out.alloc Hb2.out.size _).size (fun j e => (Hown2.out.block j e).1)); clear hown5 hg5)
            | ((with_reducible refine Calls.mono (Hf.out _ Hbd.out k i Hi.out) ?_); rw [Hq.out]; rintro r w2 ⟨rfl, hb2⟩; have Hown2 := Lib.hid (Hownd.out.below hb2); have Hb2 := Lib.hid (Hbd.out.trans (hb2.mono Hbd.out.size)); clear hb2))
          go_roundw
          case measure => simp [intOf]; omega
          case rel => exact ⟨k + 1, hlt, by go_num, by rw [Hs.out, Hi.out, Hq.out]; simpa [natI] using Hown5.out, Hb5.out⟩
    · have hkk : k = 16 := by omega
      subst hkk
      have Hown := Lib.hid hown
      have Hb := Lib.hid hb
      clear hown hb
      go_wp2
      go_ret
      exact ⟨_, rfl, Hown.out, Hb.out⟩

/-- the predicate that audit.on hands down -/
theorem on1_any (b o i bs : Nat) (lan : Int) (l : List Stt) (w : World) (B : Nat) (hl : StatesAt w B (some ⟨b, o, none⟩) l) (hi : i < l.length) (hB : B ≤ w.heap.size) (_hbs : bs < w.heap.size) (hc : w.cell? ⟨bs, 0, none⟩ = some (.int .i64 lan)) :
    Calls Try.prog 103 #[.pointer (some ⟨b, o + i * 4, none⟩), .pointer (some ⟨bs, 0, none⟩)] w fun r w' => r = .returned (.bool (ifaceOf (l.getD i default).views lan).2) ∧ Below w.heap.size w w' := by
  obtain ⟨b', o', e, hbB, -, x1, -, -⟩ := States.at_ hl.rows i hi
  injection e with e
  injection e with e1 e2
  subst e1 e2
  have hs := hl.each _ (List.getElem_mem hi)
  rw [show l.getD i default = l[i] by simp [List.getD, hi]]
  generalize l[i] = s at *
  have Hs := Lib.hid hs
  have Hcall := Lib.hid (iface_any b (o + i * 4) lan s.va s.vcap s.views w B (by omega) x1 hs.views hB hs.viewsLen)
  clear hl hs x1
  generalize hI : ifaceOf s.views lan = I at *
  clear hI
  rcases I with ⟨⟨a1, a2, a3, a4, a5⟩, is⟩
  go_enter Try.func103, Try.ntmps103
  go_wp2_with (go_at_call 104; (with_reducible refine Calls.mono Hcall.out ?_); rintro r w1 ⟨rfl, hb1⟩)
  go_ret
  exact ⟨rfl, hb1.alloc hb1.size _⟩

end Go.Proofs.Ytfhikkmgclkcdaa
