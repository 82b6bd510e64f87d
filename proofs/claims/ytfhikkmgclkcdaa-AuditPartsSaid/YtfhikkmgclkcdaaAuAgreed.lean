/-
  Layer 27: whether they agree, and on whom (audit.Agreed, audit.On).
-/
import Derived.Test.YtfhikkmgclkcdaaAuLeads
namespace Go.Proofs.Ytfhikkmgclkcdaa
open Go.RowKit

/-- whether candidates agree, and on whom -/
def agreedC (c : List Cand) : Int × Int × Bool :=
  if c.length = 0 then (0, 0, true)
  else if ((((c.headD Cand.zero).dr == 0) == leadsB c 0) || ((c.headD Cand.zero).dr != 0 && !leadsB c (c.headD Cand.zero).dr) || ((c.headD Cand.zero).bdr != 0 && !leadsB c (c.headD Cand.zero).bdr) || !stable c) = true then (0, 0, false)
  else ((c.headD Cand.zero).dr, (c.headD Cand.zero).bdr, true)
/-- the ways through the test, one by one -/
theorem agreed_cases {c : List Cand} (h0 : 0 < c.length) {dr bdr : Int} (hd : (c.headD Cand.zero).dr = dr) (hb : (c.headD Cand.zero).bdr = bdr) :
    ∃ (x : Bool) (l0 l1 l2 st : Bool) (r : Int × Int × Bool), agreedC c = r ∧ leadsB c 0 = l0 ∧ leadsB c dr = l1 ∧ leadsB c bdr = l2 ∧ stable c = st ∧ (dr == 0) = x ∧
      ((x = true ∧ l0 = true ∧ r = (0, 0, false)) ∨ (x = false ∧ l0 = false ∧ r = (0, 0, false)) ∨
       (x = false ∧ l0 = true ∧ l1 = false ∧ r = (0, 0, false)) ∨
       (((x = true ∧ l0 = false) ∨ (x = false ∧ l0 = true ∧ l1 = true)) ∧
         (((bdr == 0) = false ∧ l2 = false ∧ r = (0, 0, false)) ∨ (((bdr == 0) = true ∨ ((bdr == 0) = false ∧ l2 = true)) ∧ ((st = false ∧ r = (0, 0, false)) ∨ (st = true ∧ r = (dr, bdr, true))))))) := by
  refine ⟨dr == 0, leadsB c 0, leadsB c dr, leadsB c bdr, stable c, _, rfl, rfl, rfl, rfl, rfl, rfl, ?_⟩
  unfold agreedC
  rw [if_neg (by omega), hd, hb]
  generalize leadsB c 0 = l0
  generalize leadsB c dr = l1
  generalize leadsB c bdr = l2
  generalize stable c = st
  have e1 : (dr != 0) = !(dr == 0) := rfl
  have e2 : (bdr != 0) = !(bdr == 0) := rfl
  rw [e1, e2]
  cases (dr == 0) <;> cases (bdr == 0) <;> cases l0 <;> cases l1 <;> cases l2 <;> cases st <;> simp

theorem ret3 {a a' b b' : Int} {c : Bool} (h1 : a = a') (h2 : b = b') : Ending.returned (.tuple #[.int .i64 a, .int .i64 b, .bool c]) = .returned (.tuple #[.int .i64 a', .int .i64 b', .bool c]) := by rw [h1, h2]
theorem bne_t {x : Int} (h : (x == 0) = true) : (x != 0) = false := by simp [bne, h]
theorem bne_f {x : Int} (h : (x == 0) = false) : (x != 0) = true := by simp [bne, h]
theorem eq_zero {x : Int} (h : (x == 0) = true) : 0 = x := (beq_iff_eq.1 h).symm
theorem bn_step {B : Nat} {w w1 w2 : World} (h : Below B w w1) (hB : B ≤ w1.heap.size) (h2 : Below w1.heap.size w1 w2) : Below B w w2 ∧ B ≤ w2.heap.size := ⟨h.trans (h2.mono hB), Nat.le_trans hB h2.size⟩
theorem bn_end {w w1 wd w2 : World} (_h1 : Below w.heap.size w w1) (_h2 : w1.heap.size ≤ wd.heap.size) (h3 : Below w.heap.size w wd) (h4 : Below w1.heap.size wd w2) (h5 : w.heap.size ≤ w1.heap.size) : Below w.heap.size w w2 :=
  h3.trans (h4.mono h5)
theorem stable_v {n : Nat} {A : Option Addr} {cap : Nat} {l : List Cand} {w : World} {B : Nat} (hl : CandsAt w B A l) (hB : B ≤ w.heap.size) (hn : l.length ≤ 2 ^ 40) (hnl : n = l.length) {x : Bool} (hx : stable l = x) :
    Calls Try.prog 100 #[.slice A n cap] w fun e w' => e = .returned (.bool x) ∧ Below w.heap.size w w' := by
  subst hx
  exact stable_n n A cap l w B hl hB hn hnl
theorem candsOf_len (l : List Stt) (lan : Int) : (candsOf (countedL l) lan).length ≤ 16 := by
  rw [← candsK_all]; exact candsK_len _ _ _

set_option maxHeartbeats 8000000 in
set_option maxRecDepth 100000 in
theorem agreedS_any (g b o : Nat) (lan : Int) (l : List Stt) (w : World) (hT : Blk w g 172 (tblC (some ⟨b, o, none⟩) l)) (hl : StatesAt w w.heap.size (some ⟨b, o, none⟩) l) {r1 r2 : Int} {r3 : Bool} (hr : agreedC (candsOf (countedL l) lan) = (r1, r2, r3)) :
    Calls Try.prog 63 #[.pointer (some ⟨g, 0, none⟩), .int .i64 lan] w fun r w' => r = .returned (.tuple #[.int .i64 r1, .int .i64 r2, .bool r3]) ∧ Below w.heap.size w w' := by
  have Hc := Lib.hid (cands_any g b o lan l w hT hl)
  have hlen := candsOf_len l lan
  clear hT hl
  generalize candsOf (countedL l) lan = C at *
  by_cases h0 : C.length = 0
  · have hr' : (0, 0, true) = (r1, r2, r3) := by rw [← hr]; unfold agreedC; rw [if_pos h0]
    simp only [Prod.mk.injEq] at hr'
    obtain ⟨rfl, rfl, rfl⟩ := hr'
    have t0 : ((C.length : Int) == 0) = true := by simp [h0]
    clear hr h0
    go_enter Try.func63, Try.ntmps63
    go_wp2_with (go_at_call 69; (with_reducible refine Calls.mono Hc.out ?_); rintro r w1 ⟨v, rfl, hown, hb1⟩; obtain ⟨A1, c1, rfl, hc⟩ := OwnC.shape hown; clear hown hc)
    go_ret3
    exact ⟨rfl, hb1⟩
  · have hpos : 0 < C.length := by omega
    have t0 : ((C.length : Int) == 0) = false := by rw [beq_eq_false_iff_ne]; omega
    obtain ⟨c0, hc0⟩ : ∃ c0, C[0] = c0 := ⟨_, rfl⟩
    have hhd : C.headD Cand.zero = c0 := by
      rw [← hc0]
      rcases C with _ | ⟨y, C⟩
      · simp at hpos
      · rfl
    rcases c0 with ⟨q1, q2, dr, bdr⟩
    obtain ⟨x, l0, l1, l2, st, r, hre, hl0, hl1, hl2, hst, hx, hcases⟩ := agreed_cases hpos (dr := dr) (bdr := bdr) (by rw [hhd]) (by rw [hhd])
    rw [hr] at hre
    subst hre
    have Hl0 := Lib.hid hl0
    have Hx := Lib.hid hx
    have Hl1 := Lib.hid hl1
    have Hl2 := Lib.hid hl2
    have Hst := Lib.hid hst
    have Hc0 := Lib.hid hc0
    have hC1 : C.length ≤ maxLen := by unfold maxLen; omega
    have HC1 := Lib.hid hC1
    have hlen2 : C.length ≤ 2 ^ 40 := by omega
    have Hlen2 := Lib.hid hlen2
    have hcA : ∀ (w1 : World) (A : Option Addr), CandsAt w1 w1.heap.size A C → ∃ b o, A = some ⟨b, o, none⟩ ∧ w1.cell? ⟨b, o + 2, none⟩ = some (.int .i64 dr) ∧ w1.cell? ⟨b, o + 3, none⟩ = some (.int .i64 bdr) := fun w1 A h => by
      obtain ⟨b, o, e, _, _, _, e2, e3⟩ := CandsAt.at_ h 0 hpos
      rw [Hc0.out] at e2 e3
      simp only [Nat.zero_mul, Nat.add_zero] at e2 e3
      exact ⟨b, o, e, e2, e3⟩
    have HcA := Lib.hid hcA
    clear hr hl0 hl1 hl2 hst hc0 hhd hC1 hlen2 h0 hcA
    have Hcases := Lib.hid hcases
    clear hcases hx
    go_enter Try.func63, Try.ntmps63
    go_wp2_with (go_at_call 69; (with_reducible refine Calls.mono Hc.out ?_); rintro r w1 ⟨v, rfl, hown, hb1⟩; obtain ⟨A1, c1, rfl, hc⟩ := OwnC.shape hown; obtain ⟨b1, o1, rfl, e2, e3⟩ := HcA.out _ _ hc; have Hca := Lib.hid hc; have Hb := Lib.hid hb1; clear hown hc hb1)
    have hpl : (0 : Int) < (C.length : Int) := by omega
    refine wp_region_held (S := fun W => W.cell? ⟨b1, o1 + 2, none⟩ = some (.int .i64 dr) ∧ W.cell? ⟨b1, o1 + 3, none⟩ = some (.int .i64 bdr)) (by kernel_rfl) ?_
    obtain ⟨wd, hwd⟩ : ∃ wd : World, ({ w1 with drawn := w1.drawn + 1 } : World) = wd := ⟨_, rfl⟩
    rw [hwd]
    have hbwd : Below w1.heap.size w1 wd := by rw [← hwd]; exact (Below.refl _ _).drew
    have hS : wd.cell? ⟨b1, o1 + 2, none⟩ = some (.int .i64 dr) ∧ wd.cell? ⟨b1, o1 + 3, none⟩ = some (.int .i64 bdr) := ⟨cellIn e2 hbwd, cellIn e3 hbwd⟩
    refine wpAnyH_take (i := 0) rfl (by kernel_rfl) (by kernel_rfl) (by kernel_rfl) (fun _ _ _ h => h) (Or.inl ⟨rfl, fun W hW => by (obtain ⟨g2, g3⟩ := (show W.cell? ⟨b1, o1 + 2, none⟩ = some (.int .i64 dr) ∧ W.cell? ⟨b1, o1 + 3, none⟩ = some (.int .i64 bdr) from hW)); go_simp; try with_reducible rfl⟩) hS ?_
    refine wpAnyH_take (i := 1) rfl (by kernel_rfl) (by kernel_rfl) (by kernel_rfl) (fun _ _ _ h => h) (Or.inl ⟨rfl, fun W hW => by (obtain ⟨g2, g3⟩ := (show W.cell? ⟨b1, o1 + 2, none⟩ = some (.int .i64 dr) ∧ W.cell? ⟨b1, o1 + 3, none⟩ = some (.int .i64 bdr) from hW)); go_simp; try with_reducible rfl⟩) hS ?_
    refine wpAnyH_take (i := 2) rfl (by kernel_rfl) (by kernel_rfl) (by kernel_rfl) (fun _ _ _ h => h) (Or.inl ⟨rfl, fun W hW => by (obtain ⟨g2, g3⟩ := (show W.cell? ⟨b1, o1 + 2, none⟩ = some (.int .i64 dr) ∧ W.cell? ⟨b1, o1 + 3, none⟩ = some (.int .i64 bdr) from hW)); go_simp; try with_reducible rfl⟩) hS ?_
    refine wpAnyH_take (i := 3) rfl (by kernel_rfl) (by kernel_rfl) (by kernel_rfl) (fun _ _ _ h => h) (Or.inl ⟨rfl, fun W hW => by (obtain ⟨g2, g3⟩ := (show W.cell? ⟨b1, o1 + 2, none⟩ = some (.int .i64 dr) ∧ W.cell? ⟨b1, o1 + 3, none⟩ = some (.int .i64 bdr) from hW)); go_simp; try with_reducible rfl⟩) hS ?_
    refine wpAnyH_take (i := 4) rfl (by kernel_rfl) (by kernel_rfl) (by kernel_rfl) (fun _ _ _ h => h) (Or.inl ⟨rfl, fun W hW => by (obtain ⟨g2, g3⟩ := (show W.cell? ⟨b1, o1 + 2, none⟩ = some (.int .i64 dr) ∧ W.cell? ⟨b1, o1 + 3, none⟩ = some (.int .i64 bdr) from hW)); go_simp; try with_reducible rfl⟩) hS ?_
    refine wpAnyH_take (i := 5) rfl (by kernel_rfl) (by kernel_rfl) (by kernel_rfl) (fun _ _ _ h => h) (Or.inl ⟨rfl, fun W hW => by (obtain ⟨g2, g3⟩ := (show W.cell? ⟨b1, o1 + 2, none⟩ = some (.int .i64 dr) ∧ W.cell? ⟨b1, o1 + 3, none⟩ = some (.int .i64 bdr) from hW)); go_simp; try with_reducible rfl⟩) hS ?_
    refine wpAnyH_take (i := 6) rfl (by kernel_rfl) (by kernel_rfl) (by kernel_rfl) (fun _ _ _ h => h) (Or.inl ⟨rfl, fun W hW => by (obtain ⟨g2, g3⟩ := (show W.cell? ⟨b1, o1 + 2, none⟩ = some (.int .i64 dr) ∧ W.cell? ⟨b1, o1 + 3, none⟩ = some (.int .i64 bdr) from hW)); go_simp; try with_reducible rfl⟩) hS ?_
    refine wpAnyH_take (i := 7) rfl (by kernel_rfl) (by kernel_rfl) (by kernel_rfl) (fun _ _ _ h => h) (Or.inl ⟨rfl, fun W hW => by (obtain ⟨g2, g3⟩ := (show W.cell? ⟨b1, o1 + 2, none⟩ = some (.int .i64 dr) ∧ W.cell? ⟨b1, o1 + 3, none⟩ = some (.int .i64 bdr) from hW)); go_simp; try with_reducible rfl⟩) hS ?_
    refine wpAnyH_take (i := 8) rfl (by kernel_rfl) (by kernel_rfl) (by kernel_rfl) (fun _ _ _ h => h) (Or.inl ⟨rfl, fun W hW => by (obtain ⟨g2, g3⟩ := (show W.cell? ⟨b1, o1 + 2, none⟩ = some (.int .i64 dr) ∧ W.cell? ⟨b1, o1 + 3, none⟩ = some (.int .i64 bdr) from hW)); go_simp; try with_reducible rfl⟩) hS ?_
    refine wpAnyH_take (i := 9) rfl (by kernel_rfl) (by kernel_rfl) (by kernel_rfl) (fun _ _ _ h => h) (Or.inl ⟨rfl, fun W hW => by (obtain ⟨g2, g3⟩ := (show W.cell? ⟨b1, o1 + 2, none⟩ = some (.int .i64 dr) ∧ W.cell? ⟨b1, o1 + 3, none⟩ = some (.int .i64 bdr) from hW)); go_simp; try with_reducible rfl⟩) hS ?_
    refine wpAnyH_done (by kernel_rfl) ?_ _
    have Hcd := Lib.hid (CandsAt.below Hca.out hbwd)
    have Hbd := Lib.hid (Hb.out.trans (hbwd.mono Hb.out.size))
    have Hsz := Lib.hid hbwd.size
    clear hwd hbwd hS e2 e3
    have Hbn := Lib.hid (And.intro (Below.refl w1.heap.size wd) Hsz.out)
    have hl0 := Hl0.out
    have hl1 := Hl1.out
    have hl2 := Hl2.out
    have hst := Hst.out
    have hx := Hx.out
    go_simp
    rcases Hcases.out with ⟨rfl, rfl, hr⟩ | ⟨rfl, rfl, hr⟩ | ⟨rfl, rfl, rfl, hr⟩ | ⟨⟨rfl, rfl⟩ | ⟨rfl, rfl, rfl⟩, ⟨t2, rfl, hr⟩ | ⟨t2 | ⟨t2, rfl⟩, ⟨rfl, hr⟩ | ⟨rfl, hr⟩⟩⟩
    all_goals
      simp only [Prod.mk.injEq] at hr
      obtain ⟨rfl, rfl, rfl⟩ := hr
      first
        | have hx' := bne_t hx
        | have hx' := bne_f hx
      try first
        | have t2' := bne_t t2
        | have t2' := bne_f t2
      go_wp2_with (first
        | (go_at_call 68; (with_reducible refine Calls.mono (leads_any _ _ _ C _ _ w1.heap.size (CandsAt.below Hcd.out Hbn.out.1) Hbn.out.2 HC1.out rfl rfl) ?_); rintro r w2 ⟨rfl, hb2⟩; have Hbn := Lib.hid (bn_step Hbn.out.1 Hbn.out.2 hb2); clear hb2)
        | (go_at_call 100; (with_reducible refine Calls.mono (stable_v (CandsAt.below Hcd.out Hbn.out.1) Hbn.out.2 Hlen2.out rfl Hst.out) ?_); rintro r w2 ⟨rfl, hb2⟩; have Hbn := Lib.hid (bn_step Hbn.out.1 Hbn.out.2 hb2); clear hb2))
      go_ret3
      refine ⟨?_, bn_end Hb.out Hsz.out Hbd.out Hbn.out.1 Hb.out.size⟩
      first
        | rfl
        | exact ret3 (eq_zero hx) rfl
        | exact ret3 rfl (eq_zero t2)
        | exact ret3 (eq_zero hx) (eq_zero t2)

set_option maxHeartbeats 1000000 in
set_option maxRecDepth 100000 in
/-- audit.Agreed: of any states -/
theorem agreed_any (lan : Int) (n : Nat) (A : Option Addr) (cap : Nat) (l : List Stt) (w : World) (B : Nat) (hl : StatesAt w B A l) (hB : B ≤ w.heap.size) (hlen : l.length ≤ maxLen) (hn : n = l.length) {r1 r2 : Int} {r3 : Bool} (hr : agreedC (candsOf (countedL l) lan) = (r1, r2, r3)) :
    Calls Try.prog 20 #[.int .i64 lan, .slice A n cap] w fun r w' => r = .returned (.tuple #[.int .i64 r1, .int .i64 r2, .bool r3]) ∧ Below w.heap.size w w' := by
  subst hn
  obtain ⟨b, o, htb, hlb⟩ := tbl_some hl
  have Hcnt := Lib.hid (counted_any A cap l w B hl.rows hB hlen)
  have Hlb := Lib.hid (hlb.more hB)
  have Htb := Lib.hid htb
  have Hr := Lib.hid hr
  clear hl hlb htb hr hB
  go_enter Try.func20, Try.ntmps20
  go_wp2_with (first
    | (go_at_call 62; (with_reducible refine Calls.mono Hcnt.out ?_); rintro r w1 ⟨rfl, hT, hb1⟩; rw [Htb.out] at hT; have HT := Lib.hid hT; have Hb1 := Lib.hid hb1; clear hT hb1)
    | (go_at_call 63; (with_reducible refine Calls.mono (agreedS_any w.heap.size b o lan l _ HT.out ((Hlb.out.below Hb1.out).more Hb1.out.size) Hr.out) ?_); rintro r w2 ⟨rfl, hb2⟩; have Hb2 := Lib.hid (Hb1.out.trans (hb2.mono Hb1.out.size)); clear hb2))
  go_ret3
  exact ⟨rfl, Hb2.out⟩
set_option maxHeartbeats 1000000 in
set_option maxRecDepth 100000 in
/-- audit.On: of any states -/
theorem On_any (lan : Int) (n : Nat) (A : Option Addr) (cap : Nat) (l : List Stt) (w : World) (B : Nat) (hl : StatesAt w B A l) (hB : B ≤ w.heap.size) (hlen : l.length ≤ maxLen) (hn : n = l.length) :
    Calls Try.prog 24 #[.int .i64 lan, .slice A n cap] w fun r w' => ∃ v, r = .returned v ∧ OwnI w' w.heap.size v (onOf (countedL l) lan) ∧ Below w.heap.size w w' := by
  subst hn
  obtain ⟨b, o, htb, hlb⟩ := tbl_some hl
  have Hcnt := Lib.hid (counted_any A cap l w B hl.rows hB hlen)
  have Hlb := Lib.hid (hlb.more hB)
  have Htb := Lib.hid htb
  clear hl hlb htb hB
  rw [on_ids]
  go_enter Try.func24, Try.ntmps24
  go_wp2_with (first
    | (go_at_call 62; (with_reducible refine Calls.mono Hcnt.out ?_); rintro r w1 ⟨rfl, hT, hb1⟩; rw [Htb.out] at hT; have HT := Lib.hid hT; have Hb1 := Lib.hid hb1; clear hT hb1)
    | (go_at_call 67; (with_reducible refine Calls.mono (on_any w.heap.size b o lan l _ HT.out ((Hlb.out.below Hb1.out).more Hb1.out.size)) ?_); rintro r w2 ⟨v2, rfl, hown2, hb2⟩; have Hown2 := Lib.hid (hown2.lower Hb1.out.size); have Hb2 := Lib.hid (Hb1.out.trans (hb2.mono Hb1.out.size)); clear hb2 hown2))
  go_ret
  exact ⟨_, rfl, Hown2.out, Hb2.out⟩

end Go.Proofs.Ytfhikkmgclkcdaa
