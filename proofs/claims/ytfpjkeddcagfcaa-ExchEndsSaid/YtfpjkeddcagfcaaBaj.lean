/-
  Layer 14: the document's exchange hears a piece: just as the exchange of the program's values does.
-/
import Derived.Sort.Statements
import Derived.Sort.Defs
import Derived.Test.YtfpjkeddcagfcaaBab
import Derived.Test.YtfpjkeddcagfcaaBac
import Derived.Test.YtfpjkeddcagfcaaBae
import Derived.Test.YtfpjkeddcagfcaaBaf
import Derived.Test.YtfpjkeddcagfcaaBai
namespace Go.Proofs.Ytfpjkeddcagfcaa
open Go.RowKit Go.Sort

/-- what holds of the document's exchange besides its cells -/
structure RxOk (w : World) (x : ExM) (hl pv : Value) (j J : Nat) : Prop where
  le : j ≤ J
  isl : ∃ A n c, hl = .slice A n c
  no : x.ag = false → j = 0 ∧ x.ld = false ∧ x.dn = false
  yes : x.ag = true → (∃ V, Pcs w pv V x.H) ∧ x.k = kOf x.H.length j ∧ x.H.length ≤ 2 ^ 19
  rng : 0 ≤ x.n ∧ x.n ≤ 4294967295
/-- the document's exchange in memory -/
def RxAt (w : World) (p : Nat) (x : ExM) (J : Nat) : Prop :=
  ∃ hl hv pv j, Blk w p 68 (rxA x.a x.b x.n x.ag x.ld x.dn x.l1 x.l2 x.l3 x.l4 hl x.said.i x.said.m x.said.s x.said.q hv pv (j : Nat)) ∧ OwnR 56 7 Hd.cells w 0 hv x.said.hs ∧ RxOk w x hl pv j J
theorem RxOk.below {w w' : World} {x : ExM} {hl pv : Value} {j J : Nat} (h : RxOk w x hl pv j J) (hb : Below w.heap.size w w') : RxOk w' x hl pv j J :=
  ⟨h.le, h.isl, h.no, fun e => by obtain ⟨⟨V, h1⟩, h2⟩ := h.yes e; exact ⟨⟨V, h1.below hb⟩, h2⟩, h.rng⟩
theorem RxAt.below {w w' : World} {p : Nat} {x : ExM} {J : Nat} (h : RxAt w p x J) (hb : Below w.heap.size w w') : RxAt w' p x J := by
  obtain ⟨hl, hv, pv, j, h1, h2, h3⟩ := h
  exact ⟨hl, hv, pv, j, h1.below hb h1.lt, h2.below hb, h3.below hb⟩
theorem RxAt.later {w : World} {p : Nat} {x : ExM} {J J' : Nat} (h : RxAt w p x J) (hJ : J ≤ J') : RxAt w p x J' := by
  obtain ⟨hl, hv, pv, j, h1, h2, h3⟩ := h
  exact ⟨hl, hv, pv, j, h1, h2, ⟨Nat.le_trans h3.le hJ, h3.isl, h3.no, h3.yes, h3.rng⟩⟩
/-- what hearing leaves -/
def RHeard (x : ExM) (d : DdV) (S : List Hd) (p J : Nat) (w w' : World) (r : Ending) : Prop :=
  r = .returned (.int .i64 (hearM x d S).2) ∧ RxAt w' p (hearM x d S).1 (J + 1) ∧ w.grownBy w' (some p)
theorem RHeard.stay {x : ExM} {d : DdV} {S : List Hd} {p J : Nat} {w w' : World} {z : Int} (h : RxAt w p x J) (he : hearM x d S = (x, z)) (hb : Below w.heap.size w w') : RHeard x d S p J w w' (.returned (.int .i64 z)) := by
  unfold RHeard
  rw [he]
  exact ⟨rfl, (h.below hb).later (Nat.le_succ _), gr_below hb⟩
theorem said_zero (S : List Hd) : decide (0 + 3 < S.length) = moreP S 0 ∧ pieceAt S 0 = pcP S 0 := by
  have h := kOf_more S 0
  rw [kOf_zero] at h
  refine ⟨h, ?_⟩
  unfold pcP
  rw [kOf_zero]
theorem said_next (S : List Hd) (j : Nat) : decide (nextAt (kOf S.length j) S.length + 3 < S.length) = moreP S (j + 1) ∧ pieceAt S (nextAt (kOf S.length j) S.length) = pcP S (j + 1) := by
  rw [kOf_next]
  exact ⟨kOf_more S (j + 1), rfl⟩
theorem rxBegin_any (p J : Nat) (x : ExM) (d : DdV) (hA : Option Addr) (hc : Nat) (A : Option Addr) (nn cap : Nat) (S : List Hd) (w : World) (h : RxAt w p x J) (hag : x.ag = false) (hS : S.length ≤ 60) (hl : d.hs.length ≤ 2 ^ 40)
    (HN : ∀ W, w.grownBy W (some p) → Calls Try.prog 14 #[.slice A nn cap] W fun r w' => (∃ u, r = .returned u ∧ OwnR 56 7 Hd.cells w' W.heap.size u S) ∧ Below W.heap.size W w') :
    Calls Try.prog 12 #[.pointer (some ⟨p, 0, none⟩), d.val hA hc, .slice A nn cap] w fun r w' => RHeard x d S p J w w' r := by
  have h0 := h
  obtain ⟨a, b, n, ag, ld, dn, l1, l2, l3, l4, ⟨si, sm, ss, sq, shs⟩, H, k⟩ := x
  obtain ⟨i, m, s, q, hs⟩ := d
  simp only at hag hl
  subst hag
  obtain ⟨hlv, hv, pv, j, hp, ho, hok⟩ := h
  obtain ⟨hj, hld, hdn⟩ := hok.no rfl
  simp only at hld hdn
  subst hj hld hdn
  have hrng := hok.rng
  simp only at hp ho hrng
  simp only [DdV.val]
  have hnh : (hs.length : Int) ≤ 1099511627776 := by omega
  by_cases hq0 : q < 0
  · exact (rxNo_far0 p _ _ _ _ _ _ _ _ _ _ _ _ _ _ _ _ _ _ i m s q hA hs.length hc A nn cap hq0 hnh w hp).mono (by rintro r w' ⟨rfl, hb⟩; exact .stay h0 (by simp [hearM, hq0]) hb)
  by_cases hq1 : 4294967296 ≤ q
  · exact (rxNo_far1 p _ _ _ _ _ _ _ _ _ _ _ _ _ _ _ _ _ _ i m s q hA hs.length hc A nn cap hq0 hq1 hnh w hp).mono (by rintro r w' ⟨rfl, hb⟩; exact .stay h0 (by simp [hearM, show q < 0 ∨ 4294967295 < q by omega]) hb)
  have hqn : ¬ (q < 0 ∨ 4294967295 < q) := by omega
  have hn1 : ∀ (h : ¬ (i = true ∧ m = true ∧ s = true ∧ hs.length = 0 ∧ a < b)) (h2 : ¬ (i = false ∧ s = false ∧ q = n ∧ b < a)), hearM ⟨a, b, n, false, false, false, l1, l2, l3, l4, ⟨si, sm, ss, sq, shs⟩, H, k⟩ ⟨i, m, s, q, hs⟩ S = (⟨a, b, n, false, false, false, l1, l2, l3, l4, ⟨si, sm, ss, sq, shs⟩, H, k⟩, 0) := fun h h2 => by
    unfold hearM beginM
    rw [if_neg hqn, if_pos rfl, if_neg h, if_neg h2]
  cases i with
  | true =>
    cases m with
    | false => exact (rxNo_f1 p _ _ _ _ _ _ _ _ _ _ _ _ _ _ s q hA hs.length hc A nn cap hq0 hq1 hnh w hp).mono (by rintro r w' ⟨rfl, hb⟩; exact .stay h0 (hn1 (by simp) (by simp)) hb)
    | true =>
      cases s with
      | false => exact (rxNo_f2 p _ _ _ _ _ _ _ _ _ _ _ _ _ _ q hA hs.length hc A nn cap hq0 hq1 hnh w hp).mono (by rintro r w' ⟨rfl, hb⟩; exact .stay h0 (hn1 (by simp) (by simp)) hb)
      | true =>
        by_cases h4 : hs.length = 0
        · have e4 : ((hs.length : Int) == 0) = true := by simp [h4]
          by_cases h5 : a < b
          · refine (rxYes_first p _ _ _ _ _ _ _ _ _ _ _ _ _ _ q hA hs.length hc A nn cap hq0 hq1 h5 e4 hnh S hS w hp HN).mono ?_
            rintro r w' ⟨rfl, ⟨hv', pv', hp', ho', hV⟩, hg⟩
            have he : hearM ⟨a, b, n, false, false, false, l1, l2, l3, l4, ⟨si, sm, ss, sq, shs⟩, H, k⟩ ⟨true, true, true, q, hs⟩ S = (⟨a, b, q, true, false, false, true, true, true, q, ⟨false, moreP S 0, false, q, pcP S 0⟩, S, 0⟩, 2) := by
              unfold hearM beginM
              rw [if_neg hqn, if_pos rfl, if_pos ⟨rfl, rfl, rfl, h4, h5⟩]
              simp only [markM, sayM, (said_zero S).1, (said_zero S).2]
            unfold RHeard
            rw [he]
            exact ⟨rfl, ⟨_, hv', pv', 0, hp', ho', ⟨Nat.zero_le _, ⟨_, _, _, rfl⟩, (fun e => by cases e), fun _ => ⟨hV, (kOf_zero _).symm, (show S.length ≤ 2 ^ 19 by omega)⟩, (show 0 ≤ q by omega), (show q ≤ 4294967295 by omega)⟩⟩, hg⟩
          · exact (rxNo_f4 p _ _ _ _ _ _ _ _ _ _ _ _ _ _ q hA hs.length hc A nn cap hq0 hq1 e4 h5 hnh w hp).mono (by rintro r w' ⟨rfl, hb⟩; exact .stay h0 (hn1 (by simp [h5]) (by simp)) hb)
        · have e4 : ((hs.length : Int) == 0) = false := by rw [beq_eq_false_iff_ne]; omega
          exact (rxNo_f3 p _ _ _ _ _ _ _ _ _ _ _ _ _ _ q hA hs.length hc A nn cap hq0 hq1 e4 hnh w hp).mono (by rintro r w' ⟨rfl, hb⟩; exact .stay h0 (hn1 (fun e => h4 e.2.2.2.1) (by simp)) hb)
  | false =>
    cases s with
    | true => exact (rxNo_s1 p _ _ _ _ _ _ _ _ _ _ _ _ _ _ m q hA hs.length hc A nn cap hq0 hq1 hnh w hp).mono (by rintro r w' ⟨rfl, hb⟩; exact .stay h0 (hn1 (by simp) (by simp)) hb)
    | false =>
      by_cases h4 : q = n
      · have e4 : (q == n) = true := by simp [h4]
        by_cases h5 : b < a
        · refine (rxYes_second p _ _ _ _ _ _ _ _ _ _ _ _ _ _ m q hA hs.length hc A nn cap hq0 hq1 h5 e4 hnh S hS w hp HN).mono ?_
          rintro r w' ⟨rfl, ⟨hv', pv', hp', ho', hV⟩, hg⟩
          have he : hearM ⟨a, b, n, false, false, false, l1, l2, l3, l4, ⟨si, sm, ss, sq, shs⟩, H, k⟩ ⟨false, m, false, q, hs⟩ S = (⟨a, b, exNext q, true, true, false, false, m, false, q, ⟨false, moreP S 0, true, exNext q, pcP S 0⟩, S, 0⟩, 2) := by
            unfold hearM beginM
            rw [if_neg hqn, if_pos rfl, if_neg (by simp), if_pos ⟨rfl, rfl, h4, h5⟩]
            simp only [markM, sayM, (said_zero S).1, (said_zero S).2, h4]
          unfold RHeard
          rw [he]
          exact ⟨rfl, ⟨_, hv', pv', 0, hp', ho', ⟨Nat.zero_le _, ⟨_, _, _, rfl⟩, (fun e => by cases e), fun _ => ⟨hV, (kOf_zero _).symm, (show S.length ≤ 2 ^ 19 by omega)⟩, exNext_rng q⟩⟩, hg⟩
        · exact (rxNo_s3 p _ _ _ _ _ _ _ _ _ _ _ _ _ _ m q hA hs.length hc A nn cap hq0 hq1 e4 h5 hnh w hp).mono (by rintro r w' ⟨rfl, hb⟩; exact .stay h0 (hn1 (by simp) (fun e => h5 e.2.2.2)) hb)
      · have e4 : (q == n) = false := by simp [h4]
        exact (rxNo_s2 p _ _ _ _ _ _ _ _ _ _ _ _ _ _ m q hA hs.length hc A nn cap hq0 hq1 e4 hnh w hp).mono (by rintro r w' ⟨rfl, hb⟩; exact .stay h0 (hn1 (by simp) (fun e => h4 e.2.2.1)) hb)
theorem rxAgreed_any (p J : Nat) (x : ExM) (d : DdV) (hA : Option Addr) (hc : Nat) (A : Option Addr) (nn cap : Nat) (S : List Hd) (w : World) (h : RxAt w p x J) (hag : x.ag = true) (hJ : J + 1 ≤ 2 ^ 20) (hl : d.hs.length ≤ 2 ^ 40) :
    Calls Try.prog 12 #[.pointer (some ⟨p, 0, none⟩), d.val hA hc, .slice A nn cap] w fun r w' => RHeard x d S p J w w' r := by
  have h0 := h
  obtain ⟨a, b, n, ag, ld, dn, l1, l2, l3, l4, ⟨si, sm, ss, sq, shs⟩, H, k⟩ := x
  obtain ⟨i, m, s, q, hs⟩ := d
  simp only at hag hl
  subst hag
  obtain ⟨hlv, hv, pv, j, hp, ho, hok⟩ := h
  obtain ⟨⟨V, hP⟩, hk, hH⟩ := hok.yes rfl
  obtain ⟨LA, Ln, Lc, hle⟩ := hok.isl
  subst hle
  have hrng := hok.rng
  have hjJ := hok.le
  simp only at hp ho hrng hk hH hP
  subst hk
  simp only [DdV.val]
  have hnh : (hs.length : Int) ≤ 1099511627776 := by omega
  by_cases hq0 : q < 0
  · exact (rxNo_far0 p _ _ _ _ _ _ _ _ _ _ _ _ _ _ _ _ _ _ i m s q hA hs.length hc A nn cap hq0 hnh w hp).mono (by rintro r w' ⟨rfl, hb⟩; exact .stay h0 (by simp [hearM, hq0]) hb)
  by_cases hq1 : 4294967296 ≤ q
  · exact (rxNo_far1 p _ _ _ _ _ _ _ _ _ _ _ _ _ _ _ _ _ _ i m s q hA hs.length hc A nn cap hq0 hq1 hnh w hp).mono (by rintro r w' ⟨rfl, hb⟩; exact .stay h0 (by simp [hearM, show q < 0 ∨ 4294967295 < q by omega]) hb)
  have hqn : ¬ (q < 0 ∨ 4294967295 < q) := by omega
  obtain ⟨X, hX⟩ : ∃ X : ExM, X = ⟨a, b, n, true, ld, dn, l1, l2, l3, l4, ⟨si, sm, ss, sq, shs⟩, H, kOf H.length j⟩ := ⟨_, rfl⟩
  by_cases ht : i = l1 ∧ m = l2 ∧ s = l3 ∧ q = l4
  · have ht2 : decide (i = l1 ∧ m = l2 ∧ s = l3 ∧ q = l4) = true := decide_eq_true ht
    have he : hearM ⟨a, b, n, true, ld, dn, l1, l2, l3, l4, ⟨si, sm, ss, sq, shs⟩, H, kOf H.length j⟩ ⟨i, m, s, q, hs⟩ S = (⟨a, b, n, true, ld, dn, l1, l2, l3, l4, ⟨si, sm, ss, sq, shs⟩, H, kOf H.length j⟩, if ld = true then 0 else 1) := by
      unfold hearM
      rw [if_neg hqn, if_neg (by simp), if_pos (by simpa [sameM] using ht)]
    cases ld with
    | true => exact (rxAgain_true p _ _ _ i m s dn _ _ _ _ _ _ _ _ _ _ _ _ _ j q hA hs.length hc A nn cap hq0 hq1 hrng.1 hrng.2 ht2 w hp).mono (by rintro r w' ⟨rfl, hb⟩; exact .stay h0 he hb)
    | false => exact (rxAgain_false p _ _ _ i m s dn _ _ _ _ _ _ _ _ _ _ _ _ _ j q hA hs.length hc A nn cap hq0 hq1 hrng.1 hrng.2 ht2 w hp).mono (by rintro r w' ⟨rfl, hb⟩; exact .stay h0 he hb)
  · have ht2 : decide (i = l1 ∧ m = l2 ∧ s = l3 ∧ q = l4) = false := decide_eq_false ht
    have hsm : sameM ⟨a, b, n, true, ld, dn, l1, l2, l3, l4, ⟨si, sm, ss, sq, shs⟩, H, kOf H.length j⟩ ⟨i, m, s, q, hs⟩ = false := ht2
    have hbad : fitsM ⟨a, b, n, true, ld, dn, l1, l2, l3, l4, ⟨si, sm, ss, sq, shs⟩, H, kOf H.length j⟩ ⟨i, m, s, q, hs⟩ = false → hearM ⟨a, b, n, true, ld, dn, l1, l2, l3, l4, ⟨si, sm, ss, sq, shs⟩, H, kOf H.length j⟩ ⟨i, m, s, q, hs⟩ S = (⟨a, b, n, true, ld, dn, l1, l2, l3, l4, ⟨si, sm, ss, sq, shs⟩, H, kOf H.length j⟩, 3) := fun hf => by
      unfold hearM
      rw [if_neg hqn, if_neg (by simp), if_neg (by rw [hsm]; simp), if_neg (by rw [hf]; simp)]
    have hgood : fitsM ⟨a, b, n, true, ld, dn, l1, l2, l3, l4, ⟨si, sm, ss, sq, shs⟩, H, kOf H.length j⟩ ⟨i, m, s, q, hs⟩ = true → hearM ⟨a, b, n, true, ld, dn, l1, l2, l3, l4, ⟨si, sm, ss, sq, shs⟩, H, kOf H.length j⟩ ⟨i, m, s, q, hs⟩ S = (markM (takeM ⟨a, b, n, true, ld, dn, l1, l2, l3, l4, ⟨si, sm, ss, sq, shs⟩, H, kOf H.length j⟩ ⟨i, m, s, q, hs⟩) ⟨i, m, s, q, hs⟩, 2) := fun hf => by
      unfold hearM
      rw [if_neg hqn, if_neg (by simp), if_neg (by rw [hsm]; simp), if_pos hf]
    cases dn with
    | true =>
      cases ld with
      | true => exact (rxBad_dn_true p _ _ _ i m s _ _ _ _ _ _ _ _ _ _ _ _ _ j q hA hs.length hc A nn cap hq0 hq1 hrng.1 hrng.2 ht2 w hp).mono (by rintro r w' ⟨rfl, hb⟩; exact .stay h0 (hbad (by simp [fitsM])) hb)
      | false => exact (rxBad_dn_false p _ _ _ i m s _ _ _ _ _ _ _ _ _ _ _ _ _ j q hA hs.length hc A nn cap hq0 hq1 hrng.1 hrng.2 ht2 w hp).mono (by rintro r w' ⟨rfl, hb⟩; exact .stay h0 (hbad (by simp [fitsM])) hb)
    | false =>
      cases i with
      | true =>
        cases ld with
        | true => exact (rxBad_in_true p _ _ _ m s _ _ _ _ _ _ _ _ _ _ _ _ _ j q hA hs.length hc A nn cap hq0 hq1 hrng.1 hrng.2 ht2 w hp).mono (by rintro r w' ⟨rfl, hb⟩; exact .stay h0 (hbad (by simp [fitsM])) hb)
        | false => exact (rxBad_in_false p _ _ _ m s _ _ _ _ _ _ _ _ _ _ _ _ _ j q hA hs.length hc A nn cap hq0 hq1 hrng.1 hrng.2 ht2 w hp).mono (by rintro r w' ⟨rfl, hb⟩; exact .stay h0 (hbad (by simp [fitsM])) hb)
      | false =>
        cases ld with
        | true =>
          cases s with
          | true => exact (rxBad_ms_true p _ _ _ m _ _ _ _ _ _ _ _ _ _ _ _ _ j q hA hs.length hc A nn cap hq0 hq1 hrng.1 hrng.2 ht2 w hp).mono (by rintro r w' ⟨rfl, hb⟩; exact .stay h0 (hbad (by simp [fitsM])) hb)
          | false =>
            by_cases h4 : q = n
            · have e4 : (q == n) = true := by simp [h4]
              have hf := hgood (by simp [fitsM, wantM, h4])
              by_cases hd : m = false ∧ sm = false
              · obtain ⟨rfl, rfl⟩ := hd
                refine (rxLead_done p _ _ _ _ _ _ _ _ _ _ _ _ _ _ _ _ j q hA hs.length hc A nn cap hq0 hq1 hrng.1 hrng.2 ht2 e4 rfl w hp).mono ?_
                rintro r w' ⟨rfl, hp', hg⟩
                have he := hf.trans (show _ = ((⟨a, b, exNext n, true, true, true, false, false, false, q, ⟨si, false, ss, sq, shs⟩, H, kOf H.length j⟩ : ExM), (2 : Int)) by simp [markM, takeM, h4])
                unfold RHeard
                rw [he]
                exact ⟨rfl, ⟨_, hv, pv, j, hp', ho.kept hg (.inr (own_ne14 ho hp (by decide))), ⟨by omega, ⟨_, _, _, rfl⟩, (fun e => by cases e), fun _ => ⟨⟨V, hP.grown hp (by decide) (by decide) hg⟩, rfl, hH⟩, exNext_rng n⟩⟩, hg⟩
              · have hstep : ∀ r w', (r = .returned (.int .i64 2) ∧ (∃ hv', Blk w' p 68 (rxA a b (exNext n) true true false false m false q (.slice hA hs.length hc) false (moreP H (j + 1)) true (exNext n) hv' pv (j + 1 : Nat)) ∧ OwnR 56 7 Hd.cells w' 0 hv' (pcP H (j + 1)) ∧ Pcs w' pv V H) ∧ w.grownBy w' (some p)) → RHeard ⟨a, b, n, true, true, false, l1, l2, l3, l4, ⟨si, sm, ss, sq, shs⟩, H, kOf H.length j⟩ ⟨false, m, false, q, hs⟩ S p J w w' r := by
                  rintro r w' ⟨rfl, ⟨hv', hp', ho', hP'⟩, hg⟩
                  have he := hf.trans (show _ = ((⟨a, b, exNext n, true, true, false, false, m, false, q, ⟨false, moreP H (j + 1), true, exNext n, pcP H (j + 1)⟩, H, kOf H.length (j + 1)⟩ : ExM), (2 : Int)) by
                    have hd2 : (!m && !sm) = false := by cases m <;> cases sm <;> simp_all
                    simp only [markM, takeM, h4, if_true, hd2, Bool.false_eq_true, if_false, sayM, stepM, kOf_next, kOf_more, pcP])
                  unfold RHeard
                  rw [he]
                  exact ⟨rfl, ⟨_, hv', pv, j + 1, hp', ho', ⟨by omega, ⟨_, _, _, rfl⟩, (fun e => by cases e), fun _ => ⟨⟨V, hP'⟩, rfl, hH⟩, exNext_rng n⟩⟩, hg⟩
                cases m with
                | true => exact (rxLead_step1 p _ _ _ _ _ _ _ _ _ _ _ _ _ _ _ _ j q hA hs.length hc A nn cap hq0 hq1 hrng.1 hrng.2 ht2 e4 w hp hP (by omega) hH).mono hstep
                | false =>
                  have hsmt : sm = true := by cases sm <;> simp_all
                  exact (rxLead_step2 p _ _ _ _ _ _ _ _ _ _ _ _ _ _ _ _ j q hA hs.length hc A nn cap hq0 hq1 hrng.1 hrng.2 ht2 e4 hsmt w hp hP (by omega) hH).mono hstep
            · have e4 : (q == n) = false := by simp [h4]
              exact (rxBad_sq_true p _ _ _ m _ _ _ _ _ _ _ _ _ _ _ _ _ j q hA hs.length hc A nn cap hq0 hq1 hrng.1 hrng.2 ht2 e4 w hp).mono (by rintro r w' ⟨rfl, hb⟩; exact .stay h0 (hbad (by simp [fitsM, wantM, h4])) hb)
        | false =>
          cases s with
          | false => exact (rxBad_ms_false p _ _ _ m _ _ _ _ _ _ _ _ _ _ _ _ _ j q hA hs.length hc A nn cap hq0 hq1 hrng.1 hrng.2 ht2 w hp).mono (by rintro r w' ⟨rfl, hb⟩; exact .stay h0 (hbad (by simp [fitsM])) hb)
          | true =>
            by_cases h4 : q = exNext n
            · have e4 : (q == (n + 1) % 4294967296) = true := by rw [h4]; simp [exNext]
              have hf := hgood (by simp [fitsM, wantM, h4])
              have hq2 : 0 ≤ q ∧ q ≤ 4294967295 := by omega
              have hstep : ∀ r w', (r = .returned (.int .i64 2) ∧ (∃ hv', Blk w' p 68 (rxA a b q true false (!m && !moreP H (j + 1)) false m true q (.slice hA hs.length hc) false (moreP H (j + 1)) false q hv' pv (j + 1 : Nat)) ∧ OwnR 56 7 Hd.cells w' 0 hv' (pcP H (j + 1)) ∧ Pcs w' pv V H) ∧ w.grownBy w' (some p)) → RHeard ⟨a, b, n, true, false, false, l1, l2, l3, l4, ⟨si, sm, ss, sq, shs⟩, H, kOf H.length j⟩ ⟨false, m, true, q, hs⟩ S p J w w' r := by
                rintro r w' ⟨rfl, ⟨hv', hp', ho', hP'⟩, hg⟩
                have he := hf.trans (show _ = ((⟨a, b, q, true, false, !m && !moreP H (j + 1), false, m, true, q, ⟨false, moreP H (j + 1), false, q, pcP H (j + 1)⟩, H, kOf H.length (j + 1)⟩ : ExM), (2 : Int)) by
                  simp only [markM, takeM, Bool.false_eq_true, if_false, sayM, stepM, kOf_next, kOf_more, pcP])
                unfold RHeard
                rw [he]
                exact ⟨rfl, ⟨_, hv', pv, j + 1, hp', ho', ⟨by omega, ⟨_, _, _, rfl⟩, (fun e => by cases e), fun _ => ⟨⟨V, hP'⟩, rfl, hH⟩, hq2⟩⟩, hg⟩
              cases m with
              | true => exact (rxFol_true p _ _ _ _ _ _ _ _ _ _ _ _ _ _ _ _ j q hA hs.length hc A nn cap hq0 hq1 hrng.1 hrng.2 ht2 e4 w hp hP (by omega) hH).mono (by simpa using hstep)
              | false => exact (rxFol_false p _ _ _ _ _ _ _ _ _ _ _ _ _ _ _ _ j q hA hs.length hc A nn cap hq0 hq1 hrng.1 hrng.2 ht2 e4 w hp hP (by omega) hH).mono (by simpa using hstep)
            · have e4 : (q == (n + 1) % 4294967296) = false := by simpa [exNext] using h4
              exact (rxBad_sq_false p _ _ _ m _ _ _ _ _ _ _ _ _ _ _ _ _ j q hA hs.length hc A nn cap hq0 hq1 hrng.1 hrng.2 ht2 e4 w hp).mono (by rintro r w' ⟨rfl, hb⟩; exact .stay h0 (hbad (by simp [fitsM, wantM, h4])) hb)
/-- the document's exchange hears a piece -/
theorem rxHear_any (p J : Nat) (x : ExM) (d : DdV) (hA : Option Addr) (hc : Nat) (A : Option Addr) (nn cap : Nat) (S : List Hd) (w : World) (h : RxAt w p x J) (hJ : J + 1 ≤ 2 ^ 20) (hS : S.length ≤ 60) (hl : d.hs.length ≤ 2 ^ 40)
    (HN : ∀ W, w.grownBy W (some p) → Calls Try.prog 14 #[.slice A nn cap] W fun r w' => (∃ u, r = .returned u ∧ OwnR 56 7 Hd.cells w' W.heap.size u S) ∧ Below W.heap.size W w') :
    Calls Try.prog 12 #[.pointer (some ⟨p, 0, none⟩), d.val hA hc, .slice A nn cap] w fun r w' => RHeard x d S p J w w' r := by
  cases hag : x.ag with
  | false => exact rxBegin_any p J x d hA hc A nn cap S w h hag hS hl HN
  | true => exact rxAgreed_any p J x d hA hc A nn cap S w h hag hJ hl

end Go.Proofs.Ytfpjkeddcagfcaa

/-
  Layer 14: an exchange is what is told of it.
-/
namespace Go.Proofs.Ytfpjkeddcagfcaa
open Go.RowKit Go.Sort

set_option maxHeartbeats 2000000 in
set_option maxRecDepth 100000 in
theorem same14_any (i m s : Bool) (q : Int) (A A' : Option Addr) (c c' : Nat) (l : List Hd) (w : World) (h : RowsAt 7 Hd.cells w w.heap.size A l) (h' : RowsAt 7 Hd.cells w w.heap.size A' l) (hlen : l.length ≤ 2 ^ 20) (n : Nat) (hn : n = l.length) :
    Calls Try.prog 20 #[.agg #[.bool i, .bool m, .bool s, .int .i64 q, .slice A n c], .agg #[.bool i, .bool m, .bool s, .int .i64 q, .slice A' n c']] w fun r w' => r = .returned (.bool true) ∧ Below w.heap.size w w' := by
  have HS := Lib.hid (fun W (hW : Below w.heap.size w W) => Same13s A A' c c' l W w.heap.size w.heap.size (h.below hW) (h'.below hW) hW.size hW.size hlen n n hn hn)
  have HA := Lib.hid (fun W => alike_any i m s q (.slice A n c) i m s q (.slice A' n c') (t := true) (by simp) ⟨_, _, _, rfl⟩ ⟨_, _, _, rfl⟩ W)
  obtain ⟨w1, hw1⟩ : ∃ w1, (w.alloc (.cells #[.bool i, .bool m, .bool s, .int .i64 q, .slice A n c] 33)).alloc (.cells #[.bool i, .bool m, .bool s, .int .i64 q, .slice A' n c'] 33) = w1 := ⟨_, rfl⟩
  have hd : Blk w1 w.heap.size 33 #[.bool i, .bool m, .bool s, .int .i64 q, .slice A n c] := by rw [← hw1]; exact (Blk.new _ _ _).alloc _
  have hd' : Blk w1 (w.heap.size + 1) 33 #[.bool i, .bool m, .bool s, .int .i64 q, .slice A' n c'] := by rw [← hw1]; exact Blk.size (by simp)
  have hb1 : Below w.heap.size w w1 := by rw [← hw1]; exact (below_new _ _).alloc (by simp) _
  have HD := Lib.hid hd
  have HD' := Lib.hid hd'
  have Hb1 := Lib.hid hb1
  obtain ⟨d0, d1, d2, d3, d4⟩ := blk5 hd
  obtain ⟨e0, e1, e2, e3, e4⟩ := blk5 hd'
  clear hd hd' hb1 h h' hlen hn
  go_enter Try.func20, Try.ntmps20
  go_wp2_with fail
  with_reducible refine Calls.mono (HA.out _) ?_
  rintro r w2 ⟨rfl, hb2⟩
  have Hb2 := Lib.hid (below_trans Hb1.out Hb1.out.size hb2)
  have hd2 := HD.out.below hb2 HD.out.lt
  have hd2' := HD'.out.below hb2 HD'.out.lt
  clear d0 d1 d2 d3 d4 e0 e1 e2 e3 e4 hb2
  obtain ⟨d0, d1, d2, d3, d4⟩ := blk5 hd2
  obtain ⟨e0, e1, e2, e3, e4⟩ := blk5 hd2'
  clear hd2 hd2'
  go_wp2_with fail
  with_reducible refine Calls.mono (HS.out _ Hb2.out) ?_
  rintro r w3 ⟨rfl, hb3⟩
  have Hb3 := Lib.hid (below_trans Hb2.out Hb2.out.size hb3)
  clear hb3
  go_wp2
  go_ret
  exact ⟨rfl, Hb3.out⟩
theorem pinned14 {f : FuncId} {args : Array Value} {v : Value} {w : World} (h : ∀ W, Below w.heap.size w W → Calls Try.prog f args W fun r w' => r = .returned v ∧ w' = W) : ∀ W, Below w.heap.size w W → Calls Try.prog f args W fun r w' => r = .returned v ∧ Below W.heap.size W w' := fun W hW => (h W hW).mono fun r w' ⟨e, e2⟩ => ⟨e, by rw [e2]; exact Below.refl _ _⟩
set_option maxHeartbeats 4000000 in
set_option maxRecDepth 100000 in
theorem lawSame14 {X : Nat → Prop} (p s0 py J : Nat) (x : ExM) (w : World) (h : ExAt X w p s0 x) (hr : RxAt w py x J) (hl : x.said.hs.length ≤ 2 ^ 20) :
    Calls Try.prog 10 #[.pointer (some ⟨p, 0, none⟩), .pointer (some ⟨py, 0, none⟩)] w fun r w' => r = .returned (.bool true) ∧ Below w.heap.size w w' := by
  have HT := Lib.hid (told_any p s0 x w h hl)
  have HE := Lib.hid h
  obtain ⟨hlv, hv, pv, j, hp, ho, -⟩ := hr
  obtain ⟨xv, hx, -⟩ := h.ptr
  have HX := Lib.hid hx
  have HY := Lib.hid hp
  have HO := Lib.hid ho
  have Hl := Lib.hid hl
  obtain ⟨a, b, n, ag, ld, dn, l1, l2, l3, l4, ⟨si, sm, ss, sq, shs⟩, H, k⟩ := x
  simp only [ExM.ar] at HX HY HO HT Hl
  obtain ⟨pw, hpw⟩ : ∃ z, (if ag = true then Value.pointer (some ⟨s0, 0, none⟩) else Value.pointer none) = z := ⟨_, rfl⟩
  rw [hpw] at HX
  obtain ⟨A', c', hv2⟩ := HO.out.shape
  obtain ⟨nh, hnh⟩ : ∃ z, shs.length = z := ⟨_, rfl⟩
  rw [hnh] at hv2
  subst hv2
  have Hnh := Lib.hid hnh
  clear hpw hnh h hp ho hl hx HE
  go_enter Try.func10, Try.ntmps10
  go_wp2_with fail
  with_reducible refine Calls.mono HT.out ?_
  rintro r w2 ⟨u, rfl, ho2, hb2⟩
  obtain ⟨A2, c2, hu⟩ := ho2.shape
  rw [Hnh.out] at hu
  subst hu
  have HX2 := Lib.hid (HX.out.below hb2 HX.out.lt)
  have HY2 := Lib.hid (HY.out.below hb2 HY.out.lt)
  have HO2 := Lib.hid (HO.out.below hb2)
  have HU2 := Lib.hid ho2
  have Hb2 := Lib.hid hb2
  clear hb2 ho2 HX HY HO
  go_wp2_with fail
  obtain ⟨w3, hw3⟩ : ∃ w3, w2.alloc (.cells #[.bool si, .bool sm, .bool ss, .int .i64 sq, .slice A2 nh c2] 33) = w3 := ⟨_, rfl⟩
  rw [hw3]
  obtain ⟨g3, hg3⟩ : ∃ g3, w2.heap.size = g3 := ⟨_, rfl⟩
  rw [hg3]
  have hd := Blk.new w2 33 #[.bool si, .bool sm, .bool ss, .int .i64 sq, .slice A2 nh c2]
  have hb3 := below_new w2 (.cells #[.bool si, .bool sm, .bool ss, .int .i64 sq, .slice A2 nh c2] 33)
  rw [hw3, hg3] at hd
  rw [hw3] at hb3
  have hx3 := HX2.out.below hb3 HX2.out.lt
  have hy3 := HY2.out.below hb3 HY2.out.lt
  obtain ⟨x0, x1, x2, x3, x4, x5, x6, x7, x8, x9, xa, xb, xc, xd, xe, xf⟩ := blk16 hx3
  obtain ⟨y0, y1, y2, y3, y4, y5, y6, y7, y8, y9, ya, yb, yc, yd, ye, yf, yg, yh⟩ := blk18 hy3
  obtain ⟨d0, d1, d2, d3, d4⟩ := blk5 hd
  have CS := Lib.hid (fun dd os => Calls.regrown_of (w := w3) (d := dd) (os := os) (same14_any si sm ss sq A2 A' c2 c' shs _ ((OwnR.rows (C := 7) (cells := Hd.cells) (fun _ => rfl) ((HU2.out.below hb3).below (below_regrown w3 dd os))).2) ((OwnR.rows (C := 7) (cells := Hd.cells) (fun _ => rfl) ((HO2.out.below hb3).below (below_regrown w3 dd os))).2) Hl.out nh Hnh.out.symm))
  have CA := Lib.hid (fun dd os => Calls.regrown_of (w := w3) (d := dd) (os := os) (pinned14 (w := w3) (v := .bool ag) (fun W hW => agreed_any p ag W (((hx3.below hW hx3.lt).cell 3).trans rfl)) _ (below_regrown w3 dd os)))
  have CL := Lib.hid (fun dd os => Calls.regrown_of (w := w3) (d := dd) (os := os) (pinned14 (w := w3) (v := .bool ld) (fun W hW => leads_any p ld W (((hx3.below hW hx3.lt).cell 4).trans rfl)) _ (below_regrown w3 dd os)))
  have CD := Lib.hid (fun dd os => Calls.regrown_of (w := w3) (d := dd) (os := os) (pinned14 (w := w3) (v := .bool dn) (fun W hW => done_any p dn W (((hx3.below hW hx3.lt).cell 5).trans rfl)) _ (below_regrown w3 dd os)))
  have CQ := Lib.hid (fun dd os => Calls.regrown_of (w := w3) (d := dd) (os := os) (pinned14 (w := w3) (v := .int .i64 n) (fun W hW => seq_any p n W (((hx3.below hW hx3.lt).cell 2).trans rfl)) _ (below_regrown w3 dd os)))
  have d0 := cell_regrown d0
  have d1 := cell_regrown d1
  have d2 := cell_regrown d2
  have d3 := cell_regrown d3
  have d4 := cell_regrown d4
  have y2 := cell_regrown y2
  have y3 := cell_regrown y3
  have y4 := cell_regrown y4
  have y5 := cell_regrown y5
  have yb := cell_regrown yb
  have yc := cell_regrown yc
  have yd := cell_regrown yd
  have ye := cell_regrown ye
  have yf := cell_regrown yf
  have Hb3 := Lib.hid (below_trans Hb2.out Hb2.out.size hb3)
  clear hd hb3 hx3 hy3 x0 x1 x2 x3 x4 x5 x6 x7 x8 x9 xa xb xc xd xe xf y0 y1 y6 y7 y8 y9 ya yg yh hw3 hg3
  refine wp_region_quiet_below (by kernel_rfl) (by kernel_rfl) ?_
  repeat (go_big_quiet_step (first | exact CS.out _ _ | exact CA.out _ _ | exact CL.out _ _ | exact CD.out _ _ | exact CQ.out _ _))
  refine wpQuiet_nil ?_
  rintro w5 ⟨⟨dq, osq⟩, rfl⟩
  have Hb5 := Lib.hid (below_trans Hb3.out Hb3.out.size (below_regrown w3 dq osq))
  go_wp2
  go_ret
  exact ⟨by simp, Hb5.out⟩

end Go.Proofs.Ytfpjkeddcagfcaa

/-
  Stable sorting in plain words: neighbors that change places, blocks that are merged.
-/
namespace Go.Proofs.Ytfpjkeddcagfcaa
open Go.Sort

section
variable {α : Type} {lt : α → α → Bool}
/-- neither is less -/
def eqvB (lt : α → α → Bool) (x y : α) : Bool := !lt x y && !lt y x
def SrtL (lt : α → α → Bool) (L : List α) : Prop := L.Pairwise fun x y => lt y x = false
/-- of each class the same, in the same order -/
def SameC (lt : α → α → Bool) (L M : List α) : Prop := ∀ x, L.filter (eqvB lt x) = M.filter (eqvB lt x)
/-- the second row is the first one, sorted stably -/
structure Stb (lt : α → α → Bool) (L M : List α) : Prop where
  srt : SrtL lt M
  cls : SameC lt L M
  prm : L.Perm M
theorem SameC.rfl' {L : List α} : SameC lt L L := fun _ => rfl
theorem SameC.trans {L M N : List α} (h : SameC lt L M) (g : SameC lt M N) : SameC lt L N := fun x => (h x).trans (g x)
theorem SameC.app {L M L' M' : List α} (h : SameC lt L M) (g : SameC lt L' M') : SameC lt (L ++ L') (M ++ M') := fun x => by rw [List.filter_append, List.filter_append, h x, g x]
theorem SameC.swap (hw : SWO lt) {U V : List α} (h : ∀ x ∈ U, ∀ y ∈ V, lt y x = true) : SameC lt (U ++ V) (V ++ U) := fun c => by
  rw [List.filter_append, List.filter_append]
  by_cases hu : U.filter (eqvB lt c) = []
  · rw [hu]; simp
  · have hv : V.filter (eqvB lt c) = [] := by
      rw [List.filter_eq_nil_iff]
      intro y hy hc
      obtain ⟨x, hx⟩ := List.exists_mem_of_ne_nil _ hu
      rw [List.mem_filter] at hx
      unfold eqvB at hx hc
      simp only [Bool.and_eq_true, Bool.not_eq_true'] at hx hc
      have := hw.ntrans _ _ _ hc.2 hx.2.1
      rw [h x hx.1 y hy] at this
      cases this
    rw [hv]; simp
theorem eqvB_self (hw : SWO lt) (x : α) : eqvB lt x x = true := by unfold eqvB; rw [hw.irrefl]; rfl
theorem SameC.mem (hw : SWO lt) {L M : List α} (h : SameC lt L M) {x : α} (hx : x ∈ L) : x ∈ M := by
  have : x ∈ L.filter (eqvB lt x) := List.mem_filter.2 ⟨hx, eqvB_self hw x⟩
  rw [h x] at this
  exact (List.mem_filter.1 this).1
theorem srt_unique (hw : SWO lt) : ∀ {M N : List α}, SrtL lt M → SrtL lt N → SameC lt M N → M = N
  | [], [], _, _, _ => rfl
  | [], y :: N, _, _, h => by have := SameC.mem hw (fun x => (h x).symm) (List.mem_cons_self (a := y) (l := N)); cases this
  | x :: M, [], _, _, h => by have := SameC.mem hw h (List.mem_cons_self (a := x) (l := M)); cases this
  | x :: M, y :: N, h1, h2, h => by
    obtain ⟨a1, a2⟩ := List.pairwise_cons.1 h1
    obtain ⟨b1, b2⟩ := List.pairwise_cons.1 h2
    have g1 : lt x y = false := by
      rcases List.mem_cons.1 (SameC.mem hw h (List.mem_cons_self (a := x) (l := M))) with e | e
      · rw [e]; exact hw.irrefl _
      · exact b1 _ e
    have g2 : lt y x = false := by
      rcases List.mem_cons.1 (SameC.mem hw (fun x => (h x).symm) (List.mem_cons_self (a := y) (l := N))) with e | e
      · rw [e]; exact hw.irrefl _
      · exact a1 _ e
    have hxy : eqvB lt x y = true := by unfold eqvB; rw [g1, g2]; rfl
    have e := h x
    rw [List.filter_cons_of_pos (eqvB_self hw x), List.filter_cons_of_pos hxy] at e
    injection e with e1 e2
    subst e1
    have ht : SameC lt M N := fun c => by
      have e := h c
      cases hc : eqvB lt c x with
      | true => rw [List.filter_cons_of_pos hc, List.filter_cons_of_pos hc] at e; injection e
      | false => rw [List.filter_cons_of_neg (by rw [hc]; decide), List.filter_cons_of_neg (by rw [hc]; decide)] at e; exact e
    rw [srt_unique hw a2 b2 ht]
theorem Stb.unique (hw : SWO lt) {L M N : List α} (h : Stb lt L M) (g : Stb lt L N) : M = N := srt_unique hw h.srt g.srt fun x => (h.cls x).symm.trans (g.cls x)
theorem Stb.refl {L : List α} (h : SrtL lt L) : Stb lt L L := ⟨h, SameC.rfl', List.Perm.refl _⟩
theorem Stb.from_ {L M N : List α} (h : Stb lt M N) (hc : SameC lt L M) (hp : L.Perm M) : Stb lt L N := ⟨h.srt, hc.trans h.cls, hp.trans h.prm⟩
theorem srt_app {L M : List α} (h1 : SrtL lt L) (h2 : SrtL lt M) (h : ∀ x ∈ L, ∀ y ∈ M, lt y x = false) : SrtL lt (L ++ M) := List.pairwise_append.2 ⟨h1, h2, h⟩
theorem SrtL.left {L M : List α} (h : SrtL lt (L ++ M)) : SrtL lt L := (List.pairwise_append.1 h).1
theorem SrtL.right {L M : List α} (h : SrtL lt (L ++ M)) : SrtL lt M := (List.pairwise_append.1 h).2.1
theorem SrtL.cross {L M : List α} (h : SrtL lt (L ++ M)) : ∀ x ∈ L, ∀ y ∈ M, lt y x = false := (List.pairwise_append.1 h).2.2
theorem srt_nil : SrtL lt [] := List.Pairwise.nil
theorem srt_one {x : α} : SrtL lt [x] := List.pairwise_singleton _ _
/-- two sorted rows, cut in two each, merged part by part -/
theorem merge_cut (hw : SWO lt) {X1 X2 Y1 Y2 Z1 Z2 : List α} (hx : SrtL lt (X1 ++ X2)) (hy : SrtL lt (Y1 ++ Y2)) (h1 : ∀ x ∈ X2, ∀ y ∈ Y1, lt y x = true) (h2 : ∀ x ∈ X1, ∀ y ∈ Y2, lt y x = false)
    (g1 : Stb lt (X1 ++ Y1) Z1) (g2 : Stb lt (X2 ++ Y2) Z2) : Stb lt ((X1 ++ X2) ++ (Y1 ++ Y2)) (Z1 ++ Z2) where
  srt := by
    refine srt_app g1.srt g2.srt fun x hx' y hy' => ?_
    rw [← g1.prm.mem_iff, List.mem_append] at hx'
    rw [← g2.prm.mem_iff, List.mem_append] at hy'
    rcases hx' with hx' | hx' <;> rcases hy' with hy' | hy'
    · exact hx.cross x hx' y hy'
    · exact h2 x hx' y hy'
    · have := h1 y hy' x hx'
      cases e : lt y x with
      | false => rfl
      | true => have g := hw.trans _ _ _ this e; rw [hw.irrefl] at g; cases g
    · exact hy.cross x hx' y hy'
  cls := by
    have h : SameC lt ((X1 ++ X2) ++ (Y1 ++ Y2)) ((X1 ++ Y1) ++ (X2 ++ Y2)) := by
      have e := SameC.app (SameC.rfl' (lt := lt) (L := X1)) (SameC.app (SameC.swap hw h1) (SameC.rfl' (L := Y2)))
      simpa only [List.append_assoc] using e
    exact h.trans (g1.cls.app g2.cls)
  prm := by
    have h : ((X1 ++ X2) ++ (Y1 ++ Y2)).Perm ((X1 ++ Y1) ++ (X2 ++ Y2)) := by
      have e := ((List.perm_append_comm (l₁ := X2) (l₂ := Y1)).append_right Y2).append_left X1
      simpa only [List.append_assoc] using e
    exact h.trans (g1.prm.append g2.prm)
/-- one more behind what is sorted, brought to its place -/
theorem stb_ins (hw : SWO lt) {X Z1 Z2 : List α} {x : α} (h : Stb lt X (Z1 ++ Z2)) (h1 : ∀ z ∈ Z2, lt x z = true) (h2 : Z1 = [] ∨ ∃ Z z, Z1 = Z ++ [z] ∧ lt x z = false) : Stb lt (X ++ [x]) (Z1 ++ [x] ++ Z2) where
  srt := by
    have hz : ∀ z ∈ Z1, lt x z = false := by
      rcases h2 with rfl | ⟨Z, z, rfl, hz⟩
      · simp
      · intro u hu
        rw [List.mem_append, List.mem_singleton] at hu
        rcases hu with hu | rfl
        · exact hw.ntrans _ _ _ hz (h.srt.left.cross u hu z (by simp))
        · exact hz
    refine srt_app (srt_app h.srt.left srt_one fun u hu y hy => by rw [List.mem_singleton] at hy; subst hy; exact hz u hu) h.srt.right fun u hu y hy => ?_
    rw [List.mem_append, List.mem_singleton] at hu
    rcases hu with hu | rfl
    · exact h.srt.cross u hu y hy
    · have := h1 y hy
      cases e : lt y u with
      | false => rfl
      | true => have g := hw.trans _ _ _ this e; rw [hw.irrefl] at g; cases g
  cls := by
    have e := (h.cls.app (SameC.rfl' (L := [x])))
    refine e.trans ?_
    have e2 := SameC.app (SameC.rfl' (lt := lt) (L := Z1)) (SameC.swap hw (U := Z2) (V := [x]) (fun z hz y hy => by rw [List.mem_singleton] at hy; subst hy; exact h1 z hz))
    simpa only [List.append_assoc] using e2
  prm := by
    refine (h.prm.append_right [x]).trans ?_
    have e := (List.perm_append_comm (l₁ := Z2) (l₂ := [x])).append_left Z1
    simpa only [List.append_assoc] using e
theorem cut_at (L : List α) (k : Nat) (hk : k ≤ L.length) : ∃ A B, L = A ++ B ∧ A.length = k := ⟨L.take k, L.drop k, (List.take_append_drop k L).symm, by rw [List.length_take]; omega⟩
/-- what a search finds: where both rows are cut -/
theorem search_cut (hw : SWO lt) {P X Y S : List α} {st en : Nat} (hx : SrtL lt X) (hy : SrtL lt Y) (h1 : P.length ≤ st) (h2 : st ≤ P.length + X.length) (h3 : P.length + X.length ≤ en) (h4 : en ≤ P.length + X.length + Y.length)
    (lo : st = P.length ∨ en = P.length + X.length + Y.length ∨ ∃ x y, (P ++ X ++ Y ++ S)[st - 1]? = some x ∧ (P ++ X ++ Y ++ S)[en]? = some y ∧ lt y x = false)
    (hi : st = P.length + X.length ∨ en = P.length + X.length ∨ ∃ x y, (P ++ X ++ Y ++ S)[st]? = some x ∧ (P ++ X ++ Y ++ S)[en - 1]? = some y ∧ lt y x = true) :
    ∃ X1 X2 Y1 Y2, X = X1 ++ X2 ∧ Y = Y1 ++ Y2 ∧ X1.length = st - P.length ∧ Y1.length = en - (P.length + X.length) ∧ (∀ x ∈ X2, ∀ y ∈ Y1, lt y x = true) ∧ (∀ x ∈ X1, ∀ y ∈ Y2, lt y x = false) := by
  obtain ⟨X1, X2, rfl, hX1⟩ := cut_at X (st - P.length) (by omega)
  obtain ⟨Y1, Y2, rfl, hY1⟩ := cut_at Y (en - (P.length + (X1 ++ X2).length)) (by omega)
  rw [List.length_append] at h2 h3 h4 hY1 lo hi
  refine ⟨X1, X2, Y1, Y2, rfl, rfl, hX1, by rw [List.length_append]; exact hY1, ?_, ?_⟩
  · intro u hu v hv
    rcases hi with e | e | ⟨x, y, ex, ey, hl⟩
    · have : X2 = [] := List.eq_nil_of_length_eq_zero (by omega)
      rw [this] at hu; cases hu
    · have : Y1 = [] := List.eq_nil_of_length_eq_zero (by omega)
      rw [this] at hv; cases hv
    · obtain ⟨x', X2', rfl⟩ := List.exists_cons_of_ne_nil (List.ne_nil_of_mem hu)
      obtain ⟨Y1', y', rfl⟩ : ∃ Y y, Y1 = Y ++ [y] := ⟨Y1.dropLast, Y1.getLast (List.ne_nil_of_mem hv), (List.dropLast_concat_getLast _).symm⟩
      have e1 : (P ++ (X1 ++ x' :: X2') ++ (Y1' ++ [y'] ++ Y2) ++ S)[st]? = some x' := by
        have : P ++ (X1 ++ x' :: X2') ++ (Y1' ++ [y'] ++ Y2) ++ S = (P ++ X1) ++ x' :: (X2' ++ (Y1' ++ [y'] ++ Y2) ++ S) := by simp
        rw [this, List.getElem?_append_right (by rw [List.length_append]; omega), List.length_append, show st - (P.length + X1.length) = 0 by omega]
        rfl
      have e2 : (P ++ (X1 ++ x' :: X2') ++ (Y1' ++ [y'] ++ Y2) ++ S)[en - 1]? = some y' := by
        have : P ++ (X1 ++ x' :: X2') ++ (Y1' ++ [y'] ++ Y2) ++ S = (P ++ (X1 ++ x' :: X2') ++ Y1') ++ y' :: (Y2 ++ S) := by simp
        rw [List.length_append, List.length_singleton] at hY1
        rw [this, List.getElem?_append_right (by rw [List.length_append, List.length_append, List.length_append]; omega)]
        simp only [List.length_append] at hY1 h3 ⊢
        rw [show en - 1 - (P.length + (X1.length + (x' :: X2').length) + Y1'.length) = 0 by omega]
        rfl
      rw [e1] at ex; rw [e2] at ey
      cases ex; cases ey
      have g1 : lt u x = false := by
        rcases List.mem_cons.1 hu with rfl | hu
        · exact hw.irrefl _
        · exact (List.pairwise_cons.1 hx.right).1 u hu
      have g2 : lt y v = false := by
        rw [List.mem_append, List.mem_singleton] at hv
        rcases hv with hv | rfl
        · exact hy.left.cross v hv y (by simp)
        · exact hw.irrefl _
      cases e : lt v u with
      | true => rfl
      | false =>
        have := hw.ntrans _ _ _ (hw.ntrans _ _ _ g2 e) g1
        rw [hl] at this
        cases this
  · intro u hu v hv
    rcases lo with e | e | ⟨x, y, ex, ey, hl⟩
    · have : X1 = [] := List.eq_nil_of_length_eq_zero (by omega)
      rw [this] at hu; cases hu
    · have : Y2 = [] := List.eq_nil_of_length_eq_zero (by rw [List.length_append] at e; omega)
      rw [this] at hv; cases hv
    · obtain ⟨X1', x', rfl⟩ : ∃ Y y, X1 = Y ++ [y] := ⟨X1.dropLast, X1.getLast (List.ne_nil_of_mem hu), (List.dropLast_concat_getLast _).symm⟩
      obtain ⟨y', Y2', rfl⟩ := List.exists_cons_of_ne_nil (List.ne_nil_of_mem hv)
      have e1 : (P ++ (X1' ++ [x'] ++ X2) ++ (Y1 ++ y' :: Y2') ++ S)[st - 1]? = some x' := by
        have : P ++ (X1' ++ [x'] ++ X2) ++ (Y1 ++ y' :: Y2') ++ S = (P ++ X1') ++ x' :: (X2 ++ (Y1 ++ y' :: Y2') ++ S) := by simp
        rw [List.length_append, List.length_singleton] at hX1
        rw [this, List.getElem?_append_right (by rw [List.length_append]; omega), List.length_append, show st - 1 - (P.length + X1'.length) = 0 by omega]
        rfl
      have e2 : (P ++ (X1' ++ [x'] ++ X2) ++ (Y1 ++ y' :: Y2') ++ S)[en]? = some y' := by
        have : P ++ (X1' ++ [x'] ++ X2) ++ (Y1 ++ y' :: Y2') ++ S = (P ++ (X1' ++ [x'] ++ X2) ++ Y1) ++ y' :: (Y2' ++ S) := by simp
        rw [this, List.getElem?_append_right (by simp only [List.length_append] at hY1 h3 ⊢; omega)]
        simp only [List.length_append] at hY1 h3 ⊢
        rw [show en - (P.length + (X1'.length + [x'].length + X2.length) + Y1.length) = 0 by omega]
        rfl
      rw [e1] at ex; rw [e2] at ey
      cases ex; cases ey
      have g1 : lt x u = false := by
        rw [List.mem_append, List.mem_singleton] at hu
        rcases hu with hu | rfl
        · exact hx.left.cross u hu x (by simp)
        · exact hw.irrefl _
      have g2 : lt v y = false := by
        rcases List.mem_cons.1 hv with rfl | hv
        · exact hw.irrefl _
        · exact (List.pairwise_cons.1 hy.right).1 v hv
      exact hw.ntrans _ _ _ (hw.ntrans _ _ _ g2 hl) g1
/-- the first of what changes places goes -/
theorem set_mid (A : List α) (x y : α) (B : List α) : (A ++ x :: B).set A.length y = A ++ y :: B := by simp
theorem get_mid (A : List α) (x : α) (B : List α) : (A ++ x :: B)[A.length]? = some x := by simp
/-- neighbors change places -/
theorem swap_two (A B C : List α) (x y : α) : ((A ++ x :: (B ++ y :: C)).set A.length y).set (A.length + (B.length + 1)) x = A ++ y :: (B ++ x :: C) := by
  rw [set_mid]
  simp
end

end Go.Proofs.Ytfpjkeddcagfcaa

/-
  The insertion sort is stable (plain).
-/
namespace Go.Proofs.Ytfpjkeddcagfcaa
open Go.Sort
section
variable {α : Type} [Inhabited α] {lt : α → α → Bool}
theorem arr_mid {d : Array α} {A B : List α} {x : α} (h : d.toList = A ++ x :: B) : d[A.length]! = x := by
  rw [← Array.getElem!_toList, h]
  simp
theorem arr_swp {d : Array α} {A B C : List α} {x y : α} (h : d.toList = A ++ x :: (B ++ y :: C)) (i j : Nat) (hi : i = A.length) (hj : j = A.length + (B.length + 1)) : (swp d j i).toList = A ++ y :: (B ++ x :: C) := by
  subst hi hj
  have e1 : d[A.length]! = x := arr_mid h
  have e2 : d[A.length + (B.length + 1)]! = y := by
    have := arr_mid (d := d) (A := A ++ x :: B) (x := y) (B := C) (by rw [h]; simp)
    simpa using this
  unfold swp
  rw [e1, e2, Array.toList_setIfInBounds, Array.toList_setIfInBounds, h, List.set_comm _ _ (by omega), swap_two]
theorem arr_swp' {d : Array α} {A B C : List α} {x y : α} (h : d.toList = A ++ x :: (B ++ y :: C)) (i j : Nat) (hi : i = A.length) (hj : j = A.length + (B.length + 1)) : (swp d i j).toList = A ++ y :: (B ++ x :: C) := by
  subst hi hj
  have e1 : d[A.length]! = x := arr_mid h
  have e2 : d[A.length + (B.length + 1)]! = y := by
    have := arr_mid (d := d) (A := A ++ x :: B) (x := y) (B := C) (by rw [h]; simp)
    simpa using this
  unfold swp
  rw [e1, e2, Array.toList_setIfInBounds, Array.toList_setIfInBounds, h, swap_two]
theorem insInner_cut (P S : List α) (x : α) (a : Nat) (ha : a = P.length) : ∀ (j : Nat) (Z1 Z2 : List α) (d : Array α), d.toList = P ++ (Z1 ++ x :: (Z2 ++ S)) → j = P.length + Z1.length → (∀ z ∈ Z2, lt x z = true) →
    ∃ W1 W2, W1 ++ W2 = Z1 ++ Z2 ∧ (insInner lt a j d).toList = P ++ (W1 ++ x :: (W2 ++ S)) ∧ (∀ z ∈ W2, lt x z = true) ∧ (W1 = [] ∨ ∃ Z z, W1 = Z ++ [z] ∧ lt x z = false)
  | 0, Z1, Z2, d, h, hj, h2 => ⟨Z1, Z2, rfl, by rw [insInner]; exact h, h2, .inl (List.length_eq_zero_iff.1 (by omega))⟩
  | j + 1, Z1, Z2, d, h, hj, h2 => by
    rcases List.eq_nil_or_concat Z1 with rfl | ⟨Y, y, rfl⟩
    · refine ⟨[], Z2, rfl, ?_, h2, .inl rfl⟩
      rw [insInner, if_neg (by simp at hj; simp; omega)]
      exact h
    · rw [List.concat_eq_append] at h hj
      have hl : j = P.length + Y.length := by simp at hj; omega
      have e1 : d[j + 1]! = x := by
        have := arr_mid (d := d) (A := P ++ (Y ++ [y])) (x := x) (B := Z2 ++ S) (by rw [h]; simp)
        rw [hj]; simpa using this
      have e2 : d[j]! = y := by
        have := arr_mid (d := d) (A := P ++ Y) (x := y) (B := x :: (Z2 ++ S)) (by rw [h]; simp)
        rw [hl]; simpa using this
      rw [insInner, e1, e2]
      cases hc : lt x y with
      | false =>
        rw [if_neg (by simp)]
        exact ⟨Y ++ [y], Z2, by simp, h, h2, .inr ⟨Y, y, rfl, hc⟩⟩
      | true =>
        rw [if_pos (by simp; omega)]
        obtain ⟨W1, W2, g1, g2, g3, g4⟩ := insInner_cut P S x a ha j Y (y :: Z2) (swp d (j + 1) j) (by
          have := arr_swp (d := d) (A := P ++ Y) (B := []) (x := y) (y := x) (C := Z2 ++ S) (by rw [h]; simp) j (j + 1) (by simp [hl]) (by simp [hl])
          rw [this]; simp) hl (fun z hz => by
            rcases List.mem_cons.1 hz with rfl | hz
            · exact hc
            · exact h2 z hz)
        exact ⟨W1, W2, by rw [g1]; simp, g2, g3, g4⟩
theorem insOuter_stb (hw : SWO lt) (P S : List α) (a b : Nat) (ha : a = P.length) : ∀ (n : Nat) (X Z Y : List α) (d : Array α), Y.length = n → Stb lt X Z → d.toList = P ++ (Z ++ (Y ++ S)) → b = P.length + (Z.length + Y.length) →
    ∃ M, (insOuter lt a b (P.length + Z.length) d).toList = P ++ (M ++ S) ∧ Stb lt (X ++ Y) M
  | 0, X, Z, Y, d, hn, h, hd, hb => by
    obtain rfl := List.length_eq_zero_iff.1 hn
    refine ⟨Z, ?_, by simpa using h⟩
    rw [insOuter, if_neg (by simp at hb; omega), hd]; simp
  | n + 1, X, Z, [], d, hn, h, hd, hb => by simp at hn
  | n + 1, X, Z, y :: Y, d, hn, h, hd, hb => by
    obtain ⟨W1, W2, g1, g2, g3, g4⟩ := insInner_cut (lt := lt) P (Y ++ S) y a ha (P.length + Z.length) Z [] d (by rw [hd]; simp) rfl (by simp)
    have hz : W1 ++ W2 = Z := by rw [g1]; simp
    have hl : (W1 ++ [y] ++ W2).length = Z.length + 1 := by rw [← hz]; simp; omega
    obtain ⟨M, m1, m2⟩ := insOuter_stb hw P S a b ha n (X ++ [y]) (W1 ++ [y] ++ W2) Y (insInner lt a (P.length + Z.length) d) (by simpa using hn) (stb_ins hw (hz ▸ h) g3 g4) (by rw [g2]; simp) (by rw [hl, hb]; simp; omega)
    refine ⟨M, ?_, by simpa using m2⟩
    rw [insOuter, if_pos (by rw [hb]; simp)]
    rw [hl] at m1
    exact m1
/-- the part from a to b is sorted stably, the others stay -/
theorem insertionSort_stb (hw : SWO lt) {P X S : List α} {a b : Nat} {d : Array α} (hd : d.toList = P ++ (X ++ S)) (ha : a = P.length) (hb : b = P.length + X.length) :
    ∃ M, (insertionSort lt d a b).toList = P ++ (M ++ S) ∧ Stb lt X M := by
  cases X with
  | nil =>
    refine ⟨[], ?_, Stb.refl srt_nil⟩
    unfold insertionSort
    rw [insOuter, if_neg (by simp at hb; omega)]
    exact hd
  | cons x X =>
    obtain ⟨M, h1, h2⟩ := insOuter_stb hw P S a b ha X.length [x] [x] X d rfl (Stb.refl srt_one) (by rw [hd]; simp) (by rw [hb]; simp; omega)
    refine ⟨M, ?_, h2⟩
    unfold insertionSort
    rw [ha]
    rw [ha] at h1
    exact h1
end
end Go.Proofs.Ytfpjkeddcagfcaa

/-
  Blocks that are sorted, each by itself, and how they are merged: plain words.
-/
namespace Go.Proofs.Ytfpjkeddcagfcaa
open Go.Sort
section
variable {α : Type} {lt : α → α → Bool}
theorem Stb.len {L M : List α} (h : Stb lt L M) : L.length = M.length := h.prm.length_eq
/-- blocks of a size, each sorted stably; the last one may be shorter -/
inductive BlkStb (lt : α → α → Bool) (bs : Nat) : List α → List α → Prop
  | last {X Z : List α} (h : X.length ≤ bs) (s : Stb lt X Z) : BlkStb lt bs X Z
  | cons {X Z L M : List α} (h : X.length = bs) (s : Stb lt X Z) (t : BlkStb lt bs L M) : BlkStb lt bs (X ++ L) (Z ++ M)
/-- whole blocks of a size, each sorted stably -/
inductive FullB (lt : α → α → Bool) (bs : Nat) : List α → List α → Prop
  | nil : FullB lt bs [] []
  | snoc {A M X Z : List α} (t : FullB lt bs A M) (h : X.length = bs) (s : Stb lt X Z) : FullB lt bs (A ++ X) (M ++ Z)
variable {bs : Nat} {A B L M : List α}
theorem BlkStb.len (h : BlkStb lt bs L M) : L.length = M.length := by
  induction h with
  | last _ s => exact s.len
  | cons _ s _ ih => rw [List.length_append, List.length_append, s.len, ih]
theorem FullB.len (h : FullB lt bs L M) : L.length = M.length := by
  induction h with
  | nil => rfl
  | snoc _ _ s ih => rw [List.length_append, List.length_append, s.len, ih]
theorem BlkStb.head (h : BlkStb lt bs L M) (hl : bs ≤ L.length) : ∃ X Z L' M', L = X ++ L' ∧ M = Z ++ M' ∧ X.length = bs ∧ Stb lt X Z ∧ BlkStb lt bs L' M' := by
  cases h with
  | last h s => exact ⟨L, M, [], [], by simp, by simp, by omega, s, .last (Nat.zero_le _) (Stb.refl srt_nil)⟩
  | cons h s t => exact ⟨_, _, _, _, rfl, rfl, h, s, t⟩
theorem BlkStb.one (h : BlkStb lt bs L M) (hl : L.length ≤ bs) : Stb lt L M := by
  cases h with
  | last h s => exact s
  | @cons X Z L M h s t =>
    rw [List.length_append] at hl
    have hL : L = [] := List.eq_nil_of_length_eq_zero (by omega)
    have hM : M = [] := List.eq_nil_of_length_eq_zero (by have := t.len; omega)
    subst hL hM
    simpa using s
theorem FullB.app (h : FullB lt bs L M) : ∀ {B C : List α}, BlkStb lt bs B C → BlkStb lt bs (L ++ B) (M ++ C) := by
  induction h with
  | nil => intro B C hB; exact hB
  | snoc t h s ih =>
    intro B C hB
    rw [List.append_assoc, List.append_assoc]
    exact ih (.cons h s hB)
theorem Stb.two {X1 X2 Z1 Z2 Z : List α} (h1 : Stb lt X1 Z1) (h2 : Stb lt X2 Z2) (h : Stb lt (Z1 ++ Z2) Z) : Stb lt (X1 ++ X2) Z :=
  h.from_ (h1.cls.app h2.cls) (h1.prm.append h2.prm)
/-- the first one goes behind those that are less -/
theorem stb_first (hw : SWO lt) {Y1 Y2 : List α} {x : α} (h : SrtL lt (Y1 ++ Y2)) (h1 : ∀ y ∈ Y1, lt y x = true) (h2 : ∀ y ∈ Y2, lt y x = false) : Stb lt ([x] ++ (Y1 ++ Y2)) (Y1 ++ ([x] ++ Y2)) where
  srt := by
    refine srt_app h.left (srt_app srt_one h.right fun u hu y hy => ?_) fun u hu y hy => ?_
    · rw [List.mem_singleton] at hu
      subst hu
      exact h2 y hy
    · rw [List.mem_append, List.mem_singleton] at hy
      rcases hy with rfl | hy
      · have := h1 u hu
        cases e : lt y u with
        | false => rfl
        | true => have g := hw.trans _ _ _ this e; rw [hw.irrefl] at g; cases g
      · exact h.cross u hu y hy
  cls := by
    have e := SameC.app (SameC.swap hw (U := [x]) (V := Y1) (fun z hz y hy => by rw [List.mem_singleton] at hz; subst hz; exact h1 y hy)) (SameC.rfl' (lt := lt) (L := Y2))
    simpa only [List.append_assoc] using e
  prm := by
    have e := (List.perm_append_comm (l₁ := [x]) (l₂ := Y1)).append_right Y2
    simpa only [List.append_assoc] using e
/-- the last one goes ahead of those that it is less than -/
theorem stb_last (hw : SWO lt) {X1 X2 : List α} {y : α} (h : SrtL lt (X1 ++ X2)) (h1 : ∀ z ∈ X1, lt y z = false) (h2 : ∀ z ∈ X2, lt y z = true) : Stb lt ((X1 ++ X2) ++ [y]) (X1 ++ ([y] ++ X2)) where
  srt := by
    refine srt_app h.left (srt_app srt_one h.right fun u hu z hz => ?_) fun u hu z hz => ?_
    · rw [List.mem_singleton] at hu
      subst hu
      have := h2 z hz
      cases e : lt z u with
      | false => rfl
      | true => have g := hw.trans _ _ _ this e; rw [hw.irrefl] at g; cases g
    · rw [List.mem_append, List.mem_singleton] at hz
      rcases hz with rfl | hz
      · exact h1 u hu
      · exact h.cross u hu z hz
  cls := by
    have e := SameC.app (SameC.rfl' (lt := lt) (L := X1)) (SameC.swap hw (U := X2) (V := [y]) (fun z hz u hu => by rw [List.mem_singleton] at hu; subst hu; exact h2 z hz))
    simpa only [List.append_assoc] using e
  prm := by
    have e := (List.perm_append_comm (l₁ := X2) (l₂ := [y])).append_left X1
    simpa only [List.append_assoc] using e
/-- where a row is cut by a search: those ahead are less than x, those behind aren't -/
theorem cut_less (hw : SWO lt) {P Y S : List α} {x : α} {i : Nat} (hy : SrtL lt Y) (h1 : P.length ≤ i) (h2 : i ≤ P.length + Y.length)
    (lo : i = P.length ∨ ∃ y, (P ++ (Y ++ S))[i - 1]? = some y ∧ lt y x = true) (hi : i = P.length + Y.length ∨ ∃ y, (P ++ (Y ++ S))[i]? = some y ∧ lt y x = false) :
    ∃ Y1 Y2, Y = Y1 ++ Y2 ∧ Y1.length = i - P.length ∧ (∀ y ∈ Y1, lt y x = true) ∧ (∀ y ∈ Y2, lt y x = false) := by
  obtain ⟨Y1, Y2, rfl, hY1⟩ := cut_at Y (i - P.length) (by omega)
  rw [List.length_append] at h2 hi
  refine ⟨Y1, Y2, rfl, hY1, fun u hu => ?_, fun u hu => ?_⟩
  · rcases lo with e | ⟨y, ey, hl⟩
    · have : Y1 = [] := List.eq_nil_of_length_eq_zero (by omega)
      rw [this] at hu; cases hu
    · obtain ⟨Y1', y', rfl⟩ : ∃ Y y, Y1 = Y ++ [y] := ⟨Y1.dropLast, Y1.getLast (List.ne_nil_of_mem hu), (List.dropLast_concat_getLast _).symm⟩
      rw [List.length_append, List.length_singleton] at hY1
      have e1 : (P ++ (Y1' ++ [y'] ++ Y2 ++ S))[i - 1]? = some y' := by
        have : P ++ (Y1' ++ [y'] ++ Y2 ++ S) = (P ++ Y1') ++ y' :: (Y2 ++ S) := by simp
        rw [this, List.getElem?_append_right (by rw [List.length_append]; omega), List.length_append, show i - 1 - (P.length + Y1'.length) = 0 by omega]
        rfl
      rw [e1] at ey
      cases ey
      rw [List.mem_append, List.mem_singleton] at hu
      rcases hu with hu | rfl
      · have g := hy.left.cross u hu y (by simp)
        cases e : lt u x with
        | true => rfl
        | false => have := hw.ntrans _ _ _ g e; rw [hl] at this; cases this
      · exact hl
  · rcases hi with e | ⟨y, ey, hl⟩
    · have : Y2 = [] := List.eq_nil_of_length_eq_zero (by omega)
      rw [this] at hu; cases hu
    · obtain ⟨y', Y2', rfl⟩ := List.exists_cons_of_ne_nil (List.ne_nil_of_mem hu)
      have e1 : (P ++ (Y1 ++ y' :: Y2' ++ S))[i]? = some y' := by
        have : P ++ (Y1 ++ y' :: Y2' ++ S) = (P ++ Y1) ++ y' :: (Y2' ++ S) := by simp
        rw [this, List.getElem?_append_right (by rw [List.length_append]; omega), List.length_append, show i - (P.length + Y1.length) = 0 by omega]
        rfl
      rw [e1] at ey
      cases ey
      rcases List.mem_cons.1 hu with rfl | hu
      · exact hl
      · exact hw.ntrans _ _ _ ((List.pairwise_cons.1 hy.right).1 u hu) hl
/-- where a row is cut by a search: x is not less than those ahead, and less than those behind -/
theorem cut_above (hw : SWO lt) {P X S : List α} {x : α} {i : Nat} (hx : SrtL lt X) (h1 : P.length ≤ i) (h2 : i ≤ P.length + X.length)
    (lo : i = P.length ∨ ∃ y, (P ++ (X ++ S))[i - 1]? = some y ∧ lt x y = false) (hi : i = P.length + X.length ∨ ∃ y, (P ++ (X ++ S))[i]? = some y ∧ lt x y = true) :
    ∃ X1 X2, X = X1 ++ X2 ∧ X1.length = i - P.length ∧ (∀ y ∈ X1, lt x y = false) ∧ (∀ y ∈ X2, lt x y = true) := by
  obtain ⟨Y1, Y2, rfl, hY1⟩ := cut_at X (i - P.length) (by omega)
  rw [List.length_append] at h2 hi
  refine ⟨Y1, Y2, rfl, hY1, fun u hu => ?_, fun u hu => ?_⟩
  · rcases lo with e | ⟨y, ey, hl⟩
    · have : Y1 = [] := List.eq_nil_of_length_eq_zero (by omega)
      rw [this] at hu; cases hu
    · obtain ⟨Y1', y', rfl⟩ : ∃ Y y, Y1 = Y ++ [y] := ⟨Y1.dropLast, Y1.getLast (List.ne_nil_of_mem hu), (List.dropLast_concat_getLast _).symm⟩
      rw [List.length_append, List.length_singleton] at hY1
      have e1 : (P ++ (Y1' ++ [y'] ++ Y2 ++ S))[i - 1]? = some y' := by
        have : P ++ (Y1' ++ [y'] ++ Y2 ++ S) = (P ++ Y1') ++ y' :: (Y2 ++ S) := by simp
        rw [this, List.getElem?_append_right (by rw [List.length_append]; omega), List.length_append, show i - 1 - (P.length + Y1'.length) = 0 by omega]
        rfl
      rw [e1] at ey
      cases ey
      rw [List.mem_append, List.mem_singleton] at hu
      rcases hu with hu | rfl
      · exact hw.ntrans _ _ _ hl (hx.left.cross u hu y (by simp))
      · exact hl
  · rcases hi with e | ⟨y, ey, hl⟩
    · have : Y2 = [] := List.eq_nil_of_length_eq_zero (by omega)
      rw [this] at hu; cases hu
    · obtain ⟨y', Y2', rfl⟩ := List.exists_cons_of_ne_nil (List.ne_nil_of_mem hu)
      have e1 : (P ++ (Y1 ++ y' :: Y2' ++ S))[i]? = some y' := by
        have : P ++ (Y1 ++ y' :: Y2' ++ S) = (P ++ Y1) ++ y' :: (Y2' ++ S) := by simp
        rw [this, List.getElem?_append_right (by rw [List.length_append]; omega), List.length_append, show i - (P.length + Y1.length) = 0 by omega]
        rfl
      rw [e1] at ey
      cases ey
      rcases List.mem_cons.1 hu with rfl | hu
      · exact hl
      · have g := (List.pairwise_cons.1 hx.right).1 u hu
        cases e : lt x u with
        | true => rfl
        | false => have := hw.ntrans _ _ _ e g; rw [hl] at this; cases this
end

end Go.Proofs.Ytfpjkeddcagfcaa

/-
  Keys in order: what the document asks of them.
-/
namespace Go.Proofs.Ytfpjkeddcagfcaa
open Go.RowKit

theorem less_cases (a1 a2 a3 b1 b2 b3 : Int) : (¬a1 = b1 ∧ less3 a1 a2 a3 b1 b2 b3 = decide (a1 < b1)) ∨ (a1 = b1 ∧ ¬a2 = b2 ∧ less3 a1 a2 a3 b1 b2 b3 = decide (a2 < b2)) ∨ (a1 = b1 ∧ a2 = b2 ∧ less3 a1 a2 a3 b1 b2 b3 = decide (a3 < b3)) := by
  unfold less3
  by_cases h1 : a1 = b1
  · by_cases h2 : a2 = b2
    · right; right; simp [h1, h2]
    · right; left; simp [h1, h2]
  · left; simp [h1]
set_option maxHeartbeats 1000000 in
theorem Less07 (a1 a2 a3 b1 b2 b3 : Int) (w : World) {z : Bool} (hz : lessK ⟨a1, a2, a3⟩ ⟨b1, b2, b3⟩ = z) :
    Calls Try.prog 30 #[.agg #[.int .i64 a1, .int .i64 a2, .int .i64 a3], .agg #[.int .i64 b1, .int .i64 b2, .int .i64 b3]] w fun r w' => r = .returned (.bool z) ∧ Below w.heap.size w w' := by
  have Hb := Lib.hid (fun o q => ((Below.refl w.heap.size w).alloc (Nat.le_refl _) o).alloc (by simp) q)
  have hz : less3 a1 a2 a3 b1 b2 b3 = z := hz
  rcases less_cases a1 a2 a3 b1 b2 b3 with ⟨h, e⟩ | ⟨rfl, h, e⟩ | ⟨rfl, rfl, e⟩
  all_goals
    rw [e] at hz
    subst hz
    clear e
    go_enter Try.func30, Try.ntmps30
    go_wp2
    go_ret
    exact ⟨rfl, Hb.out _ _⟩

end Go.Proofs.Ytfpjkeddcagfcaa
