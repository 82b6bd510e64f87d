/-
  Layer 27: the reference's may, and in plain Lean: the reference's Agreed is the program's.
-/
import Derived.Test.YtfhikkmgclkcdaaAuRefOn
import Derived.Test.YtfhikkmgclkcdaaRefElect
import Derived.Test.YtfhikkmgclkcdaaElLaw
namespace Go.Proofs.Ytfhikkmgclkcdaa
open Go.RowKit

set_option maxHeartbeats 1000000 in
set_option maxRecDepth 100000 in
theorem refMay_any (n : Nat) (A : Option Addr) (cap : Nat) (l : List Cand) (id : Int) (w : World) (B : Nat) (hl : CandsAt w B A l) (hB : B ≤ w.heap.size) (hn : l.length ≤ 1000) (hnl : n = l.length) {x : Bool} (hx : leadsB l id = x) :
    Calls Try.prog 66 #[.slice A n cap, .int .i64 id] w fun e w' => e = .returned (.bool x) ∧ Below w.heap.size w w' := by
  subst hnl hx
  have Hl := Lib.hid (hl.more hB)
  clear hl hB
  unfold leadsB
  go_enter Try.func66, Try.ntmps66
  go_wp2
  go_loopw [5] (fun i wr => ∃ k : Nat, k ≤ l.length ∧ i = .int .i64 k ∧ (l.take k).any (leadB id) = false ∧ Below w.heap.size w wr) (fun i _ => l.length - (intOf i).toNat)
  case atStart => exact ⟨0, Nat.zero_le _, rfl, by simp, Below.refl _ _⟩
  case round =>
    obtain ⟨k, hk, rfl, hno, hb⟩ := hrel
    by_cases hlt : k < l.length
    · obtain ⟨b, o, rfl, -, e0, e1, e2, e3⟩ := CandsAt.at_ (CandsAt.below Hl.out hb) k hlt
      have hsucc := any_take_succ (leadB id) l k hlt
      have htrue := fun h => any_true (f := leadB id) hlt h
      have hkl : (k : Int) < (l.length : Int) := by omega
      generalize l[k] = c at *
      have Hno := Lib.hid hno
      have Hb := Lib.hid hb
      have Hsucc := Lib.hid hsucc
      have Htrue := Lib.hid htrue
      clear hno hb hsucc htrue
      rcases leadB_cases id c with ⟨t1, h⟩ | ⟨t1, t2, h⟩ | ⟨t1, t2, t3, h⟩ | ⟨t1, t2, t3, h⟩
      · have H := Lib.hid h
        clear h
        go_wp2
        go_roundw
        case measure => simp [intOf]; omega
        case rel => exact ⟨k + 1, hlt, by go_num, by rw [Hsucc.out, Hno.out, H.out]; rfl, Hb.out⟩
      · have H := Lib.hid h
        clear h
        go_wp2
        go_ret
        exact ⟨by rw [Htrue.out H.out]; rfl, Hb.out⟩
      · have H := Lib.hid h
        clear h
        go_wp2
        go_roundw
        case measure => simp [intOf]; omega
        case rel => exact ⟨k + 1, hlt, by go_num, by rw [Hsucc.out, Hno.out, H.out]; rfl, Hb.out⟩
      · have H := Lib.hid h
        clear h
        go_wp2
        go_ret
        exact ⟨by rw [Htrue.out H.out]; rfl, Hb.out⟩
    · have hkk : k = l.length := by omega
      subst hkk
      rw [List.take_length] at hno
      have Hno := Lib.hid hno
      have Hb := Lib.hid hb
      clear hno hb
      go_wp2
      go_ret
      exact ⟨by rw [Hno.out]; rfl, Hb.out⟩

/-- what the reference asks of each candidate -/
def okR (c : List Cand) (dr bdr : Int) (x : Cand) : Bool := !(x.dr != dr || x.bdr != bdr || (refElect x.id c).1 != dr || (refElect x.id c).2 != bdr)
def badR (c : List Cand) (dr bdr : Int) : Bool := (dr == 0 && leadsB c 0) || (dr != 0 && !leadsB c dr) || (bdr != 0 && !leadsB c bdr)
def refAgreedC (c : List Cand) : Int × Int × Bool :=
  if c.length = 0 then (0, 0, true)
  else if c.all (okR c (c.headD Cand.zero).dr (c.headD Cand.zero).bdr) = false then (0, 0, false)
  else if badR c (c.headD Cand.zero).dr (c.headD Cand.zero).bdr = true then (0, 0, false)
  else ((c.headD Cand.zero).dr, (c.headD Cand.zero).bdr, true)
theorem leads_some {c : List Cand} {id : Int} (h : leadsB c id = true) : leadsB c 0 = true := by
  unfold leadsB at *
  rw [List.any_eq_true] at *
  obtain ⟨x, hx, hb⟩ := h
  refine ⟨x, hx, ?_⟩
  unfold leadB at *
  simp only [Bool.and_eq_true] at hb
  simp [hb.1]
theorem stable_okR {c : List Cand} (hap : apartB c = true) : stable c = c.all (okR c (c.headD Cand.zero).dr (c.headD Cand.zero).bdr) := by
  unfold stable
  generalize (c.headD Cand.zero).dr = dr
  generalize (c.headD Cand.zero).bdr = bdr
  have key : ∀ x : Cand, (x.dr == dr && x.bdr == bdr && (elect x.id c).1 == x.dr && (elect x.id c).2 == x.bdr) = okR c dr bdr x := by
    intro x
    unfold okR
    rw [elect_is hap x.id]
    generalize (elect x.id c).1 = e1
    generalize (elect x.id c).2 = e2
    rw [Bool.eq_iff_iff]
    simp only [Bool.and_eq_true, beq_iff_eq, Bool.not_eq_true', Bool.or_eq_false_iff, bne_eq_false_iff_eq]
    constructor
    · rintro ⟨⟨⟨rfl, rfl⟩, rfl⟩, rfl⟩; exact ⟨⟨⟨rfl, rfl⟩, rfl⟩, rfl⟩
    · rintro ⟨⟨⟨rfl, rfl⟩, rfl⟩, rfl⟩; exact ⟨⟨⟨rfl, rfl⟩, rfl⟩, rfl⟩
  simp only [key]
theorem agreed_is {c : List Cand} (hap : apartB c = true) : refAgreedC c = agreedC c := by
  unfold refAgreedC agreedC badR
  rw [stable_okR hap]
  by_cases h0 : c.length = 0
  · rw [if_pos h0, if_pos h0]
  · rw [if_neg h0, if_neg h0]
    generalize (c.headD Cand.zero).dr = dr
    generalize (c.headD Cand.zero).bdr = bdr
    have hls := leads_some (c := c) (id := dr)
    generalize c.all (okR c dr bdr) = st
    have e1 : (dr != 0) = !(dr == 0) := rfl
    have e2 : (bdr != 0) = !(bdr == 0) := rfl
    rw [e1, e2]
    revert hls
    generalize leadsB c 0 = l0
    generalize leadsB c dr = l1
    generalize leadsB c bdr = l2
    cases (dr == 0) <;> cases (bdr == 0) <;> cases l0 <;> cases l1 <;> cases l2 <;> cases st <;> simp
/-- the candidates of those that count have unlike numbers, from 1 on -/
theorem cands_apart (l : List Stt) (lan : Int) : apartB (candsOf (countedL l) lan) = true := by
  rw [apart_iff]
  have hids : (candsOf (countedL l) lan).map Cand.id = (onIds l lan).map (fun (n : Nat) => (n : Int)) := on_ids l lan
  have hnd : (onIds l lan).Nodup := List.Nodup.sublist List.filter_sublist List.nodup_range
  have hnd2 : ((candsOf (countedL l) lan).map Cand.id).Nodup := by
    rw [hids]
    exact (List.pairwise_map.2 (hnd.imp fun h e => h (by omega)))
  refine ⟨?_, fun x hx => ?_⟩
  · unfold Distinct
    exact List.pairwise_map.1 hnd2
  · have : x.id ∈ (candsOf (countedL l) lan).map Cand.id := List.mem_map_of_mem hx
    rw [hids, List.mem_map] at this
    obtain ⟨n, hn, e⟩ := this
    have hon : onB l lan n = true := (List.mem_filter.1 hn).2
    unfold onB at hon
    rcases h : tblI l n with _ | i
    · rw [h] at hon; cases hon
    · obtain ⟨_, _, h1, _⟩ := tblI_id h
      omega

end Go.Proofs.Ytfhikkmgclkcdaa
