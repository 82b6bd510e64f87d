/-
  FloodLan: what one sends: the one view's Over.
-/
import Derived.Test.YtfhikkmgclkcdaaFlPlain
namespace Go.Proofs.Ytfhikkmgclkcdaa
open Go.RowKit

def vOf (me dr bdr : Int) (l : List Int) (pa : Option Addr) (pc : Nat) : Viw := ⟨1, 0, me, 1, viewSt me dr bdr, dr, bdr, pa, pc, peersL me dr bdr l, none, 0, []⟩
theorem idle_peer {me dr bdr : Int} {l : List Int} {p : Peer} (hp : p ∈ peersL me dr bdr l) : worksB p = false := by
  unfold peersL at hp
  simp only [List.mem_map] at hp
  obtain ⟨x, _, rfl⟩ := hp
  unfold worksB peerOf
  by_cases h : fullB me dr bdr x = true <;> simp [h]
theorem view_at {me dr bdr : Int} {l : List Int} {w : World} {B n cap : Nat} {A : Option Addr} (hown : OwnP w B (.slice A n cap) (peersL me dr bdr l)) (hlen : l.length ≤ 1000) :
    n = (peersL me dr bdr l).length ∧ ViewsAt (w.alloc (.cells #[.int .i64 1, .int .i64 0, .int .i64 me, .int .i64 1, .int .i64 (viewSt me dr bdr), .int .i64 dr, .int .i64 bdr, .slice A n cap, .slice none 0 0] 116)) (w.heap.size + 1) (some ⟨w.heap.size, 0, none⟩) [vOf me dr bdr l A cap] := by
  obtain ⟨rfl, hr⟩ := OwnR.rows (C := 7) (cells := Peer.cells) (fun _ => rfl) hown
  refine ⟨rfl, fun _ => ⟨_, 0, rfl, Nat.lt_succ_self _, fun k hk i u _ hu => ?_⟩, fun v hv => ?_⟩
  · have hk0 : k = 0 := by simpa using hk
    subst hk0
    rw [show 0 + 0 * 9 + i = i by omega, (Blk.new w _ _).cell i, ← hu]
    simp [vOf, Viw.cells]
  · rw [List.mem_singleton] at hv
    subst hv
    refine ⟨(hr.below ((Below.refl _ _).alloc (Nat.le_refl _) _)).more (Nat.le_succ _), fun h => absurd h (by simp [vOf]), ?_, by show 0 ≤ maxLen; omega⟩
    have := peersL_len me dr bdr l
    show (peersL me dr bdr l).length ≤ maxLen
    unfold maxLen
    omega
theorem over_view (me dr bdr : Int) (l : List Int) (A : Option Addr) (cap : Nat) (lan fr : Int) :
    overS (fun _ => false) (cameB lan fr (vOf me dr bdr l A cap)) fr (vOf me dr bdr l A cap) = ⟨1, listedV me dr bdr l (decide (0 < fr) && 1 == lan) fr, sentV me dr bdr l (decide (0 < fr) && 1 == lan) fr, if sentV me dr bdr l (decide (0 < fr) && 1 == lan) fr = true then destI (viewSt me dr bdr) else 0⟩ := rfl

/-- what goes out of one's view, once it lies in memory -/
theorem over_one (age kind hid adv seq sum long lan fr me dr bdr : Int) (l : List Int) (hlen : l.length ≤ 1000) {w : World} {B n cap : Nat} {A : Option Addr} (hown : OwnP w B (.slice A n cap) (peersL me dr bdr l))
    {W : World} (hW : w.alloc (.cells #[.int .i64 1, .int .i64 0, .int .i64 me, .int .i64 1, .int .i64 (viewSt me dr bdr), .int .i64 dr, .int .i64 bdr, .slice A n cap, .slice none 0 0] 116) = W)
    {L : List Int} {sent : Bool} {to : Int} (hS : (⟨1, listedV me dr bdr l (decide (0 < fr) && 1 == lan) fr, sentV me dr bdr l (decide (0 < fr) && 1 == lan) fr, if sentV me dr bdr l (decide (0 < fr) && 1 == lan) fr = true then destI (viewSt me dr bdr) else 0⟩ : Spr) = ⟨1, L, sent, to⟩) :
    Calls Try.prog 60 #[.agg #[.int .i64 age, .int .i64 kind, .int .i64 hid, .int .i64 adv, .int .i64 seq, .int .i64 sum, .int .i64 long], .int .i64 lan, .int .i64 fr, .slice (some ⟨w.heap.size, 0, none⟩) 1 1] W
      fun r w' => ∃ v sv, r = .returned v ∧ OwnS w' W.heap.size v [(⟨1, L, sent, to⟩, sv)] ∧ Below W.heap.size W w' := by
  obtain ⟨rfl, hat⟩ := view_at hown hlen
  rw [hW] at hat
  have hsz : W.heap.size = w.heap.size + 1 := by rw [← hW]; simp
  have hpl := peersL_len me dr bdr l
  have h := Over_any (fun _ _ => false) age kind hid adv seq sum long lan fr _ 1 [vOf me dr bdr l A cap] W _ hat (by omega) (by simp) (fun v hv => by
      rw [List.mem_singleton] at hv
      subst hv
      show (peersL me dr bdr l).length ≤ 1000
      omega)
    (fun v hv p hp w' _ => by
      rw [List.mem_singleton] at hv
      subst hv
      exact has_idle (idle_peer (me := me) (dr := dr) (bdr := bdr) (l := l) hp) _ _ _ _ _ _ _ _ _ _ _)
  simp only [List.map_cons, List.map_nil, over_view, hS] at h
  refine Calls.mono h ?_
  rintro r w' ⟨v, L2, rfl, hown2, hL2, hb⟩
  match L2, hL2 with
  | [(S, sv)], hL2 =>
    simp at hL2
    subst hL2
    exact ⟨v, sv, rfl, hown2, hb⟩

end Go.Proofs.Ytfhikkmgclkcdaa
