/-
  flood: who is at work, to whom it is sent, whether views are too great.
-/
import Derived.Test.YtmjjmkdjjfmhhaaFlTypes
namespace Go.Proofs.Ytmjjmkdjjfmhhaa
open Go.RowKit

def worksB (p : Peer) : Bool := p.state == 4 || p.state == 5
def Peer.val (p : Peer) : Value := .agg #[.int .i64 p.id, .int .i64 p.prio, .int .i64 p.dr, .int .i64 p.bdr, .int .i64 p.state, .bool p.two, .int .i64 p.at_]
def busyV (v : Viw) : Bool := v.peers.any worksB
def busyL (l : List Viw) : Bool := l.any busyV
def lateW (x : Wnt) : Bool := decide (x.head.age < 0) || decide (60 < x.head.age)
def greatV (v : Viw) : Bool := decide (30 < v.peers.length) || decide (30 < v.wants.length) || v.wants.any lateW
def greatL (l : List Viw) : Bool := l.any greatV || decide (10 < l.length)

theorem RowsAt.at_ {α : Type} {C : Nat} {cells : α → List Value} {w : World} {B : Nat} {A : Option Addr} {R : List α} (h : RowsAt C cells w B A R) (k : Nat) (hk : k < R.length) :
    ∃ b o, A = some ⟨b, o, none⟩ ∧ b < B ∧ ∀ i u, i < C → (cells R[k])[i]? = some u → w.cell? ⟨b, o + k * C + i, none⟩ = some u := by
  obtain ⟨b, o, e, hb, hc⟩ := h (by omega)
  exact ⟨b, o, e, hb, hc k hk⟩
theorem Peers.at_ {w : World} {B : Nat} {A : Option Addr} {l : List Peer} (h : RowsAt 7 Peer.cells w B A l) (k : Nat) (hk : k < l.length) : ∃ b o, A = some ⟨b, o, none⟩ ∧ b < B ∧
    w.cell? ⟨b, o + k * 7, none⟩ = some (.int .i64 l[k].id) ∧ w.cell? ⟨b, o + k * 7 + 1, none⟩ = some (.int .i64 l[k].prio) ∧ w.cell? ⟨b, o + k * 7 + 2, none⟩ = some (.int .i64 l[k].dr) ∧ w.cell? ⟨b, o + k * 7 + 3, none⟩ = some (.int .i64 l[k].bdr) ∧
    w.cell? ⟨b, o + k * 7 + 4, none⟩ = some (.int .i64 l[k].state) ∧ w.cell? ⟨b, o + k * 7 + 5, none⟩ = some (.bool l[k].two) ∧ w.cell? ⟨b, o + k * 7 + 6, none⟩ = some (.int .i64 l[k].at_) := by
  obtain ⟨b, o, e, hb, hc⟩ := RowsAt.at_ h k hk
  exact ⟨b, o, e, hb, hc 0 _ (by omega) rfl, hc 1 _ (by omega) rfl, hc 2 _ (by omega) rfl, hc 3 _ (by omega) rfl, hc 4 _ (by omega) rfl, hc 5 _ (by omega) rfl, hc 6 _ (by omega) rfl⟩
theorem Wants.at_ {w : World} {B : Nat} {A : Option Addr} {l : List Wnt} (h : RowsAt 8 Wnt.cells w B A l) (k : Nat) (hk : k < l.length) : ∃ b o, A = some ⟨b, o, none⟩ ∧ b < B ∧
    w.cell? ⟨b, o + k * 8, none⟩ = some (.int .i64 l[k].id) ∧ w.cell? ⟨b, o + k * 8 + 1, none⟩ = some (.int .i64 l[k].head.age) ∧ w.cell? ⟨b, o + k * 8 + 2, none⟩ = some (.int .i64 l[k].head.kind) ∧ w.cell? ⟨b, o + k * 8 + 3, none⟩ = some (.int .i64 l[k].head.id) ∧
    w.cell? ⟨b, o + k * 8 + 4, none⟩ = some (.int .i64 l[k].head.adv) ∧ w.cell? ⟨b, o + k * 8 + 5, none⟩ = some (.int .i64 l[k].head.seq) ∧ w.cell? ⟨b, o + k * 8 + 6, none⟩ = some (.int .i64 l[k].head.sum) ∧ w.cell? ⟨b, o + k * 8 + 7, none⟩ = some (.int .i64 l[k].head.long) := by
  obtain ⟨b, o, e, hb, hc⟩ := RowsAt.at_ h k hk
  exact ⟨b, o, e, hb, hc 0 _ (by omega) rfl, hc 1 _ (by omega) rfl, hc 2 _ (by omega) rfl, hc 3 _ (by omega) rfl, hc 4 _ (by omega) rfl, hc 5 _ (by omega) rfl, hc 6 _ (by omega) rfl, hc 7 _ (by omega) rfl⟩
theorem ViewsAt.at_ {w : World} {B : Nat} {A : Option Addr} {l : List Viw} (h : ViewsAt w B A l) (k : Nat) (hk : k < l.length) : ∃ b o, A = some ⟨b, o, none⟩ ∧ b < B ∧ l[k].ok w B ∧
    w.cell? ⟨b, o + k * 9, none⟩ = some (.int .i64 l[k].lan) ∧ w.cell? ⟨b, o + k * 9 + 1, none⟩ = some (.int .i64 l[k].cost) ∧ w.cell? ⟨b, o + k * 9 + 2, none⟩ = some (.int .i64 l[k].self) ∧ w.cell? ⟨b, o + k * 9 + 3, none⟩ = some (.int .i64 l[k].prio) ∧
    w.cell? ⟨b, o + k * 9 + 4, none⟩ = some (.int .i64 l[k].state) ∧ w.cell? ⟨b, o + k * 9 + 5, none⟩ = some (.int .i64 l[k].dr) ∧ w.cell? ⟨b, o + k * 9 + 6, none⟩ = some (.int .i64 l[k].bdr) ∧
    w.cell? ⟨b, o + k * 9 + 7, none⟩ = some (.slice l[k].pa l[k].peers.length l[k].pcap) ∧ w.cell? ⟨b, o + k * 9 + 8, none⟩ = some (.slice l[k].wa l[k].wants.length l[k].wcap) := by
  obtain ⟨b, o, e, hb, hc⟩ := RowsAt.at_ h.1 k hk
  exact ⟨b, o, e, hb, h.2 _ (List.getElem_mem hk), hc 0 _ (by omega) rfl, hc 1 _ (by omega) rfl, hc 2 _ (by omega) rfl, hc 3 _ (by omega) rfl, hc 4 _ (by omega) rfl, hc 5 _ (by omega) rfl, hc 6 _ (by omega) rfl, hc 7 _ (by omega) rfl, hc 8 _ (by omega) rfl⟩

theorem any_take_succ {α : Type} (f : α → Bool) (l : List α) (k : Nat) (hk : k < l.length) : (l.take (k + 1)).any f = ((l.take k).any f || f l[k]) := by
  rw [List.take_succ_eq_append_getElem hk, List.any_append]; simp
theorem any_true {α : Type} {f : α → Bool} {l : List α} {k : Nat} (hk : k < l.length) (h : f l[k] = true) : l.any f = true := List.any_eq_true.2 ⟨_, List.getElem_mem hk, h⟩

set_option maxHeartbeats 400000 in
theorem works_any (a b c d e : Int) (t : Bool) (f : Int) (w : World) :
    Calls Try.prog 162 #[.agg #[.int .i64 a, .int .i64 b, .int .i64 c, .int .i64 d, .int .i64 e, .bool t, .int .i64 f]] w fun r w' => r = .returned (.bool (worksB ⟨a, b, c, d, e, t, f⟩)) ∧ Below w.heap.size w w' := by
  have hb0 : ∀ o, Below w.heap.size w (w.alloc o) := fun o => (Below.refl _ _).alloc (Nat.le_refl _) o
  have Hb0 := Lib.hid hb0
  clear hb0
  by_cases h4 : e = 4
  · subst h4
    go_enter Try.func162, Try.ntmps162
    go_wp2
    go_ret
    exact ⟨by simp [worksB], Hb0.out _⟩
  · go_enter Try.func162, Try.ntmps162
    go_wp2
    go_ret
    exact ⟨by simp [worksB], Hb0.out _⟩
def destI (st : Int) : Int := if st = 4 ∨ st = 3 then 0 else 16
set_option maxHeartbeats 400000 in
theorem dest_any (a b c d e : Int) (w : World) :
    Calls Try.prog 124 #[.agg #[.int .i64 a, .int .i64 b, .int .i64 c, .int .i64 d, .int .i64 e]] w fun r w' => r = .returned (.int .i64 (destI c)) ∧ Below w.heap.size w w' := by
  have hb0 : ∀ o, Below w.heap.size w (w.alloc o) := fun o => (Below.refl _ _).alloc (Nat.le_refl _) o
  have Hb0 := Lib.hid hb0
  clear hb0
  by_cases h4 : c = 4
  · subst h4
    go_enter Try.func124, Try.ntmps124
    go_wp2
    go_ret
    exact ⟨by simp [destI], Hb0.out _⟩
  · by_cases h3 : c = 3
    · subst h3
      go_enter Try.func124, Try.ntmps124
      go_wp2
      go_ret
      exact ⟨by simp [destI], Hb0.out _⟩
    · have t4 : (c == 4) = false := by simp [h4]
      have t3 : (c == 3) = false := by simp [h3]
      go_enter Try.func124, Try.ntmps124
      go_wp2
      go_ret
      exact ⟨by simp [destI, h3, h4], Hb0.out _⟩

theorem below_view {w wr : World} (hb : Below w.heap.size w wr) (o : Obj) : Below w.heap.size w (wr.alloc o) := hb.alloc hb.size o

end Go.Proofs.Ytmjjmkdjjfmhhaa
