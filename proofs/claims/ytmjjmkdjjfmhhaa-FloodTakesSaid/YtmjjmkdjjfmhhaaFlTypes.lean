/-
  Views, peers and wants: as Lean values, and opened from what was handed in.
-/
import Derived.Test.YtmjjmkdjjfmhhaaHdDec
namespace Go.Proofs.Ytmjjmkdjjfmhhaa
open Go.ChangeShapes Go.WideShapes Go.RowKit Go.Deep Go.Joins

structure Peer where
  id : Int
  prio : Int
  dr : Int
  bdr : Int
  state : Int
  two : Bool
  at_ : Int
deriving DecidableEq
instance : Inhabited Peer := ⟨⟨0, 0, 0, 0, 0, false, 0⟩⟩
def Peer.cells (p : Peer) : List Value := [.int .i64 p.id, .int .i64 p.prio, .int .i64 p.dr, .int .i64 p.bdr, .int .i64 p.state, .bool p.two, .int .i64 p.at_]
structure Wnt where
  id : Int
  head : Hd
instance : Inhabited Wnt := ⟨⟨0, ⟨0, 0, 0, 0, 0, 0, 0⟩⟩⟩
def Wnt.cells (x : Wnt) : List Value := .int .i64 x.id :: x.head.cells
structure Viw where
  lan : Int
  cost : Int
  self : Int
  prio : Int
  state : Int
  dr : Int
  bdr : Int
  pa : Option Addr
  pcap : Nat
  peers : List Peer
  wa : Option Addr
  wcap : Nat
  wants : List Wnt
instance : Inhabited Viw := ⟨⟨0, 0, 0, 0, 0, 0, 0, none, 0, [], none, 0, []⟩⟩
def Viw.cells (v : Viw) : List Value := [.int .i64 v.lan, .int .i64 v.cost, .int .i64 v.self, .int .i64 v.prio, .int .i64 v.state, .int .i64 v.dr, .int .i64 v.bdr, .slice v.pa v.peers.length v.pcap, .slice v.wa v.wants.length v.wcap]
def Viw.ok (w : World) (B : Nat) (v : Viw) : Prop := RowsAt 7 Peer.cells w B v.pa v.peers ∧ RowsAt 8 Wnt.cells w B v.wa v.wants ∧ v.peers.length ≤ maxLen ∧ v.wants.length ≤ maxLen
def ViewsAt (w : World) (B : Nat) (A : Option Addr) (l : List Viw) : Prop := RowsAt 9 Viw.cells w B A l ∧ ∀ v ∈ l, v.ok w B
theorem Viw.ok.below {w w' : World} {B : Nat} {v : Viw} (h : v.ok w B) (hb : Below B w w') : v.ok w' B := ⟨h.1.below hb, h.2.1.below hb, h.2.2⟩
theorem ViewsAt.below {w w' : World} {B : Nat} {A : Option Addr} {l : List Viw} (h : ViewsAt w B A l) (hb : Below B w w') : ViewsAt w' B A l := ⟨h.1.below hb, fun v hv => (h.2 v hv).below hb⟩
theorem Viw.ok.more {w : World} {B B' : Nat} {v : Viw} (h : v.ok w B) (hB : B ≤ B') : v.ok w B' := ⟨h.1.more hB, h.2.1.more hB, h.2.2⟩
theorem ViewsAt.more {w : World} {B B' : Nat} {A : Option Addr} {l : List Viw} (h : ViewsAt w B A l) (hB : B ≤ B') : ViewsAt w B' A l := ⟨h.1.more hB, fun v hv => (h.2 v hv).more hB⟩

section
variable {H : Type} {enc : TypeId × Value → H} {w : World} {base : Nat} {spare : Nat → Bool} {held : Bool}
theorem cofPeer : Try.prog.cellsOf 100 = 7 := by kernel_rfl
theorem cofWant : Try.prog.cellsOf 214 = 8 := by kernel_rfl
theorem cofView : Try.prog.cellsOf 104 = 9 := by kernel_rfl
theorem cofIface : Try.prog.cellsOf 98 = 5 := by kernel_rfl
theorem cofPeers : Try.prog.cellsOf 101 = 1 := by kernel_rfl
theorem cofWants : Try.prog.cellsOf 102 = 1 := by kernel_rfl
set_option maxRecDepth 100000 in
theorem dec_peer {n : Nat} {cs : List Value} {x : DataW H × List MemPlace} (h : DataW.trod enc Try.prog w base spare held n 100 cs = some x) : ∃ d : Peer, cs = d.cells ∧ True := by
  obtain ⟨hl, m, hf⟩ := dec_fields Try.underlying100 h
  rw [cofPeer] at hl
  match cs, hl with
  | [c0, c1, c2, c3, c4, c5, c6], _ =>
    obtain ⟨_, t0⟩ := fld hf 0 3 0 1 [c0] (by kernel_rfl) cofInt rfl
    obtain ⟨_, t1⟩ := fld hf 1 3 1 1 [c1] (by kernel_rfl) cofInt rfl
    obtain ⟨_, t2⟩ := fld hf 2 3 2 1 [c2] (by kernel_rfl) cofInt rfl
    obtain ⟨_, t3⟩ := fld hf 3 3 3 1 [c3] (by kernel_rfl) cofInt rfl
    obtain ⟨_, t4⟩ := fld hf 4 3 4 1 [c4] (by kernel_rfl) cofInt rfl
    obtain ⟨_, t5⟩ := fld hf 5 4 5 1 [c5] (by kernel_rfl) cofBool rfl
    obtain ⟨_, t6⟩ := fld hf 6 3 6 1 [c6] (by kernel_rfl) cofInt rfl
    obtain ⟨z0, rfl⟩ := tint t0
    obtain ⟨z1, rfl⟩ := tint t1
    obtain ⟨z2, rfl⟩ := tint t2
    obtain ⟨z3, rfl⟩ := tint t3
    obtain ⟨z4, rfl⟩ := tint t4
    obtain ⟨z5, rfl⟩ := tbool t5
    obtain ⟨z6, rfl⟩ := tint t6
    exact ⟨⟨z0, z1, z2, z3, z4, z5, z6⟩, rfl, trivial⟩
set_option maxRecDepth 100000 in
theorem dec_want {n : Nat} {cs : List Value} {x : DataW H × List MemPlace} (h : DataW.trod enc Try.prog w base spare held n 214 cs = some x) : ∃ d : Wnt, cs = d.cells ∧ True := by
  obtain ⟨hl, m, hf⟩ := dec_fields Try.underlying214 h
  rw [cofWant] at hl
  match cs, hl with
  | [c0, c1, c2, c3, c4, c5, c6, c7], _ =>
    obtain ⟨_, t0⟩ := fld hf 0 3 0 1 [c0] (by kernel_rfl) cofInt rfl
    obtain ⟨_, t1⟩ := fld hf 1 23 1 7 [c1, c2, c3, c4, c5, c6, c7] (by kernel_rfl) cofHead rfl
    obtain ⟨z0, rfl⟩ := tint t0
    obtain ⟨d, hd, _⟩ := dec_head t1
    refine ⟨⟨z0, d⟩, ?_, trivial⟩
    unfold Wnt.cells
    rw [← hd]
set_option maxRecDepth 100000 in
theorem dec_view {n : Nat} {cs : List Value} {x : DataW H × List MemPlace} (h : DataW.trod enc Try.prog w base spare held n 104 cs = some x) : ∃ d : Viw, cs = d.cells ∧ d.ok w w.heap.size := by
  obtain ⟨hl, m, hf⟩ := dec_fields Try.underlying104 h
  rw [cofView] at hl
  match cs, hl with
  | [c0, c1, c2, c3, c4, c5, c6, c7, c8], _ =>
    obtain ⟨_, t0⟩ := fld hf 0 3 0 1 [c0] (by kernel_rfl) cofInt rfl
    obtain ⟨_, t1⟩ := fld hf 1 3 1 1 [c1] (by kernel_rfl) cofInt rfl
    obtain ⟨_, t2⟩ := fld hf 2 98 2 5 [c2, c3, c4, c5, c6] (by kernel_rfl) cofIface rfl
    obtain ⟨_, t3⟩ := fld hf 3 101 7 1 [c7] (by kernel_rfl) cofPeers rfl
    obtain ⟨_, t4⟩ := fld hf 4 102 8 1 [c8] (by kernel_rfl) cofWants rfl
    obtain ⟨z0, rfl⟩ := tint t0
    obtain ⟨z1, rfl⟩ := tint t1
    obtain ⟨_, m', hf'⟩ := dec_fields Try.underlying98 t2
    obtain ⟨_, u0⟩ := fld hf' 0 3 0 1 [c2] (by kernel_rfl) cofInt rfl
    obtain ⟨_, u1⟩ := fld hf' 1 3 1 1 [c3] (by kernel_rfl) cofInt rfl
    obtain ⟨_, u2⟩ := fld hf' 2 3 2 1 [c4] (by kernel_rfl) cofInt rfl
    obtain ⟨_, u3⟩ := fld hf' 3 3 3 1 [c5] (by kernel_rfl) cofInt rfl
    obtain ⟨_, u4⟩ := fld hf' 4 3 4 1 [c6] (by kernel_rfl) cofInt rfl
    obtain ⟨z2, rfl⟩ := tint u0
    obtain ⟨z3, rfl⟩ := tint u1
    obtain ⟨z4, rfl⟩ := tint u2
    obtain ⟨z5, rfl⟩ := tint u3
    obtain ⟨z6, rfl⟩ := tint u4
    obtain ⟨pa, pcap, pl, hp, hpr, hpm, _⟩ := open_rows (C := 7) Peer.cells (fun _ => True) (by decide) Try.underlying101 cofPeer (fun _ _ _ h => dec_peer h) t3
    obtain ⟨wa, wcap, wl, hw, hwr, hwm, _⟩ := open_rows (C := 8) Wnt.cells (fun _ => True) (by decide) Try.underlying102 cofWant (fun _ _ _ h => dec_want h) t4
    refine ⟨⟨z0, z1, z2, z3, z4, z5, z6, pa, pcap, pl, wa, wcap, wl⟩, ?_, hpr, hwr, hpm, hwm⟩
    simp at hp hw
    subst hp hw
    rfl
theorem open_views {a : Option Addr} {len cap : Nat} {d : DataW H} {p : List MemPlace} (h : DataW.Trod enc Try.prog w base spare held 157 (.slice a len cap) d p) :
    ∃ l : List Viw, len = l.length ∧ ViewsAt w w.heap.size a l ∧ l.length ≤ maxLen := by
  obtain ⟨n, hn⟩ := h
  obtain ⟨A, c, R, he, hr, hm, hok⟩ := open_rows (C := 9) Viw.cells (Viw.ok w w.heap.size) (by decide) Try.underlying157 cofView (fun _ _ _ h => dec_view h) hn
  simp [Value.cells] at he
  obtain ⟨rfl, rfl, rfl⟩ := he
  exact ⟨R, rfl, ⟨hr, hok⟩, hm⟩
end

end Go.Proofs.Ytmjjmkdjjfmhhaa
