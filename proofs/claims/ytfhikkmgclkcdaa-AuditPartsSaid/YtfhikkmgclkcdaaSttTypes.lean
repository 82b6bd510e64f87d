/-
  States of routers: as Lean values, and opened from what was handed in.
-/
import Derived.Test.YtfhikkmgclkcdaaLsaTypes
namespace Go.Proofs.Ytfhikkmgclkcdaa
open Go.ChangeShapes Go.WideShapes Go.RowKit Go.Deep Go.Joins

structure Stt where
  id : Int
  va : Option Addr
  vcap : Nat
  views : List Viw
  la : Option Addr
  lcap : Nat
  lsas : List Lsa
  ra : Option Addr
  rn : Nat
  rcap : Nat
instance : Inhabited Stt := ⟨⟨0, none, 0, [], none, 0, [], none, 0, 0⟩⟩
def Stt.cells (s : Stt) : List Value := [.int .i64 s.id, .slice s.va s.views.length s.vcap, .slice s.la s.lsas.length s.lcap, .slice s.ra s.rn s.rcap]
structure Stt.ok (w : World) (B : Nat) (s : Stt) : Prop where
  views : ViewsAt w B s.va s.views
  lsas : LsasAt w B s.la s.lsas
  viewsLen : s.views.length ≤ maxLen
  lsasLen : s.lsas.length ≤ maxLen
  routesLen : s.rn ≤ maxLen
structure StatesAt (w : World) (B : Nat) (A : Option Addr) (l : List Stt) : Prop where
  rows : RowsAt 4 Stt.cells w B A l
  each : ∀ s ∈ l, s.ok w B
section
variable {w w' : World} {B B' : Nat} {A : Option Addr}
theorem Stt.ok.below {s : Stt} (h : s.ok w B) (hb : Below B w w') : s.ok w' B := ⟨h.views.below hb, h.lsas.below hb, h.viewsLen, h.lsasLen, h.routesLen⟩
theorem Stt.ok.more {s : Stt} (h : s.ok w B) (hB : B ≤ B') : s.ok w B' := ⟨h.views.more hB, h.lsas.more hB, h.viewsLen, h.lsasLen, h.routesLen⟩
theorem StatesAt.below {l : List Stt} (h : StatesAt w B A l) (hb : Below B w w') : StatesAt w' B A l := ⟨h.rows.below hb, fun x hx => (h.each x hx).below hb⟩
theorem StatesAt.more {l : List Stt} (h : StatesAt w B A l) (hB : B ≤ B') : StatesAt w B' A l := ⟨h.rows.more hB, fun x hx => (h.each x hx).more hB⟩
end
section
variable {H : Type} {enc : TypeId × Value → H} {w : World} {base : Nat} {spare : Nat → Bool} {held : Bool}
theorem cofState : Try.prog.cellsOf 123 = 4 := by kernel_rfl
theorem cofViews : Try.prog.cellsOf 120 = 1 := by kernel_rfl
theorem cofLsas : Try.prog.cellsOf 52 = 1 := by kernel_rfl
theorem cofRoutes : Try.prog.cellsOf 121 = 1 := by kernel_rfl
set_option maxRecDepth 100000 in
theorem dec_state {n : Nat} {cs : List Value} {x : DataW H × List MemPlace} (h : DataW.trod enc Try.prog w base spare held n 123 cs = some x) : ∃ d : Stt, cs = d.cells ∧ d.ok w w.heap.size := by
  obtain ⟨hl, m, hf⟩ := dec_fields Try.underlying123 h
  rw [cofState] at hl
  match cs, hl with
  | [c0, c1, c2, c3], _ =>
    obtain ⟨_, t0⟩ := fld hf 0 3 0 1 [c0] (by kernel_rfl) cofInt rfl
    obtain ⟨_, t1⟩ := fld hf 1 120 1 1 [c1] (by kernel_rfl) cofViews rfl
    obtain ⟨_, t2⟩ := fld hf 2 52 2 1 [c2] (by kernel_rfl) cofLsas rfl
    obtain ⟨_, t3⟩ := fld hf 3 121 3 1 [c3] (by kernel_rfl) cofRoutes rfl
    obtain ⟨z0, rfl⟩ := tint t0
    obtain ⟨va, vcap, vl, hv, hvr, hvm, hvo⟩ := open_rows (C := 9) Viw.cells (Viw.ok w w.heap.size) (by decide) Try.underlying120 cofView (fun _ _ _ h => dec_view h) t1
    obtain ⟨la, lcap, ll, hll, hlr, hlm, hlo⟩ := open_rows (C := 9) Lsa.cells (Lsa.ok w w.heap.size) (by decide) Try.underlying52 cofLsa (fun _ _ _ h => dec_lsa h) t2
    have hr : ∃ ra rn rcap, c3 = .slice ra rn rcap ∧ rn ≤ maxLen := by
      rcases open_slice Try.underlying121 t3 with ⟨h, _⟩ | ⟨a, len, cap, _, _, _, _, h, _, h1, h2, _⟩
      · exact ⟨none, 0, 0, by simpa using h, Nat.zero_le _⟩
      · exact ⟨some a, len, cap, by simpa using h, by omega⟩
    obtain ⟨ra, rn, rcap, rfl, hrn⟩ := hr
    refine ⟨⟨z0, va, vcap, vl, la, lcap, ll, ra, rn, rcap⟩, ?_, ⟨hvr, hvo⟩, ⟨hlr, hlo⟩, hvm, hlm, hrn⟩
    simp at hv hll
    simp [Stt.cells, hv, hll]
theorem open_states {a : Option Addr} {len cap : Nat} {d : DataW H} {p : List MemPlace} (h : DataW.Trod enc Try.prog w base spare held 37 (.slice a len cap) d p) :
    ∃ l : List Stt, len = l.length ∧ StatesAt w w.heap.size a l ∧ l.length ≤ maxLen := by
  obtain ⟨n, hn⟩ := h
  obtain ⟨A, c, R, he, hr, hm, hok⟩ := open_rows (C := 4) Stt.cells (Stt.ok w w.heap.size) (by decide) Try.underlying37 cofState (fun _ _ _ h => dec_state h) hn
  simp [Value.cells] at he
  obtain ⟨rfl, rfl, rfl⟩ := he
  exact ⟨R, rfl, ⟨hr, hok⟩, hm⟩
end

end Go.Proofs.Ytfhikkmgclkcdaa
