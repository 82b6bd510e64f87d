/-
  Three small numbers, and a row of such, that were handed in.
-/
import Derived.Test.YtpfjgecdlilkcaaGreatBaj
namespace Go.Proofs.YtpfjgecdlilkcaaGreat
open Go.ChangeShapes Go.WideShapes Go.RowKit Go.Deep Go.Joins

section
variable {H : Type} {enc : TypeId × Value → H} {w : World} {base : Nat} {spare : Nat → Bool} {held : Bool}
set_option maxRecDepth 100000 in
theorem open_three8 {r : Reach} {b0 : Nat} {v : Value} {d : DataW H} {p : List MemPlace} (hv : Value.okWide Tryz.prog w r b0 47 v) (h : DataW.Trod enc Tryz.prog w base spare held 47 v d p) :
    ∃ x y z : Nat, v = .agg #[.int .u8 (x : Int), .int .u8 (y : Int), .int .u8 (z : Int)] ∧ x ≤ 255 ∧ y ≤ 255 ∧ z ≤ 255 := by
  obtain ⟨fuel, hf⟩ := h
  obtain ⟨xs, m, _, _, hlen, _, hi⟩ := DataW.trod_array Tryz.underlying47 hf
  have hc2 : Tryz.prog.cellsOf 47 = 3 := by kernel_rfl
  have hc1 : Tryz.prog.cellsOf 5 = 1 := by kernel_rfl
  have hxs : ∀ i, i < 3 → ∃ y, DataW.trod enc Tryz.prog w base spare held m 5 ((v.cells.toList.drop i).take 1) = some y := by
    intro i h2
    have := hi i h2
    rw [hc1, Nat.mul_one] at this
    have hl : i < xs.length := by omega
    exact ⟨xs[i], by rw [this, List.getElem?_eq_getElem hl]⟩
  rw [hc2] at hlen
  obtain ⟨c0, c1, c2, hcs⟩ : ∃ c0 c1 c2, v.cells.toList = [c0, c1, c2] := by
    match hc : v.cells.toList, hlen with
    | [c0, c1, c2], _ => exact ⟨c0, c1, c2, rfl⟩
  obtain ⟨y0, t0⟩ := hxs 0 (by omega)
  obtain ⟨y1, t1⟩ := hxs 1 (by omega)
  obtain ⟨y2, t2⟩ := hxs 2 (by omega)
  rw [hcs] at t0 t1 t2
  simp at t0 t1 t2
  obtain ⟨n0, e0, _, w0⟩ := DataW.trod_int Tryz.underlying5 t0
  obtain ⟨n1, e1, _, w1⟩ := DataW.trod_int Tryz.underlying5 t1
  obtain ⟨n2, e2, _, w2⟩ := DataW.trod_int Tryz.underlying5 t2
  obtain ⟨a0, rfl, q0⟩ := u8_nat w0
  obtain ⟨a1, rfl, q1⟩ := u8_nat w1
  obtain ⟨a2, rfl, q2⟩ := u8_nat w2
  simp at e0 e1 e2
  refine ⟨a0, a1, a2, ?_, q0, q1, q2⟩
  have hcells : v.cells = #[.int .u8 (a0 : Int), .int .u8 (a1 : Int), .int .u8 (a2 : Int)] := by
    apply Array.toList_inj.1; rw [hcs, e0, e1, e2]
  have hsz := hv
  simp only [Value.okWide, Tryz.underlying47] at hsz
  obtain ⟨cs, rfl, _⟩ := hsz
  exact congrArg Value.agg hcells

def pcell (b : Nat) : List Value := [.int .u8 (b : Int)]
theorem dec_pcell {n : Nat} {cs : List Value} {x : DataW H × List MemPlace} (h : DataW.trod enc Tryz.prog w base spare held n 5 cs = some x) : ∃ d : Nat, cs = pcell d ∧ d ≤ 255 := by
  obtain ⟨b, e, _, hw⟩ := DataW.trod_int Tryz.underlying5 h
  obtain ⟨a, rfl, q⟩ := u8_nat hw
  exact ⟨a, e, q⟩
set_option maxRecDepth 100000 in
theorem open_picks {a : Option Addr} {len cap : Nat} {d : DataW H} {p : List MemPlace} (h : DataW.Trod enc Tryz.prog w base spare held 48 (.slice a len cap) d p) :
    ∃ l : List Nat, len = l.length ∧ RowsAt 1 pcell w w.heap.size a l ∧ l.length ≤ maxLen ∧ ∀ x ∈ l, x ≤ 255 := by
  obtain ⟨n, hn⟩ := h
  obtain ⟨A, c, R, he, hr, hm, hok⟩ := open_rows (C := 1) pcell (fun x => x ≤ 255) (by decide) Tryz.underlying48 (by kernel_rfl) (fun _ _ _ h => dec_pcell h) hn
  simp [Value.cells] at he
  obtain ⟨rfl, rfl, rfl⟩ := he
  exact ⟨R, rfl, hr, hm, hok⟩
end

end Go.Proofs.YtpfjgecdlilkcaaGreat
