/-
  Lists of heads that are alike: what the document asks of them.
-/
import Derived.Test.YtpnbibokddhheaaLkSet
import Derived.Test.YtpnbibokddhheaaHdDec
import Derived.Test.YtpnbibokddhheaaXsAt
namespace Go.Proofs.Ytpnbibokddhheaa
open Go.RowKit Go.Sort

set_option maxHeartbeats 2000000 in
set_option maxRecDepth 100000 in
theorem Same13s (A A' : Option Addr) (c c' : Nat) (l : List Hd) (w : World) (B B' : Nat) (h : RowsAt 7 Hd.cells w B A l) (h' : RowsAt 7 Hd.cells w B' A' l) (hB : B ≤ w.heap.size) (hB' : B' ≤ w.heap.size) (hlen : l.length ≤ 2 ^ 20) (n n' : Nat) (hn : n = l.length) (hn' : n' = l.length) :
    Calls Try.prog 12 #[.slice A n c, .slice A' n' c'] w fun r w' => r = .returned (.bool true) ∧ Below w.heap.size w w' := by
  subst hn hn'
  have H := Lib.hid (h.more hB)
  have H' := Lib.hid (h'.more hB')
  clear h h' hB hB'
  go_enter Try.func12, Try.ntmps12
  go_wp2
  go_loopw [5] (fun i wr => ∃ k : Nat, i = .int .i64 k ∧ k ≤ l.length ∧ Below w.heap.size w wr) (fun i _ => l.length - (intOf i).toNat)
  case atStart => exact ⟨0, rfl, Nat.zero_le _, Below.refl _ _⟩
  case round =>
    obtain ⟨k, rfl, hk, hb⟩ := hrel
    have Hb := Lib.hid hb
    by_cases hlt : k < l.length
    · obtain ⟨g, o, rfl, -, z0, z1, z2, z3, z4, z5, z6⟩ := row_hd7 (H.out.below hb) k hlt
      obtain ⟨g', o', rfl, -, y0, y1, y2, y3, y4, y5, y6⟩ := row_hd7 (H'.out.below hb) k hlt
      have hkl : (k : Int) < (l.length : Int) := by omega
      clear hb
      generalize l[k] = x at *
      obtain ⟨x1, x2, x3, x4, x5, x6, x7⟩ := x
      simp only at z0 z1 z2 z3 z4 z5 z6 y0 y1 y2 y3 y4 y5 y6
      go_wp2
      go_quiet (fail)
      go_wp2
      go_roundw
      case measure => simp [intOf]; omega
      case rel => exact ⟨k + 1, by go_num, hlt, below_drewN Hb.out _⟩
    · have hkk : k = l.length := by omega
      subst hkk
      clear hb
      go_wp2
      go_ret
      exact ⟨rfl, Hb.out⟩

end Go.Proofs.Ytpnbibokddhheaa
