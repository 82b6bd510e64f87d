/-
  Layer 13: a database, and the document's, of the same descriptions; ages.
-/
import Derived.Test.YtmjjmkdjjfmhhaaRdPut
import Derived.Test.YtmjjmkdjjfmhhaaLsMany
import Derived.Test.YtmjjmkdjjfmhhaaSuNew
namespace Go.Proofs.Ytmjjmkdjjfmhhaa
open Go.RowKit Go.Sort

def ages13 (M : List Lsa) : Prop := ∀ y ∈ M, 0 ≤ y.head.age ∧ y.head.age ≤ 60
theorem putM_ages {B : Nat} {M M' : List Lsa} {x : Lsa} (h : ages13 M) (hp : PutM B M x M') : ages13 M' := by
  rcases hp with ⟨hok, Aa, ca, Ab, cb, -, -, rfl⟩ | ⟨-, rfl⟩
  · intro y hy
    rcases setX_mem hy with hy | rfl
    · exact h y hy
    · exact (right_head (h := x.head) (ka := x.ka) (kc := x.kcap) (ls := x.links) (ma := x.ma) (mc := x.mcap) (ms := x.members) hok.1).1
  · exact h
/-- both, of whatever -/
def BothTo (w : World) (r : Ending) (w' : World) : Prop := ∃ p b q M v L, r = .returned (.tuple #[.pointer (some ⟨p, 0, none⟩), .pointer (some ⟨q, 0, none⟩)]) ∧ BK w w' p b q M v L ∧ ages13 M
set_option maxHeartbeats 8000000 in
set_option maxRecDepth 100000 in
theorem both13_any (A : Option Addr) (cap : Nat) (l : List Lsa) (w : World) (hl : RowsAt 9 Lsa.cells w w.heap.size A l) (he : ∀ x ∈ l, RowsAt 4 Lnk.cells w w.heap.size x.ka x.links ∧ RowsAt 1 icell w w.heap.size x.ma x.members) (hlens : ∀ x ∈ l, x.links.length ≤ 20 ∧ x.members.length ≤ 20) (hm : l.length ≤ 60) (nn : Nat) (hnn : nn = l.length) :
    Calls Try.prog 43 #[.slice A nn cap] w fun r w' => BothTo w r w' := by
  subst hnn
  have HL := Lib.hid hl
  have HE := Lib.hid he
  have Hlens := Lib.hid hlens
  have hm' : (l.length : Int) ≤ 9223372036854775807 := by omega
  clear hl he hlens
  go_enter Try.func43, Try.ntmps43
  go_wp2_with fail
  with_reducible refine Calls.mono (DbNew 40 _) ?_
  rintro r w3 ⟨rfl, hd3, hb3⟩
  obtain ⟨p, hp⟩ : ∃ p, w.heap.size + 1 = p := ⟨_, rfl⟩
  obtain ⟨b, hb⟩ : ∃ b, w.heap.size = b := ⟨_, rfl⟩
  rw [show min (max (40 : Int) 1) 40 = 40 by decide, hp, hb] at hd3
  rw [hp]
  have Hd3 := Lib.hid hd3
  have Hb3 := Lib.hid hb3
  have hbw : w.heap.size ≤ b := by omega
  clear hb3 hd3 hp hb
  go_wp2_with fail
  with_reducible refine Calls.mono (RdNew40 _) ?_
  rintro r w4 ⟨rfl, hr4, hb4⟩
  obtain ⟨q, hq⟩ : ∃ q, w3.heap.size = q := ⟨_, rfl⟩
  have hpq : p < q := by rw [← hq]; exact Hd3.out.ptr.lt
  rw [hq] at hr4
  rw [hq]
  have HB0 := Lib.hid (show BK w w4 p b q [] (.slice none 0 0) [] from ⟨below_trans Hb3.out Hb3.out.size hb4, Hd3.out.keep hb4, hr4, DEq.nil, by simp, hbw, by rw [← hq]; exact Hb3.out.size, by omega, by intro x hx; cases hx⟩)
  clear hr4 hb4 hq hpq hbw
  go_wp2
  go_loopw [12] (fun i wr => ∃ (k : Nat) (M L : List Lsa) (v : Value), i = .int .i64 k ∧ k ≤ l.length ∧ BK w wr p b q M v L ∧ ages13 M) (fun i _ => l.length - (intOf i).toNat)
  case atStart => exact ⟨0, [], [], _, rfl, Nat.zero_le _, HB0.out, fun _ h => by cases h⟩
  case round =>
    obtain ⟨k, M, L, v, rfl, hk, hbk, hag⟩ := hrel
    have Hag := Lib.hid hag
    have HBk := Lib.hid hbk
    clear HB0
    by_cases hlt : k < l.length
    · obtain ⟨g, o, hA, -, x0, x1, x2, x3, x4, x5, x6, x7, x8⟩ := row_lsa9 (HL.out.below hbk.bel) k hlt
      have hok := HE.out l[k] (List.getElem_mem hlt)
      have hln := Hlens.out l[k] (List.getElem_mem hlt)
      have hkl : (k : Int) < (l.length : Int) := by omega
      have HA := Lib.hid hA
      rw [hA]
      have Hlt := Lib.hid hlt
      generalize l[k] = x at *
      obtain ⟨⟨y1, y2, y3, y4, y5, y6, y7⟩, ka, kc, ls, ma, mc, ms⟩ := x
      have hls := hok.1
      have hms := hok.2
      simp only at x0 x1 x2 x3 x4 x5 x6 x7 x8 hln hls hms
      obtain ⟨nl, hnl⟩ : ∃ nl, nl = ls.length := ⟨_, rfl⟩
      obtain ⟨nm, hnm⟩ : ∃ nm, nm = ms.length := ⟨_, rfl⟩
      rw [← hnl] at x7
      rw [← hnm] at x8
      obtain ⟨w8, hw8⟩ : ∃ w8, wr.alloc (.cells #[.int .i64 y1, .int .i64 y2, .int .i64 y3, .int .i64 y4, .int .i64 y5, .int .i64 y6, .int .i64 y7, .slice ka nl kc, .slice ma nm mc] 27) = w8 := ⟨_, rfl⟩
      have hb8 := below_new wr (.cells #[.int .i64 y1, .int .i64 y2, .int .i64 y3, .int .i64 y4, .int .i64 y5, .int .i64 y6, .int .i64 y7, .slice ka nl kc, .slice ma nm mc] 27)
      have hk8 := Blk.new wr 27 #[.int .i64 y1, .int .i64 y2, .int .i64 y3, .int .i64 y4, .int .i64 y5, .int .i64 y6, .int .i64 y7, .slice ka nl kc, .slice ma nm mc]
      rw [hw8] at hb8 hk8
      have hb8k := hbk.keep hb8
      have HB8 := Lib.hid hb8k
      have hl8 := hls.below hb8k.bel
      have hm8 := hms.below hb8k.bel
      have HP := Lib.hid (dbPut_any p b M y1 y2 y3 y4 y5 y6 y7 ka kc ls ma mc ms w8 hb8k.db (hl8.more hb8k.bel.size) (hm8.more hb8k.bel.size) (by omega) (by omega) nl nm hnl hnm)
      have HR := Lib.hid (fun W (hR : RdAt W q 40 v L) (hW : Below w.heap.size w W) => rdPut_any q v L y1 y2 y3 y4 y5 y6 y7 ka kc ls ma mc ms W hR w.heap.size hb8k.lq (hls.below hW) (hms.below hW) (by omega) (by omega) nl nm hnl hnm (by have := hb8k.eq.len; have := hb8k.le; omega) hb8k.eq.sorted)
      have Hk8 := Lib.hid hk8
      have hgx : ¬ wr.heap.size = b := by have := blk_nemap4 hk8 hb8k.db.map; exact this
      have hgx := Lib.hid hgx
      obtain ⟨z0, z1, z2, z3, z4, z5, z6, z7, z8, zf⟩ := blk9 hk8
      clear hls hms hln hok hnl hnm hA hlt hbk hk hb8 hk8 hb8k hl8 hm8 hag
      go_wp2_with fail
      with_reducible refine Calls.mono HP.out ?_
      rintro r w9 ⟨hr9, ⟨M', hP9, hd9⟩, hg9⟩
      obtain ⟨e9, rfl⟩ := hr9
      obtain ⟨hrd9, hnext⟩ := HB8.out.put hP9 hd9 hg9
      have HP9 := Lib.hid hP9
      have hk9 := Hk8.out.grown hg9 (fun e => hgx.out (by injection e))
      have hb9 : Below w.heap.size w w9 := HB8.out.bel.grown hg9 HB8.out.bel.size (fun k e => by injection e with e; subst e; exact HB8.out.lb)
      have HR9 := Lib.hid (HR.out w9 hrd9 hb9)
      have Hnext := Lib.hid hnext
      clear hP9 hd9 hg9 hrd9 hnext hb9 z0 z1 z2 z3 z4 z5 z6 z7 z8 zf
      obtain ⟨z0, z1, z2, z3, z4, z5, z6, z7, z8, zf⟩ := blk9 hk9
      clear hk9
      go_wp2_with fail
      with_reducible refine Calls.mono HR9.out ?_
      rintro r w10 ⟨hr10, ⟨L', v', hP10, hd10⟩, hg10⟩
      obtain ⟨e10, rfl⟩ := hr10
      have HB10 := Lib.hid (Hnext.out w10 v' L' hP10 hd10 hg10)
      have Hag10 := Lib.hid (putM_ages Hag.out HP9.out)
      clear hP10 hd10 hg10 z0 z1 z2 z3 z4 z5 z6 z7 z8 zf
      go_wp2
      go_roundw
      case measure => have := Hlt.out; simp [intOf]; omega
      case rel => exact ⟨k + 1, M', L', v', by go_num, Hlt.out, HB10.out, Hag10.out⟩
    · have hkl : ¬ (k : Int) < (l.length : Int) := by omega
      clear hlt hbk hk hag
      go_wp2
      refine bodyPost_ret (v := .tuple #[.pointer (some ⟨p, 0, none⟩), .pointer (some ⟨q, 0, none⟩)]) (by simp [results, Try.results43, go_sem]) rfl ?_
      exact ⟨p, b, q, M, v, L, rfl, HBk.out, Hag.out⟩

def mayB (hs : List Hd) : Bool := hs.all (fun h => decide (0 ≤ h.age) && decide (h.age ≤ 60)) && decide (hs.length ≤ 100)

end Go.Proofs.Ytmjjmkdjjfmhhaa
