/-
  Layer 20: which descriptions count, and the cost of an edge: the document's way.
-/
import Derived.Test.YtpfjgecdlilkcaaLsRef
import Derived.Test.YtpfjgecdlilkcaaGrOn
import Derived.Lib.QuietBelow
namespace Go.Proofs.Ytpfjgecdlilkcaa
open Go.RowKit Go.Sort

def encO : Option Int → Int
  | none => -1
  | some c => c
def linkS (n : Int) (ys : List Lnk) : List Int := ys.filterMap fun y => if y.kind = 2 ∧ y.id = n then some y.cost else none
def rowS (r n : Int) (T : List VX) (ys : List Lnk) : List Int := T.flatMap fun z => if isNet n z = true ∧ r ∈ z.2.2 then linkS n ys else []
def refS (C : List VX) (r n : Int) (T : List VX) : List Int := T.flatMap fun x => if x.1.kind = 1 ∧ x.1.adv = r then rowS r n C x.2.1 else []
theorem linkS_more (n : Int) {ys : List Lnk} {j : Nat} (hj : j < ys.length) : linkS n (ys.take (j + 1)) = linkS n (ys.take j) ++ if ys[j].kind = 2 ∧ ys[j].id = n then [ys[j].cost] else [] := by
  unfold linkS
  rw [List.take_succ_eq_append_getElem hj, List.filterMap_append]
  congr 1
  by_cases h : ys[j].kind = 2 ∧ ys[j].id = n <;> simp [h]
theorem rowS_more (r n : Int) (ys : List Lnk) {T : List VX} {k : Nat} (hk : k < T.length) : rowS r n (T.take (k + 1)) ys = rowS r n (T.take k) ys ++ if isNet n T[k] = true ∧ r ∈ T[k].2.2 then linkS n ys else [] := by
  unfold rowS
  rw [List.take_succ_eq_append_getElem hk, List.flatMap_append, List.flatMap_singleton]
theorem refS_more (C : List VX) (r n : Int) {T : List VX} {k : Nat} (hk : k < T.length) : refS C r n (T.take (k + 1)) = refS C r n (T.take k) ++ if T[k].1.kind = 1 ∧ T[k].1.adv = r then rowS r n C T[k].2.1 else [] := by
  unfold refS
  rw [List.take_succ_eq_append_getElem hk, List.flatMap_append, List.flatMap_singleton]
theorem mem_linkS {n c : Int} {ys : List Lnk} : c ∈ linkS n ys ↔ ∃ y ∈ ys, y.kind = 2 ∧ y.id = n ∧ y.cost = c := by
  unfold linkS
  rw [List.mem_filterMap]
  constructor
  · rintro ⟨y, hy, he⟩
    split at he
    · rename_i h
      injection he with he
      exact ⟨y, hy, h.1, h.2, he⟩
    · cases he
  · rintro ⟨y, hy, h1, h2, h3⟩
    exact ⟨y, hy, by rw [if_pos ⟨h1, h2⟩, h3]⟩
theorem refS_best {C : List VX} (h : CntOk C) (r n : Int) : bestL (refS C r n C) = costC C r n := by
  refine bestL_ext fun c => ?_
  rw [mem_cand h]
  unfold refS rowS
  rw [List.mem_flatMap]
  constructor
  · rintro ⟨x, hx, hm⟩
    split at hm
    · rename_i h1
      obtain ⟨z, hz, hm⟩ := List.mem_flatMap.1 hm
      split at hm
      · rename_i h2
        obtain ⟨y, hy, g1, g2, g3⟩ := mem_linkS.1 hm
        exact ⟨x, hx, z, hz, y, hy, h1.2, g1, g2, g3, h2.1, h2.2⟩
      · cases hm
    · cases hm
  · rintro ⟨x, hx, z, hz, y, hy, g1, g2, g3, g4, g5, g6⟩
    have hk := (cnt_links (h.each x hx) hy).1
    refine ⟨x, hx, ?_⟩
    rw [if_pos ⟨hk, g1⟩, List.mem_flatMap]
    exact ⟨z, hz, by rw [if_pos ⟨g5, g6⟩]; exact mem_linkS.2 ⟨y, hy, g2, g3, g4⟩⟩
/-- the best so far, as the document holds it: costs are above none -/
structure BestAt (v : Value) (S : List Int) : Prop where
  val : v = .int .i64 (encO (bestL S))
  pos : ∀ c ∈ S, 1 ≤ c
theorem BestAt.nil : BestAt (.int .i64 (-1)) [] := ⟨rfl, by simp⟩
theorem best_cases {b : Int} {S : List Int} (h : BestAt (.int .i64 b) S) {c : Int} (hc : 1 ≤ c) : (b < 0 ∧ BestAt (.int .i64 c) (S ++ [c])) ∨ (¬ b < 0 ∧ c < b ∧ BestAt (.int .i64 c) (S ++ [c])) ∨ (¬ b < 0 ∧ ¬ c < b ∧ BestAt (.int .i64 b) (S ++ [c])) := by
  have hp : ∀ d ∈ S ++ [c], 1 ≤ d := fun d hd => by
    rcases List.mem_append.1 hd with hd | hd
    · exact h.pos d hd
    · rw [List.mem_singleton] at hd; omega
  have hv := h.val
  injection hv with _ hv
  cases hb : bestL S with
  | none =>
    rw [hb] at hv
    have hv : b = -1 := hv
    exact .inl ⟨by omega, ⟨by rw [bestL_snoc, hb]; rfl, hp⟩⟩
  | some m =>
    rw [hb] at hv
    have hv : b = m := hv
    have hm := h.pos m (bestL_some.1 hb).1
    by_cases hlt : c < b
    · exact .inr (.inl ⟨by omega, hlt, ⟨by rw [bestL_snoc, hb, minO, if_pos (by omega)]; rfl, hp⟩⟩)
    · exact .inr (.inr ⟨by omega, hlt, ⟨by rw [bestL_snoc, hb, minO, if_neg (by omega), hv]; rfl, hp⟩⟩)
theorem BestAt.shape {v : Value} {S : List Int} (h : BestAt v S) : ∃ b, v = .int .i64 b := ⟨_, h.val⟩

theorem row_lsaX {w : World} {B : Nat} {A : Option Addr} {l : List Lsa} (h : RowsAt 9 Lsa.cells w B A l) (k : Nat) (hk : k < l.length) {x : Lsa} (hx : l[k] = x) :
    ∃ b o, A = some ⟨b, o, none⟩ ∧ b < B ∧ w.cell? ⟨b, o + k * 9, none⟩ = some (.int .i64 x.head.age) ∧ w.cell? ⟨b, o + k * 9 + 1, none⟩ = some (.int .i64 x.head.kind) ∧ w.cell? ⟨b, o + k * 9 + 2, none⟩ = some (.int .i64 x.head.id) ∧ w.cell? ⟨b, o + k * 9 + 3, none⟩ = some (.int .i64 x.head.adv) ∧ w.cell? ⟨b, o + k * 9 + 4, none⟩ = some (.int .i64 x.head.seq) ∧ w.cell? ⟨b, o + k * 9 + 5, none⟩ = some (.int .i64 x.head.sum) ∧ w.cell? ⟨b, o + k * 9 + 6, none⟩ = some (.int .i64 x.head.long) ∧
      w.cell? ⟨b, o + k * 9 + 7, none⟩ = some (.slice x.ka x.links.length x.kcap) ∧ w.cell? ⟨b, o + k * 9 + 8, none⟩ = some (.slice x.ma x.members.length x.mcap) := by
  subst hx
  exact row_lsa9b h k hk

set_option maxHeartbeats 16000000 in
set_option maxRecDepth 100000 in
theorem refCost_any (A : Option Addr) (cap : Nat) (O : List Lsa) (r n : Int) (w : World) (hO : RowsAt 9 Lsa.cells w w.heap.size A O) (hr : ∀ x ∈ O, rowsX w x) (hln : ∀ x ∈ O, x.links.length ≤ 1000 ∧ x.members.length ≤ 1000) (hc : CntOk (O.map vX)) (hm : O.length ≤ 2 ^ 16) (nn : Nat) (hnn : nn = O.length) :
    Calls Try.prog 46 #[.slice A nn cap, .int .i64 r, .int .i64 n] w fun rr w' => rr = .returned (.int .i64 (encO (costC (O.map vX) r n))) ∧ Below w.heap.size w w' := by
  subst hnn
  have HO := Lib.hid hO
  have HR := Lib.hid hr
  have Hln := Lib.hid hln
  have Hc := Lib.hid hc
  have hm' : (O.length : Int) ≤ 9223372036854775807 := by omega
  clear hO hr hln hc
  go_enter Try.func46, Try.ntmps46
  go_wp2
  go_loopw [7, 8] (fun bv i wr => ∃ k : Nat, i = .int .i64 k ∧ k ≤ O.length ∧ BestAt bv (refS (O.map vX) r n ((O.map vX).take k)) ∧ Below w.heap.size w wr) (fun _ i _ => O.length - (intOf i).toNat)
  case atStart => exact ⟨0, rfl, Nat.zero_le _, BestAt.nil, Below.refl _ _⟩
  case round =>
    obtain ⟨k, rfl, hk, hbs, hb⟩ := hrel
    obtain ⟨bb, rfl⟩ := hbs.shape
    have HBs := Lib.hid hbs
    have Hb := Lib.hid hb
    by_cases hlt : k < O.length
    · obtain ⟨g, o, hA, -, x0, x1, x2, x3, x4, x5, x6, x7, x8⟩ := row_lsa9b (HO.out.below hb) k hlt
      have hkl : (k : Int) < (O.length : Int) := by omega
      have hmore := refS_more (O.map vX) r n (T := O.map vX) (k := k) (by simpa using hlt)
      rw [List.getElem_map] at hmore
      have hmem := List.getElem_mem hlt
      have HA := Lib.hid hA
      rw [hA]
      have Hlt := Lib.hid hlt
      generalize hx : O[k] = x at *
      have HX := Lib.hid hx
      obtain ⟨⟨y1, y2, y3, y4, y5, y6, y7⟩, ka, kc, ls, ma, mc, ms⟩ := x
      simp only at x0 x1 x2 x3 x4 x5 x6 x7 x8
      change refS (O.map vX) r n ((O.map vX).take (k + 1)) = refS (O.map vX) r n ((O.map vX).take k) ++ (if y2 = 1 ∧ y4 = r then rowS r n (O.map vX) ls else []) at hmore
      have Hmem := Lib.hid hmem
      have hcnt := Hc.out.each _ (List.mem_map_of_mem hmem)
      have Hcnt := Lib.hid hcnt
      obtain ⟨nl, hnl⟩ : ∃ nl, ls.length = nl := ⟨_, rfl⟩
      rw [hnl] at x7
      have Hnl := Lib.hid hnl
      have hnl3 : nl ≤ 1000 := by have := (Hln.out _ hmem).1; simp only at this; omega
      have hnl2 : (nl : Int) ≤ 1000 := by omega
      clear hA hx hmem hcnt hnl hbs hb hk hlt
      by_cases h1 : y2 = 1
      · by_cases h4 : y4 = r
        · rw [if_pos ⟨h1, h4⟩] at hmore
          have Hmore := Lib.hid hmore
          subst h1
          subst h4
          clear hmore
          go_wp2
          clear x0 x1 x2 x3 x4 x5 x6 x7 x8
          go_loopw [7, 9] (fun bv i wq => ∃ q : Nat, i = .int .i64 q ∧ q ≤ O.length ∧ BestAt bv (refS (O.map vX) y4 n ((O.map vX).take k) ++ rowS y4 n ((O.map vX).take q) ls) ∧ Below w.heap.size w wq) (fun _ i _ => O.length - (intOf i).toNat)
          case atStart => exact ⟨0, rfl, Nat.zero_le _, by simpa [rowS] using HBs.out, Hb.out⟩
          case round =>
            obtain ⟨q, rfl, hq, hbs, hb⟩ := hrel
            obtain ⟨bb, rfl⟩ := hbs.shape
            clear HBs Hb
            have HBs := Lib.hid hbs
            have Hb := Lib.hid hb
            by_cases hql : q < O.length
            · obtain ⟨g2, o2, hA2, -, v0, v1, v2, v3, v4, v5, v6, v7, v8⟩ := row_lsa9b (HO.out.below hb) q hql
              have hA2' := hA2.symm.trans HA.out
              injection hA2' with hA2'
              injection hA2' with e1 e2
              subst e1 e2
              have hqk : (q : Int) < (O.length : Int) := by omega
              have hmq := rowS_more y4 n ls (T := O.map vX) (k := q) (by simpa using hql)
              rw [List.getElem_map] at hmq
              have hmem2 := List.getElem_mem hql
              have Hql := Lib.hid hql
              generalize O[q] = z at *
              obtain ⟨⟨u1, u2, u3, u4, u5, u6, u7⟩, kb, kd, lt, mb, md, mt⟩ := z
              have hrm := (HR.out _ hmem2).2
              have hlm := (Hln.out _ hmem2).2
              simp only at v0 v1 v2 v3 v4 v5 v6 v7 v8 hrm hlm
              change rowS y4 n ((O.map vX).take (q + 1)) ls = rowS y4 n ((O.map vX).take q) ls ++ (if isNet n (⟨u1, u2, u3, u4, u5, u6, u7⟩, lt, mt) = true ∧ y4 ∈ mt then linkS n ls else []) at hmq
              obtain ⟨nt, hnt⟩ : ∃ nt, nt = mt.length := ⟨_, rfl⟩
              rw [← hnt] at v8
              obtain ⟨S, hS⟩ : ∃ S, refS (O.map vX) y4 n ((O.map vX).take k) ++ rowS y4 n ((O.map vX).take q) ls = S := ⟨_, rfl⟩
              have hmq2 : refS (O.map vX) y4 n ((O.map vX).take k) ++ rowS y4 n ((O.map vX).take (q + 1)) ls = S ++ (if isNet n (⟨u1, u2, u3, u4, u5, u6, u7⟩, lt, mt) = true ∧ y4 ∈ mt then linkS n ls else []) := by rw [hmq, ← hS, List.append_assoc]
              rw [hS] at hbs
              have HBs2 := Lib.hid hbs
              have HHas := Lib.hid (fun t ht => hasI20 mb md mt y4 wr wr.heap.size (rows_keep hrm Hb.out) (Nat.le_refl _) (by omega) nt hnt (t := t) ht)
              clear hA2 hmq hmem2 hrm hlm hnt hS hbs hb hq hql HBs
              have hno : ∀ (P : ¬ (isNet n (⟨u1, u2, u3, u4, u5, u6, u7⟩, lt, mt) = true ∧ y4 ∈ mt)), BestAt (.int .i64 bb) (refS (O.map vX) y4 n ((O.map vX).take k) ++ rowS y4 n ((O.map vX).take (q + 1)) ls) := fun P => by
                rw [hmq2, if_neg P, List.append_nil]; exact HBs2.out
              have Hno := Lib.hid hno
              have Hmq := Lib.hid hmq2
              clear hno hmq2
              by_cases h2 : u2 = 2
              · by_cases h3 : u3 = n
                · obtain ⟨t, ht⟩ : ∃ t, decide (y4 ∈ mt) = t := ⟨_, rfl⟩
                  have HH := Lib.hid (HHas.out t ht)
                  cases t with
                  | false =>
                    have HN := Lib.hid (Hno.out (fun P => of_decide_eq_false ht P.2))
                    clear ht
                    subst h2
                    subst h3
                    go_wp2_with (go_at_call 70; (with_reducible refine Calls.mono HH.out ?_); rintro r wx ⟨rfl, rfl⟩)
                    go_roundw
                    case measure => have := Hql.out; simp [intOf]; omega
                    case rel => exact ⟨q + 1, by go_num, Hql.out, HN.out, Hb.out⟩
                  | true =>
                    have hyes : isNet n (⟨u1, u2, u3, u4, u5, u6, u7⟩, lt, mt) = true ∧ y4 ∈ mt := ⟨by simp [isNet, h2, h3], of_decide_eq_true ht⟩
                    have hmq3 := Hmq.out
                    rw [if_pos hyes] at hmq3
                    have Hmq3 := Lib.hid hmq3
                    clear ht hyes hmq3
                    subst h2
                    subst h3
                    go_wp2_with (go_at_call 70; (with_reducible refine Calls.mono HH.out ?_); rintro r wx ⟨rfl, rfl⟩)
                    clear v0 v1 v2 v3 v4 v5 v6 v7 v8
                    go_loopw [7, 10] (fun bv i wy => ∃ j : Nat, i = .int .i64 j ∧ j ≤ nl ∧ BestAt bv (S ++ linkS u3 (ls.take j)) ∧ Below w.heap.size w wy) (fun _ i _ => nl - (intOf i).toNat)
                    case atStart => exact ⟨0, rfl, Nat.zero_le _, by simpa [linkS] using HBs2.out, Hb.out⟩
                    case round =>
                      obtain ⟨j, rfl, hj, hbs, hb⟩ := hrel
                      obtain ⟨bb, rfl⟩ := hbs.shape
                      clear Hb HBs2
                      have HBs := Lib.hid hbs
                      have Hb := Lib.hid hb
                      obtain ⟨g3, o3, hA3, -, x0, x1, x2, x3, x4, x5, x6, x7, x8⟩ := row_lsaX (HO.out.below hb) k Hlt.out HX.out
                      have hA3' := hA3.symm.trans HA.out
                      injection hA3' with hA3'
                      injection hA3' with e1 e2
                      subst e1 e2
                      simp only at x0 x1 x2 x3 x4 x5 x6 x7 x8
                      rw [Hnl.out] at x7
                      by_cases hjl : j < nl
                      · have hjl2 : j < ls.length := by have := Hnl.out; omega
                        obtain ⟨g', o', hA', -, t0, t1, t2, t3⟩ := row_lnk (rows_keep (HR.out _ Hmem.out).1 hb) j hjl2
                        simp only at hA'
                        have hjk : (j : Int) < (nl : Int) := by omega
                        have hmj := linkS_more u3 hjl2
                        have hyl := cnt_links Hcnt.out (y := ls[j]'hjl2) (List.getElem_mem hjl2)
                        rw [hA'] at x7
                        have Hjl := Lib.hid hjl
                        simp only at t0 t1 t2 t3
                        generalize ls[j]'hjl2 = y at *
                        obtain ⟨e1, e2, e3, e4⟩ := y
                        simp only at t0 t1 t2 t3 hmj hyl
                        have hmj2 : S ++ linkS u3 (ls.take (j + 1)) = S ++ linkS u3 (ls.take j) ++ (if e1 = 2 ∧ e2 = u3 then [e4] else []) := by rw [hmj, List.append_assoc]
                        have Hmj := Lib.hid hmj2
                        have hno : ¬ (e1 = 2 ∧ e2 = u3) → BestAt (.int .i64 bb) (S ++ linkS u3 (ls.take (j + 1))) := fun P => by rw [hmj2, if_neg P, List.append_nil]; exact hbs
                        have Hno2 := Lib.hid hno
                        have hbc := best_cases hbs hyl.2.2.2.1
                        have Hal := Lib.hid (fun o => hb.alloc hb.size o)
                        clear hA3 hA' hjl hjl2 hmj hmj2 hno hbs hb hj hyl
                        by_cases f1 : e1 = 2
                        · by_cases f2 : e2 = u3
                          · have hmj3 := Hmj.out
                            rw [if_pos ⟨f1, f2⟩] at hmj3
                            have Hmj3 := Lib.hid hmj3
                            clear hmj3
                            subst f1
                            subst f2
                            rcases hbc with ⟨c1, hB⟩ | ⟨c1, c2, hB⟩ | ⟨c1, c2, hB⟩
                            all_goals
                              have HB := Lib.hid hB
                              clear hB
                              go_wp2
                              go_roundw
                              case measure => have := Hjl.out; simp [intOf]; omega
                              case rel => exact ⟨j + 1, by go_num, Hjl.out, by rw [Hmj3.out]; exact HB.out, Hal.out _⟩
                          · have HN := Lib.hid (Hno2.out (fun P => f2 P.2))
                            clear hbc
                            subst f1
                            go_wp2
                            go_roundw
                            case measure => have := Hjl.out; simp [intOf]; omega
                            case rel => exact ⟨j + 1, by go_num, Hjl.out, HN.out, Hal.out _⟩
                        · have HN := Lib.hid (Hno2.out (fun P => f1 P.1))
                          clear hbc
                          go_wp2
                          go_roundw
                          case measure => have := Hjl.out; simp [intOf]; omega
                          case rel => exact ⟨j + 1, by go_num, Hjl.out, HN.out, Hal.out _⟩
                      · have hje : j = nl := by omega
                        subst hje
                        have hls2 : ls.take ls.length = ls := List.take_length
                        have hbs2 : BestAt (.int .i64 bb) (refS (O.map vX) y4 u3 ((O.map vX).take k) ++ rowS y4 u3 ((O.map vX).take (q + 1)) ls) := by
                          rw [Hmq3.out]
                          rw [← Hnl.out, hls2] at hbs
                          exact hbs
                        have HBs3 := Lib.hid hbs2
                        have hjk : ¬ (j : Int) < (j : Int) := by omega
                        clear hA3 hjl hbs hb hbs2 hls2 hj
                        go_wp2
                        go_roundw
                        case measure => have := Hql.out; simp [intOf]; omega
                        case rel => exact ⟨q + 1, by go_num, Hql.out, HBs3.out, Hb.out⟩
                · have HN := Lib.hid (Hno.out (fun P => by simp [isNet, h3] at P))
                  subst h2
                  go_wp2
                  go_roundw
                  case measure => have := Hql.out; simp [intOf]; omega
                  case rel => exact ⟨q + 1, by go_num, Hql.out, HN.out, Hb.out⟩
              · have HN := Lib.hid (Hno.out (fun P => by simp [isNet, h2] at P))
                go_wp2
                go_roundw
                case measure => have := Hql.out; simp [intOf]; omega
                case rel => exact ⟨q + 1, by go_num, Hql.out, HN.out, Hb.out⟩
            · have hqe : q = O.length := by omega
              subst hqe
              have hqk : ¬ (O.length : Int) < (O.length : Int) := by omega
              have hbs2 : BestAt (.int .i64 bb) (refS (O.map vX) y4 n ((O.map vX).take (k + 1))) := by
                rw [Hmore.out]
                rw [show (O.map vX).take O.length = O.map vX from by rw [← List.length_map (f := vX), List.take_length]] at hbs
                exact hbs
              have HBs3 := Lib.hid hbs2
              clear hql hbs hb hbs2 hq
              go_wp2
              go_roundw
              case measure => have := Hlt.out; simp [intOf]; omega
              case rel => exact ⟨k + 1, by go_num, Hlt.out, HBs3.out, Hb.out⟩
        · rw [if_neg (fun P => h4 P.2), List.append_nil] at hmore
          have Hmore := Lib.hid hmore
          subst h1
          clear hmore
          go_wp2
          go_roundw
          case measure => have := Hlt.out; simp [intOf]; omega
          case rel => exact ⟨k + 1, by go_num, Hlt.out, by rw [Hmore.out]; exact HBs.out, Hb.out⟩
      · rw [if_neg (fun P => h1 P.1), List.append_nil] at hmore
        have Hmore := Lib.hid hmore
        clear hmore
        go_wp2
        go_roundw
        case measure => have := Hlt.out; simp [intOf]; omega
        case rel => exact ⟨k + 1, by go_num, Hlt.out, by rw [Hmore.out]; exact HBs.out, Hb.out⟩
    · have hke : k = O.length := by omega
      subst hke
      have hkl : ¬ (O.length : Int) < (O.length : Int) := by omega
      have hv := hbs.val
      rw [show (O.map vX).take O.length = O.map vX from by rw [← List.length_map (f := vX), List.take_length], refS_best Hc.out] at hv
      injection hv with _ hv
      have Hv := Lib.hid hv
      clear hlt hbs hb hk hv
      go_wp2
      go_ret
      exact ⟨by rw [← Hv.out]; rfl, Hb.out⟩

end Go.Proofs.Ytpfjgecdlilkcaa
