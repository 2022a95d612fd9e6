/- The reference's Ups and KeptAt. -/
import Derived.Test.YtioecklnijhjgaaPlM20
import Derived.Test.YtioecklnijhjgaaPlM22
import Derived.Test.YtioecklnijhjgaaPlM2
import Derived.Laws.IdiomCopy
import Derived.Tactics
set_option linter.unusedVariables false
set_option linter.unusedSimpArgs false
namespace Go.Proofs.Ytioecklnijhjgaa
open Go.RowKit

set_option maxRecDepth 100000 in
set_option maxHeartbeats 2000000 in
theorem ref_Ups {n D : Nat} {All : List It} {st : St} (k wr r m : Nat) (v : Value) (w : World) (hn : n ≤ 10) (hv : ∃ ao len cap, v = .slice ao len cap) (h : Shl n D All st) :
    Calls Try.prog 46 #[.agg (shC n k wr r D m v)] w (UpPost (ups n st) w) := by
  obtain ⟨av, lv, cv, rfl⟩ := hv
  have HD := Lib.hid h.dn
  have hd16 := h.d
  obtain ⟨W1, hW1⟩ : ∃ W1, w.alloc (.cells (shC n k wr r D m (.slice av lv cv)) 33) = W1 := ⟨_, rfl⟩
  have hb1 : Below w.heap.size w W1 := by rw [← hW1]; exact below_alloc _ _
  have h1 : W1.heap[w.heap.size]? = some (.cells (shC n k wr r D m (.slice av lv cv)) 33 (0, 0)) := by rw [← hW1]; exact heap_alloc_new w _
  have c0 := heap_cell h1 0
  have c4 := heap_cell h1 4
  simp only [List.getElem?_toArray, List.getElem?_cons_zero, List.getElem?_cons_succ] at c0 c4
  have HZ : Hid (w.heap.size < W1.heap.size) := Lib.hid (by rw [← hW1]; simp)
  have HC4 := Lib.hid c4
  have HB1 := Lib.hid hb1
  obtain ⟨gb, hgb⟩ : ∃ gb, W1.heap.size = gb := ⟨_, rfl⟩
  have HGB := Lib.hid hgb
  clear h hb1 h1 hgb
  go_enter Try.func46, Try.ntmps46
  go_wp2_with fail
  clear hW1
  go_loopw [3, 8] (fun vo vi wr => ∃ i : Nat, vi = .int .i64 i ∧ i ≤ n ∧ Hid (wr.ownsRow gb 3 1 vo (pl (fun i => !st.dn i) i).length (placeR (pl (fun i => !st.dn i) i))) ∧ Hid (Below gb W1 wr)) (fun _ vi _ => n - (intOf vi).toNat)
  case atStart => exact ⟨0, rfl, by omega, Lib.hid (World.ownsRow_nil _ _ _ _), Lib.hid (Below.refl _ _)⟩
  case round =>
    obtain ⟨i, rfl, hi, HO, HB⟩ := hrel
    obtain ⟨wo, rfl⟩ : ∃ wo, wo = wr := ⟨_, rfl⟩
    have HB' : Hid (Below W1.heap.size W1 wo) := Lib.hid (by rw [HGB.out]; exact HB.out)
    by_cases hin : i < n
    · have x4 := (HB'.out.cell (p := ⟨w.heap.size, 4, none⟩) HZ.out).trans HC4.out
      obtain ⟨q, hq⟩ : ∃ q, D / 2 ^ i = q := ⟨_, rfl⟩
      have hdi := HD.out i hin
      rw [hq] at hdi
      have hq16 : q < 65536 := by rw [← hq]; exact Nat.lt_of_le_of_lt (Nat.div_le_self _ _) hd16
      have e1 : (D : Int) / 2 ^ i = (q : Int) := by rw [← hq]; norm_cast
      have e2 : bits .and .u16 (q : Int) 1 = ((q % 2 : Nat) : Int) := by
        have := u16_and_nat q 1 hq16 (by omega)
        rw [Nat.and_one_is_mod] at this
        exact this
      obtain ⟨p, hp⟩ : ∃ p, q % 2 = p := ⟨_, rfl⟩
      rw [hp] at e2 hdi
      have hp2 : p < 2 := by omega
      have i0 : (0 : Int) ≤ (i : Int) := by omega
      have i16 : (i : Int) ≤ 16 := by omega
      have hsu := ups_succ st.dn i
      have hpl := pl_len (fun i => !st.dn i) i
      by_cases hp1 : p = 1
      · have t0 : ((p : Int) == 0) = false := by simp; omega
        have hd : st.dn i = true := by rw [hdi]; simp [hp1]
        rw [hd, if_pos rfl] at hsu
        have HSU := Lib.hid hsu
        clear hsu hd hdi hq hp hp1
        go_wp2_with fail
        go_roundw
        case rel => exact ⟨i + 1, by go_num, by omega, Lib.hid (by rw [HSU.out]; exact HO.out), HB⟩
        case measure => simp [intOf]; omega
      · have t0 : ((p : Int) == 0) = true := by simp; omega
        have hd : st.dn i = false := by rw [hdi]; simp [hp1]
        rw [hd] at hsu
        simp only [Bool.false_eq_true, if_false] at hsu
        have HSU := Lib.hid hsu
        clear hsu hd hdi hq hp hp1
        go_wp2_with (first
          | (at_builtin; go_loud (refine app_one rfl (.tmp 17) (.tmp 19) 53 rfl gb 3 _ 1 8 Try.underlying53 i64InfoS _ _ _ (by rfl) HO.out [.int .i64 (i : Int)] (by rfl) rfl (by intro u hu; simp at hu; subst hu; rfl) (by unfold maxLen; omega) (by omega) (by rw [← HGB.out]; exact HB'.out.size) ?_); intro v5 w5 hown5 hgr5 hb5; have HO5 : Hid (w5.ownsRow gb 3 1 v5 (pl (fun i => !st.dn i) (i + 1)).length (placeR (pl (fun i => !st.dn i) (i + 1)))) := Lib.hid (by rw [HSU.out]; rw [List.length_append, placeR_snoc]; exact hown5); have HB5 := Lib.hid (HB.out.trans hb5); clear hown5 hgr5 hb5)
          | fail)
        go_roundw
        case rel => exact ⟨i + 1, by go_num, by omega, HO5, HB5⟩
        case measure => simp [intOf]; omega
    · obtain rfl : n = i := by omega
      obtain ⟨ao, cap, rfl, _, _, _⟩ := own_reads HO.out
      go_wp2_with fail
      go_ret
      exact ⟨ao, cap, rfl, own_mono HO.out (by rw [← HGB.out]; exact HB1.out.size), HB1.out.trans (HB'.out.mono HB1.out.size)⟩
def KeptPost (l : List Kp) (w : World) (e : Ending) (w' : World) : Prop :=
  ∃ ao cap, e = .returned (.slice ao l.length cap) ∧ w'.ownsRow w.heap.size 50 3 (.slice ao l.length cap) l.length (kpCells l) ∧ Below w.heap.size w w'
theorem keptAt_snoc {l : List It} {q : Nat} {x : It} (i key : Nat) (h : l[q]? = some x) : keptAt (l.take (q + 1)) i key = keptAt (l.take q) i key ++ if atB i key x = true then [x.2.2] else [] := by
  obtain ⟨hq, he⟩ := List.getElem?_eq_some_iff.1 h
  unfold keptAt
  rw [List.take_succ_eq_append_getElem hq, he, List.filter_append, List.map_append]
  by_cases hx : atB i key x = true
  · rw [if_pos hx]; simp [hx]
  · rw [if_neg hx]; simp [hx]
set_option maxRecDepth 100000 in
set_option maxHeartbeats 2000000 in
theorem ref_KeptAt (n k wr r D m : Nat) (ao : Option Addr) (la ca : Nat) (All : List It) (i key : Nat) (w : World) (hla : All.length = la) (hl : la ≤ 30000000) (hR : Hid (Reads w ao (itCells All))) :
    Calls Try.prog 12 #[.agg (shC n k wr r D m (.slice ao la ca)), .int .i64 (i : Int), .int .i64 (key : Int)] w (KeptPost (keptAt All i key) w) := by
  obtain ⟨W1, hW1⟩ : ∃ W1, w.alloc (.cells (shC n k wr r D m (.slice ao la ca)) 33) = W1 := ⟨_, rfl⟩
  have hb1 : Below w.heap.size w W1 := by rw [← hW1]; exact below_alloc _ _
  have h1 : W1.heap[w.heap.size]? = some (.cells (shC n k wr r D m (.slice ao la ca)) 33 (0, 0)) := by rw [← hW1]; exact heap_alloc_new w _
  have c6 := heap_cell h1 6
  simp only [List.getElem?_toArray, List.getElem?_cons_zero, List.getElem?_cons_succ] at c6
  have HB1 := Lib.hid hb1
  have HLA := Lib.hid hla
  obtain ⟨gb, hgb⟩ : ∃ gb, W1.heap.size = gb := ⟨_, rfl⟩
  have HGB := Lib.hid hgb
  clear hb1 h1 hgb hla
  go_enter Try.func12, Try.ntmps12
  go_wp2_with fail
  clear hW1
  go_loopw [7, 13] (fun vo vj wr => ∃ j : Nat, vj = .int .i64 j ∧ j ≤ la ∧ Hid (wr.ownsRow gb 50 3 vo (keptAt (All.take j) i key).length (kpCells (keptAt (All.take j) i key))) ∧ Hid (Below gb W1 wr)) (fun _ vj _ => la - (intOf vj).toNat)
  case atStart => exact ⟨0, rfl, by omega, Lib.hid (World.ownsRow_nil _ _ _ _), Lib.hid (Below.refl _ _)⟩
  case round =>
    obtain ⟨j, rfl, hj, HO, HB⟩ := hrel
    obtain ⟨wo, rfl⟩ : ∃ wo, wo = wr := ⟨_, rfl⟩
    have HB' : Hid (Below W1.heap.size W1 wo) := Lib.hid (by rw [HGB.out]; exact HB.out)
    by_cases hjl : j < la
    · obtain ⟨x, hx⟩ : ∃ x, All[j]? = some x := ⟨All[j]'(by rw [HLA.out]; exact hjl), List.getElem?_eq_getElem _⟩
      obtain ⟨ba, oa, hra, z0, z1, z2, z3, z4⟩ := it_cells ((hR.out.below HB1.out).below HB'.out) hx
      cases hra
      have HSN := Lib.hid (keptAt_snoc i key hx)
      have hkl : (keptAt (All.take j) i key).length ≤ j := by
        unfold keptAt
        rw [List.length_map]
        exact Nat.le_trans (List.length_filter_le _ _) (List.length_take_le _ _)
      obtain ⟨a, b, c, s⟩ := x
      obtain ⟨kl, hkl2⟩ : ∃ kl, (keptAt (All.take j) i key).length = kl := ⟨_, rfl⟩
      rw [hkl2] at HO hkl
      have HKL := Lib.hid hkl2
      have hbx := below_alloc wo (.cells #[.int .i64 (a : Int), .int .i64 (b : Int), .int .i64 (c : Int), .int .i64 0, .string s] 70)
      have HOx := Lib.hid (own_below HO.out hbx)
      have HBx : Hid (Below gb W1 (wo.alloc (.cells #[.int .i64 (a : Int), .int .i64 (b : Int), .int .i64 (c : Int), .int .i64 0, .string s] 70))) := Lib.hid (HB.out.alloc (by rw [← HGB.out]; exact HB'.out.size) _)
      clear hx hkl2 hbx
      by_cases h1 : a = i
      · by_cases h2 : b = key
        · have t1 : ((a : Int) == (i : Int)) = true := by simp; omega
          have t2 : ((b : Int) == (key : Int)) = true := by simp; omega
          have HAT : Hid (atB i key (a, b, c, s) = true) := Lib.hid (by unfold atB; simp [h1, h2])
          clear h1 h2
          go_wp2_with (first
            | (at_builtin; go_loud (refine app_one rfl (.tmp 27) (.tmp 30) 45 rfl gb 50 _ 3 32 Try.underlying45 keptInfo _ _ _ (by rfl) HOx.out [.int .i64 (c : Int), .int .i64 0, .string s] (by rw [World.size_alloc]; rfl) rfl (by intro u hu; simp at hu; rcases hu with rfl | rfl | rfl <;> rfl) (by unfold maxLen; omega) (by omega) (by rw [← HGB.out]; rw [HGB.out]; exact Nat.le_trans (by rw [← HGB.out]; exact Nat.le_refl _) HBx.out.size) ?_); intro v5 w5 hown5 hgr5 hb5; have HO5 : Hid (w5.ownsRow gb 50 3 v5 (keptAt (All.take (j + 1)) i key).length (kpCells (keptAt (All.take (j + 1)) i key))) := Lib.hid (by rw [HSN.out, if_pos HAT.out, List.length_append, HKL.out, kpCells_snoc]; exact hown5); have HB5 := Lib.hid (HBx.out.trans hb5); clear hown5 hgr5 hb5)
            | fail)
          go_roundw
          case rel => exact ⟨j + 1, by go_num, by omega, HO5, HB5⟩
          case measure => simp [intOf]; omega
        · have t1 : ((a : Int) == (i : Int)) = true := by simp; omega
          have t2 : ((b : Int) == (key : Int)) = false := by simp; omega
          have HAT : Hid (¬ atB i key (a, b, c, s) = true) := Lib.hid (by unfold atB; simp [h2])
          have HO5 : Hid ((wo.alloc (.cells #[.int .i64 (a : Int), .int .i64 (b : Int), .int .i64 (c : Int), .int .i64 0, .string s] 70)).ownsRow gb 50 3 u7 (keptAt (All.take (j + 1)) i key).length (kpCells (keptAt (All.take (j + 1)) i key))) := Lib.hid (by rw [HSN.out, if_neg HAT.out, List.append_nil, HKL.out]; exact HOx.out)
          clear h1 h2
          go_wp2_with fail
          go_roundw
          case rel => exact ⟨j + 1, by go_num, by omega, HO5, HBx⟩
          case measure => simp [intOf]; omega
      · have t1 : ((a : Int) == (i : Int)) = false := by simp; omega
        have HAT : Hid (¬ atB i key (a, b, c, s) = true) := Lib.hid (by unfold atB; simp [h1])
        have HO5 : Hid ((wo.alloc (.cells #[.int .i64 (a : Int), .int .i64 (b : Int), .int .i64 (c : Int), .int .i64 0, .string s] 70)).ownsRow gb 50 3 u7 (keptAt (All.take (j + 1)) i key).length (kpCells (keptAt (All.take (j + 1)) i key))) := Lib.hid (by rw [HSN.out, if_neg HAT.out, List.append_nil, HKL.out]; exact HOx.out)
        clear h1
        go_wp2_with fail
        go_roundw
        case rel => exact ⟨j + 1, by go_num, by omega, HO5, HBx⟩
        case measure => simp [intOf]; omega
    · obtain rfl : la = j := by omega
      have hO := HO.out
      rw [List.take_of_length_le (by rw [HLA.out]; exact Nat.le_refl _)] at hO
      obtain ⟨ar, cr, rfl, _, _, _⟩ := own_reads hO
      have HO9 := Lib.hid hO
      clear hO
      go_wp2_with fail
      go_ret
      exact ⟨ar, cr, rfl, own_mono HO9.out (by rw [← HGB.out]; exact HB1.out.size), HB1.out.trans (HB'.out.mono HB1.out.size)⟩
end Go.Proofs.Ytioecklnijhjgaa
namespace Go.Proofs.Ytioecklnijhjgaa
open Go.RowKit

theorem stored_cells {base e size g n cap : Nat} : ∀ (vs : List Value) (o : Nat) (w : World) (xs : List Value), w.ownsRow base e size (.slice (some ⟨g, 0, none⟩) n cap) n xs →
    ∃ xs', (w.setCells g o vs).ownsRow base e size (.slice (some ⟨g, 0, none⟩) n cap) n xs' ∧ xs'.take o = xs.take o ∧ w.grownBy (w.setCells g o vs) (some g)
  | [], o, w, xs, h => ⟨xs, h, rfl, World.grownBy.refl _ _⟩
  | v :: r, o, w, xs, h => by
    have h1 := World.ownsRow.stored h o v
    obtain ⟨xs', h2, h3, h4⟩ := stored_cells r (o + 1) (w.setCell ⟨g, o, none⟩ v) (xs.set o v) h1.1
    refine ⟨xs', h2, ?_, ⟨h4.os.trans h1.2.os, h4.tape.trans h1.2.tape, h4.output.trans h1.2.output, Nat.le_trans h1.2.size h4.size, fun k hk hne => (h4.block k (Nat.lt_of_lt_of_le hk h1.2.size) hne).trans (h1.2.block k hk hne)⟩⟩
    have e := congrArg (List.take o) h3
    rw [List.take_take, List.take_take, Nat.min_eq_left (by omega)] at e
    rw [e]
    apply List.ext_getElem?
    intro j
    rw [List.getElem?_take, List.getElem?_take]
    split
    · rw [List.getElem?_set_ne (by omega)]
    · rfl
theorem own_shrink {w : World} {base e size g n cap i : Nat} {xs : List Value} (h : w.ownsRow base e size (.slice (some ⟨g, 0, none⟩) n cap) n xs) (hi : i ≤ n) : w.ownsRow base e size (.slice (some ⟨g, 0, none⟩) i cap) i (xs.take (i * size)) := by
  refine ⟨by rw [List.length_take, h.1]; exact Nat.min_eq_left (Nat.mul_le_mul_right _ hi), ?_⟩
  rcases h.2 with ⟨hv, _⟩ | ⟨g', c', cur, hv, hb, hg, h1, h2, h3, h4⟩
  · cases hv
  · cases hv
    refine .inr ⟨g, cap, cur, rfl, hb, hg, by omega, h2, h3, ?_⟩
    rw [← h4, List.take_take, Nat.min_eq_left (Nat.mul_le_mul_right _ hi)]
theorem own_at {w : World} {base e size g n cap : Nat} {xs : List Value} (h : w.ownsRow base e size (.slice (some ⟨g, 0, none⟩) n cap) n xs) {j : Nat} (hj : j < n * size) : (w.cell? ⟨g, j, none⟩).isSome = true := by
  have h1 := World.ownsRow.cellAt (g := g) (cap := cap) (n := n) h j hj
  rw [h1, List.getElem?_eq_getElem (by rw [h.1]; exact hj)]
  rfl
/-- The run of 'clear'. -/
theorem run_clear {P : Program} (w : World) (t e ty : TypeId) (z : Value) (ht : P.underlying t = some (.slice e)) (hv : ∀ w, (zeroValue e).run P w = .ok z w) (size : Nat) (hzs : z.cells.size = size) (h1 : ∀ u ∈ z.cells.toList, u.oneCell' = true) (b o n c : Nat) (hn : 0 < n)
    (hc : ∀ j, j < n * size → (w.cell? ⟨b, o + j, none⟩).isSome = true) (hf : ∀ j, j < n * size → w.frozen? ⟨b, o + j, none⟩ = false) :
    ∃ vs, (Builtin.clear_ #[t] ty #[.slice (some ⟨b, o, none⟩) n c]).run P w = .ok (.tuple #[]) (w.setCells b o vs) := by
  refine ⟨(Builtin.zeroCells z.cells n).toList, ?_⟩
  have hlen : (Builtin.zeroCells z.cells n).toList.length = n * size := by
    simp [Builtin.zeroCells, hzs]
  have hst := run_storeCells_cells (P := P) b o (Builtin.zeroCells z.cells n).toList 0 w (by rw [hlen]; simpa using hc) (by rw [hlen]; simpa using hf) (by
    intro v hv'
    unfold Builtin.zeroCells at hv'
    rw [Array.toList_map, List.mem_map] at hv'
    obtain ⟨i, hi, rfl⟩ := hv'
    have hi2 : i < n * z.cells.size := by simpa using hi
    have hz : 0 < z.cells.size := by
      rcases Nat.eq_zero_or_pos z.cells.size with h0 | h0
      · rw [h0] at hi2; omega
      · exact h0
    have hm : i % z.cells.size < z.cells.size := Nat.mod_lt _ hz
    rw [getElem!_pos z.cells _ hm]
    exact h1 _ (by simp))
  simp only [Nat.add_zero] at hst
  obtain ⟨m, rfl⟩ : ∃ m, n = m + 1 := ⟨n - 1, by omega⟩
  simp [Builtin.clear_, run_underlying ht, hv, hst]
end Go.Proofs.Ytioecklnijhjgaa
