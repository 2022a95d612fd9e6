/- pair.sums, pair.Put. -/
import Derived.Test.YthnbhhfbmkklmaaPair1
import Derived.Test.YthnbhhfbmkklmaaContI
import Derived.Test.YthnbhhfbmkklmaaHeapM
import Derived.Laws.IdiomStrings
import Derived.Deep.RegionHeld
namespace Go.Proofs.Ythnbhhfbmkklmaa
open Go.RowKit

theorem u8InfoP : ElemRow Try.prog 5 (.int .u8 0) 1 1 := elemRow_of (by kernel_rfl) rfl (by omega)
/-- make([]byte, m): the run. -/
theorem mk_u8 (m : Nat) (hm : m ≤ 1000000) (W : World) : (Instr.makeSlice 101 (.int .i64 (m : Int)) (.int .i64 (m : Int))).run Try.prog W = .ok (.slice (some ⟨W.heap.size, 0, none⟩) m m) (W.alloc (.cells (rowF m (fun _ => Value.int .u8 0)).toArray 5)) := by
  obtain ⟨i, hi, hz, hsize, hby, hzs, hsz⟩ := u8InfoP
  have h := run_make (P := Try.prog) W 101 5 i _ Try.underlying101 hi hz .i64 .i64 (m : Int) (m : Int) (by omega) (Int.le_refl _) (by rw [hby]; omega) (by omega)
  rw [h]
  have e : madeCells (Value.int .u8 0).cells ((m : Int).toNat * i.size) = (rowF m (fun _ => Value.int .u8 0)).toArray := by
    rw [hsize, Nat.mul_one]
    apply Array.toList_inj.1
    have := toList_madeCells_one (Value.int .u8 0) m
    rw [replicate_rowF] at this
    exact this
  rw [e]
  simp
/-- Column k of the blocks. -/
def colP (ss : List ByteArray) (k i : Nat) : Nat := byteS (sAt ss i) k
theorem colP_lt (ss : List ByteArray) (k i : Nat) : colP ss k i < 256 := byteS_lt _ _
/-- The blocks are right: at most ten, all of m bytes. -/
structure Right (ss : List ByteArray) (n m : Nat) : Prop where
  len : ss.length = n
  n1 : 1 ≤ n
  n10 : n ≤ 10
  m64 : m ≤ 64
  all : ∀ i, i < n → (sAt ss i).size = m
theorem chkGo_zero {m : Nat} : ∀ {l : List ByteArray}, chkGo m l = 0 ↔ ∀ s ∈ l, s.size ≤ 64 ∧ s.size = m
  | [] => by simp [chkGo]
  | b :: t => by
    have ih := @chkGo_zero m t
    simp only [chkGo, List.mem_cons, forall_eq_or_imp]
    split
    · simp; omega
    · split
      · simp; omega
      · rw [ih]
        constructor
        · intro h; exact ⟨by omega, h⟩
        · intro h; exact h.2
theorem right_of {ss : List ByteArray} {n : Nat} (hl : ss.length = n) (h : chkP ss = 0) : Right ss n (sAt ss 0).size := by
  unfold chkP at h
  split at h
  · omega
  · rename_i hn
    have h2 := chkGo_zero.1 h
    have h0 := h2 _ (sAt_mem (ss := ss) (k := 0) (by omega))
    exact ⟨hl, by omega, by omega, h0.1, fun i hi => (h2 _ (sAt_mem (by omega))).2⟩
theorem upd_row {F G : Nat → Nat} {k y : Nat} (h : F k = y) (j : Nat) : (if j = k then Value.int .u8 (y : Int) else .int .u8 ((if j < k then F j else G j : Nat) : Int)) = .int .u8 ((if j < k + 1 then F j else G j : Nat) : Int) := by
  by_cases h1 : j = k
  · subst h1; rw [if_pos rfl, if_pos (by omega), h]
  · rw [if_neg h1]
    by_cases h2 : j < k
    · rw [if_pos h2, if_pos (by omega)]
    · rw [if_neg h2, if_neg (by omega)]
theorem own_A (m : Nat) (w : World) (hm : m ≤ maxLen := by unfold maxLen; omega) : Own ((w.alloc (.cells (rowF m (fun _ => Value.int .u8 0)).toArray 5)).alloc (.cells (rowF m (fun _ => Value.int .u8 0)).toArray 5)).drew w.heap.size 5 w.heap.size m m (fun _ => .int .u8 0) := by
  have h := own_lit w w.heap.size 5 (rowF m (fun _ => Value.int .u8 0)) (Nat.le_refl _) (by rw [rowF_length]; exact hm)
  rw [rowF_length] at h
  exact own_below (own_below h ((Below.refl _ _).alloc (Nat.le_refl _) _)) (below_dr _ _ 1)
theorem own_B (m : Nat) (w : World) (hm : m ≤ maxLen := by unfold maxLen; omega) : Own ((w.alloc (.cells (rowF m (fun _ => Value.int .u8 0)).toArray 5)).alloc (.cells (rowF m (fun _ => Value.int .u8 0)).toArray 5)).drew w.heap.size 5 (w.heap.size + 1) m m (fun _ => .int .u8 0) := by
  have h := own_lit (w.alloc (.cells (rowF m (fun _ => Value.int .u8 0)).toArray 5)) w.heap.size 5 (rowF m (fun _ => Value.int .u8 0)) (by simp) (by rw [rowF_length]; exact hm)
  rw [rowF_length, World.size_alloc] at h
  exact own_below h (below_dr _ _ 1)
def SumsPost (ss : List ByteArray) (n m : Nat) (lost : List Int) (w : World) (e : Ending) (w' : World) : Prop :=
  ∃ g1 g2, e = .returned (.tuple #[.slice (some ⟨g1, 0, none⟩) m m, .slice (some ⟨g2, 0, none⟩) m m]) ∧
    Own w' w.heap.size 5 g1 m m (fun k => .int .u8 (xorN n (left lost (colP ss k)) : Nat)) ∧
    Own w' w.heap.size 5 g2 m m (fun k => .int .u8 (xorN n (left lost (wtd (colP ss k))) : Nat)) ∧ g1 ≠ g2 ∧ Below w.heap.size w w'
set_option maxRecDepth 100000 in
set_option maxHeartbeats 8000000 in
theorem pair_sums (ss : List ByteArray) (n m : Nat) (ao : Option Addr) (cap : Nat) (lost : List Int) (ln : Nat) (lo : Option Addr) (lc : Nat) (w : World) (hr : Right ss n m) (hR : Hid (Reads w ao (ss.map Value.string)))
    (hl : lost.length = ln) (hln : ln ≤ 9223372036854775807) (hL : Hid (Reads w lo (lost.map (Value.int .i64)))) :
    Calls Try.prog 52 #[.slice ao n cap, .slice lo ln lc] w (SumsPost ss n m lost w) := by
  obtain ⟨r1, r2, r3, r4, r5⟩ := hr
  have HR1 := Lib.hid r1
  have HR5 := Lib.hid r5
  have HL := Lib.hid hl
  obtain ⟨b0, o0, rfl, c0⟩ := hR.out 0 _ (str_at (by omega))
  obtain ⟨s0, hs0⟩ : ∃ s0, sAt ss 0 = s0 := ⟨_, rfl⟩
  have hz0 := r5 0 (by omega)
  rw [hs0] at c0 hz0
  rw [Nat.add_zero] at c0
  have MK := mk_u8 m (by omega)
  have n0 : 0 < n := by omega
  clear r1 r5 hl hs0
  go_enter Try.func52, Try.ntmps52
  go_wp2_with fail
  go_region_held (fun w' => w'.cell? ⟨b0, o0, none⟩ = some (.string s0)) (go_keep) (fail)
  -- LOOPS
  · have OA : Own ((w.alloc (.cells (rowF m (fun _ => Value.int .u8 0)).toArray 5)).alloc (.cells (rowF m (fun _ => Value.int .u8 0)).toArray 5)).drew w.heap.size 5 w.heap.size m m (fun _ => .int .u8 0) := own_A m w
    have OB : Own ((w.alloc (.cells (rowF m (fun _ => Value.int .u8 0)).toArray 5)).alloc (.cells (rowF m (fun _ => Value.int .u8 0)).toArray 5)).drew w.heap.size 5 (w.heap.size + 1) m m (fun _ => .int .u8 0) := own_B m w
    have BW : Below w.heap.size w ((w.alloc (.cells (rowF m (fun _ => Value.int .u8 0)).toArray 5)).alloc (.cells (rowF m (fun _ => Value.int .u8 0)).toArray 5)).drew := below_drew1 (((Below.refl _ w).alloc (Nat.le_refl _) _).alloc (by simp) _)
    obtain ⟨W1, hW1⟩ : ∃ W1, ((w.alloc (.cells (rowF m (fun _ => Value.int .u8 0)).toArray 5)).alloc (.cells (rowF m (fun _ => Value.int .u8 0)).toArray 5)).drew = W1 := ⟨_, rfl⟩
    rw [hW1] at OA OB BW ⊢
    obtain ⟨g1, hg1⟩ : ∃ g, w.heap.size = g := ⟨_, rfl⟩
    obtain ⟨g2, hg2⟩ : ∃ g, w.heap.size + 1 = g := ⟨_, rfl⟩
    have hne : Hid (g1 ≠ g2) := Lib.hid (by omega)
    have O1 : Hid (Own W1 w.heap.size 5 g1 m m (fun k => .int .u8 (xorN 0 (left lost (colP ss k)) : Nat))) := Lib.hid (by rw [← hg1]; first | exact OA | exact OB)
    have O2 : Hid (Own W1 w.heap.size 5 g2 m m (fun k => .int .u8 (xorN 0 (left lost (wtd (colP ss k))) : Nat))) := Lib.hid (by rw [← hg2]; first | exact OA | exact OB)
    have HBW := Lib.hid BW
    try rw [hg2]
    try rw [hg1]
    clear OA OB BW hW1 hg1 hg2
    clear MK
    go_wp2_with fail
    go_loopw [23] (fun vi wr => ∃ i : Nat, vi = .int .i64 i ∧ i ≤ n ∧ Hid (Own wr w.heap.size 5 g1 m m (fun k => .int .u8 (xorN i (left lost (colP ss k)) : Nat))) ∧ Hid (Own wr w.heap.size 5 g2 m m (fun k => .int .u8 (xorN i (left lost (wtd (colP ss k))) : Nat))) ∧ Hid (Below w.heap.size w wr)) (fun vi _ => n - (intOf vi).toNat)
    case atStart => exact ⟨0, rfl, by omega, O1, O2, HBW⟩
    case round =>
      clear O1 O2 HBW
      obtain ⟨i, rfl, hi, O1, O2, HB⟩ := hrel
      obtain ⟨wo, rfl⟩ : ∃ wo, wo = wr := ⟨_, rfl⟩
      by_cases hin : i < n
      · obtain ⟨b1, o1, ha, c1⟩ := hR.out i _ (str_at (by have := HR1.out; omega))
        cases ha
        replace c1 := (HB.out.cell (World.block_lt_of_cell? w _ c1)).trans c1
        have hz := HR5.out i hin
        obtain ⟨s, hs⟩ : ∃ s, sAt ss i = s := ⟨_, rfl⟩
        rw [hs] at c1 hz
        have HS := Lib.hid hs
        have CC := Lib.hid (contains_i64 (i : Int) lost ln lo lc wo HL.out hln (Lib.hid (hL.out.below HB.out)))
        have CW := Lib.hid (fun X => pair_weight i X (by omega))
        clear hs
        by_cases hmem : (i : Int) ∈ lost
        · rw [decide_eq_true hmem] at CC
          have O3 : Hid (Own wo w.heap.size 5 g1 m m (fun k => .int .u8 (xorN (i + 1) (left lost (colP ss k)) : Nat))) := Lib.hid (O1.out.congr fun k _ => by simp only [xorN]; unfold left; rw [if_pos hmem, Nat.xor_zero])
          have O4 : Hid (Own wo w.heap.size 5 g2 m m (fun k => .int .u8 (xorN (i + 1) (left lost (wtd (colP ss k))) : Nat))) := Lib.hid (O2.out.congr fun k _ => by simp only [xorN]; unfold left; rw [if_pos hmem, Nat.xor_zero])
          have HM := Lib.hid hmem
          clear hmem O1 O2
          go_wp2_with fail
          (with_reducible refine CC.out.mono ?_)
          rintro e w2 ⟨rfl, q2, rfl⟩
          have O5 := Lib.hid (O3.out.drewN q2)
          have O6 := Lib.hid (O4.out.drewN q2)
          have HB2 := Lib.hid (below_drewN HB.out q2)
          go_wp2_with fail
          go_roundw
          case rel => exact ⟨i + 1, by go_num, by omega, O5, O6, HB2⟩
          case measure => simp [intOf]; omega
        · rw [decide_eq_false hmem] at CC
          have HM := Lib.hid hmem
          clear hmem
          go_wp2_with fail
          (with_reducible refine CC.out.mono ?_)
          rintro e w2 ⟨rfl, q2, rfl⟩
          have O5 : Hid (Own (wo.drewN q2) w.heap.size 5 g1 m m (fun k => .int .u8 (if k < 0 then xorN (i + 1) (left lost (colP ss k)) else xorN i (left lost (colP ss k)) : Nat))) := Lib.hid ((O1.out.drewN q2).congr fun k _ => by rw [if_neg (by omega)])
          have O6 : Hid (Own (wo.drewN q2) w.heap.size 5 g2 m m (fun k => .int .u8 (if k < 0 then xorN (i + 1) (left lost (wtd (colP ss k))) else xorN i (left lost (wtd (colP ss k))) : Nat))) := Lib.hid ((O2.out.drewN q2).congr fun k _ => by rw [if_neg (by omega)])
          have HB2 := Lib.hid (below_drewN HB.out q2)
          clear O1 O2 HB
          go_wp2_with fail
          go_loopw [33] (fun vk wi => ∃ k : Nat, vk = .int .i64 k ∧ k ≤ m ∧ Hid (Own wi w.heap.size 5 g1 m m (fun j => .int .u8 (if j < k then xorN (i + 1) (left lost (colP ss j)) else xorN i (left lost (colP ss j)) : Nat))) ∧ Hid (Own wi w.heap.size 5 g2 m m (fun j => .int .u8 (if j < k then xorN (i + 1) (left lost (wtd (colP ss j))) else xorN i (left lost (wtd (colP ss j))) : Nat))) ∧ Hid (Below w.heap.size w wi)) (fun vk _ => m - (intOf vk).toNat)
          case atStart => exact ⟨0, rfl, by omega, O5, O6, HB2⟩
          case round =>
            clear O5 O6 HB2
            obtain ⟨k, rfl, hk, O1, O2, HB⟩ := hrel
            obtain ⟨wi, rfl⟩ : ∃ wi, wi = wr := ⟨_, rfl⟩
            by_cases hkm : k < m
            · have hks : k < s.size := by omega
              have hbs := byteS_get s k hks
              obtain ⟨c, hc⟩ : ∃ c, byteS s k = c := ⟨_, rfl⟩
              have hcb : c < 256 := by rw [← hc]; exact byteS_lt _ _
              obtain ⟨x, hx⟩ : ∃ x, xorN i (left lost (colP ss k)) = x := ⟨_, rfl⟩
              have hxb : x < 256 := by rw [← hx]; exact xorN_lt fun j _ => left_lt (colP_lt _ _ _)
              obtain ⟨z, hz2⟩ : ∃ z, xorN i (left lost (wtd (colP ss k))) = z := ⟨_, rfl⟩
              have hzb : z < 256 := by rw [← hz2]; exact xorN_lt fun j _ => left_lt (wtd_lt (colP_lt _ _ _))
              have p1 := O1.out.cell hkm
              have p2 := O2.out.cell hkm
              simp only [Nat.lt_irrefl, if_false] at p1 p2
              rw [hx] at p1
              rw [hz2] at p2
              have f1 := O1.out.frozen k
              have f2 := O2.out.frozen k
              have e1 : bits .xor .u8 (x : Int) (s[k].toNat : Int) = ((x ^^^ c : Nat) : Int) := by rw [hbs, hc]; exact u8_xor_nat x c hxb hcb
              have hcol : colP ss k i = c := by unfold colP; rw [HS.out, hc]
              have s1 : Hid (xorN (i + 1) (left lost (colP ss k)) = x ^^^ c) := Lib.hid (by simp only [xorN]; rw [hx]; unfold left; rw [if_neg HM.out, hcol])
              obtain ⟨t, ht⟩ : ∃ t, gmul c (gpow 2 i) = t := ⟨_, rfl⟩
              have htb : t < 256 := by rw [← ht]; exact gmul_lt hcb
              have s2 : Hid (xorN (i + 1) (left lost (wtd (colP ss k))) = z ^^^ t) := Lib.hid (by simp only [xorN]; rw [hz2]; unfold left wtd; rw [if_neg HM.out, hcol, ht])
              have e2 : bits .xor .u8 (z : Int) (t : Int) = ((z ^^^ t : Nat) : Int) := u8_xor_nat z t hzb htb
              have CM : Hid (∀ X, Calls Try.prog 54 #[.int .u8 (s[k].toNat : Int), .int .u8 (gpow 2 i : Nat)] X fun e w' => e = .returned (.int .u8 (t : Nat)) ∧ X = w') := Lib.hid (fun X => by rw [hbs, hc, ← ht]; exact field_Mul c (gpow 2 i) X hcb (gpow_lt i))
              obtain ⟨y1, hy1⟩ : ∃ y, x ^^^ c = y := ⟨_, rfl⟩
              obtain ⟨y2, hy2⟩ : ∃ y, z ^^^ t = y := ⟨_, rfl⟩
              rw [hy1] at e1 s1
              rw [hy2] at e2 s2
              have HZ2 := Lib.hid hz2
              clear hx hz2 hc hcol ht hy1 hy2 hbs
              have i0 : (0 : Int) ≤ (k : Int) := by omega
              have i1 : (k : Int) < (m : Int) := by omega
              go_wp2_with fail
              have A1 := O1.out.store k (.int .u8 (y1 : Int))
              have A2 : Own (wi.setCell ⟨g1, k, none⟩ (.int .u8 (y1 : Int))).drew w.heap.size 5 g1 m m _ := own_below A1.1 (below_dr _ _ 1)
              have A3 : Own (wi.setCell ⟨g1, k, none⟩ (.int .u8 (y1 : Int))).drew w.heap.size 5 g2 m m _ := own_below (O2.out.kept A1.2 (fun h => hne.out h.symm)) (below_dr _ _ 1)
              have A4 : Below w.heap.size w (wi.setCell ⟨g1, k, none⟩ (.int .u8 (y1 : Int))).drew := below_drew1 (O1.out.belowStore HB.out (Nat.le_refl _) k _)
              go_region
              obtain ⟨W3, hW3⟩ : ∃ W3, (wi.setCell ⟨g1, k, none⟩ (.int .u8 (y1 : Int))).drew = W3 := ⟨_, rfl⟩
              rw [hW3] at A2 A3 A4 ⊢
              have p3 := A3.cell hkm
              simp only [Nat.lt_irrefl, if_false] at p3
              rw [HZ2.out] at p3
              have f3 := A3.frozen k
              have B1 := A3.store k (.int .u8 (y2 : Int))
              have B2 : Own (W3.setCell ⟨g2, k, none⟩ (.int .u8 (y2 : Int))).drew w.heap.size 5 g2 m m _ := own_below B1.1 (below_dr _ _ 1)
              have B3 : Own (W3.setCell ⟨g2, k, none⟩ (.int .u8 (y2 : Int))).drew w.heap.size 5 g1 m m _ := own_below (A2.kept B1.2 hne.out) (below_dr _ _ 1)
              have B4 : Below w.heap.size w (W3.setCell ⟨g2, k, none⟩ (.int .u8 (y2 : Int))).drew := below_drew1 (A3.belowStore A4 (Nat.le_refl _) k _)
              clear hW3 A1 B1 p1 f1 p2 f2 e1
              have C1 : Hid (Own (W3.setCell ⟨g2, k, none⟩ (.int .u8 (y2 : Int))).drew w.heap.size 5 g1 m m (fun j => .int .u8 (if j < k + 1 then xorN (i + 1) (left lost (colP ss j)) else xorN i (left lost (colP ss j)) : Nat))) := Lib.hid (B3.congr fun j _ => upd_row (F := fun j => xorN (i + 1) (left lost (colP ss j))) (G := fun j => xorN i (left lost (colP ss j))) s1.out j)
              have C2 : Hid (Own (W3.setCell ⟨g2, k, none⟩ (.int .u8 (y2 : Int))).drew w.heap.size 5 g2 m m (fun j => .int .u8 (if j < k + 1 then xorN (i + 1) (left lost (wtd (colP ss j))) else xorN i (left lost (wtd (colP ss j))) : Nat))) := Lib.hid (B2.congr fun j _ => upd_row (F := fun j => xorN (i + 1) (left lost (wtd (colP ss j)))) (G := fun j => xorN i (left lost (wtd (colP ss j)))) s2.out j)
              have C3 := Lib.hid B4
              clear A2 A3 A4 B2 B3 B4 O1 O2 HB
              go_wp2_with fail
              go_region_with (first
                | (go_at_call 55; (with_reducible refine (CW.out _).mono ?_); rintro e w5 ⟨rfl, rfl⟩)
                | (go_at_call 54; (with_reducible refine (CM.out _).mono ?_); rintro e w6 ⟨rfl, rfl⟩)
                | fail)
              all_goals
                go_wp2_with fail
                go_roundw
                case rel => exact ⟨k + 1, by go_num, by omega, C1, C2, C3⟩
                case measure => simp [intOf]; omega
            · obtain rfl : k = m := by omega
              have C1 : Hid (Own wi w.heap.size 5 g1 k k (fun j => .int .u8 (xorN (i + 1) (left lost (colP ss j)) : Nat))) := Lib.hid (O1.out.congr fun j hj => by rw [if_pos hj])
              have C2 : Hid (Own wi w.heap.size 5 g2 k k (fun j => .int .u8 (xorN (i + 1) (left lost (wtd (colP ss j))) : Nat))) := Lib.hid (O2.out.congr fun j hj => by rw [if_pos hj])
              have HZ := Lib.hid hz
              clear O1 O2 hz
              go_wp2_with fail
              go_roundw
              case rel => exact ⟨i + 1, by go_num, by omega, C1, C2, HB⟩
              case measure => simp [intOf]; omega
      · obtain rfl : i = n := by omega
        go_wp2_with fail
        go_ret2
        exact ⟨g1, g2, rfl, O1.out, O2.out, hne.out, HB.out⟩
  · have OA : Own ((w.alloc (.cells (rowF m (fun _ => Value.int .u8 0)).toArray 5)).alloc (.cells (rowF m (fun _ => Value.int .u8 0)).toArray 5)).drew w.heap.size 5 w.heap.size m m (fun _ => .int .u8 0) := own_A m w
    have OB : Own ((w.alloc (.cells (rowF m (fun _ => Value.int .u8 0)).toArray 5)).alloc (.cells (rowF m (fun _ => Value.int .u8 0)).toArray 5)).drew w.heap.size 5 (w.heap.size + 1) m m (fun _ => .int .u8 0) := own_B m w
    have BW : Below w.heap.size w ((w.alloc (.cells (rowF m (fun _ => Value.int .u8 0)).toArray 5)).alloc (.cells (rowF m (fun _ => Value.int .u8 0)).toArray 5)).drew := below_drew1 (((Below.refl _ w).alloc (Nat.le_refl _) _).alloc (by simp) _)
    obtain ⟨W1, hW1⟩ : ∃ W1, ((w.alloc (.cells (rowF m (fun _ => Value.int .u8 0)).toArray 5)).alloc (.cells (rowF m (fun _ => Value.int .u8 0)).toArray 5)).drew = W1 := ⟨_, rfl⟩
    rw [hW1] at OA OB BW ⊢
    obtain ⟨g1, hg1⟩ : ∃ g, w.heap.size + 1 = g := ⟨_, rfl⟩
    obtain ⟨g2, hg2⟩ : ∃ g, w.heap.size = g := ⟨_, rfl⟩
    have hne : Hid (g1 ≠ g2) := Lib.hid (by omega)
    have O1 : Hid (Own W1 w.heap.size 5 g1 m m (fun k => .int .u8 (xorN 0 (left lost (colP ss k)) : Nat))) := Lib.hid (by rw [← hg1]; first | exact OA | exact OB)
    have O2 : Hid (Own W1 w.heap.size 5 g2 m m (fun k => .int .u8 (xorN 0 (left lost (wtd (colP ss k))) : Nat))) := Lib.hid (by rw [← hg2]; first | exact OA | exact OB)
    have HBW := Lib.hid BW
    try rw [hg1]
    try rw [hg2]
    clear OA OB BW hW1 hg1 hg2
    clear MK
    go_wp2_with fail
    go_loopw [23] (fun vi wr => ∃ i : Nat, vi = .int .i64 i ∧ i ≤ n ∧ Hid (Own wr w.heap.size 5 g1 m m (fun k => .int .u8 (xorN i (left lost (colP ss k)) : Nat))) ∧ Hid (Own wr w.heap.size 5 g2 m m (fun k => .int .u8 (xorN i (left lost (wtd (colP ss k))) : Nat))) ∧ Hid (Below w.heap.size w wr)) (fun vi _ => n - (intOf vi).toNat)
    case atStart => exact ⟨0, rfl, by omega, O1, O2, HBW⟩
    case round =>
      clear O1 O2 HBW
      obtain ⟨i, rfl, hi, O1, O2, HB⟩ := hrel
      obtain ⟨wo, rfl⟩ : ∃ wo, wo = wr := ⟨_, rfl⟩
      by_cases hin : i < n
      · obtain ⟨b1, o1, ha, c1⟩ := hR.out i _ (str_at (by have := HR1.out; omega))
        cases ha
        replace c1 := (HB.out.cell (World.block_lt_of_cell? w _ c1)).trans c1
        have hz := HR5.out i hin
        obtain ⟨s, hs⟩ : ∃ s, sAt ss i = s := ⟨_, rfl⟩
        rw [hs] at c1 hz
        have HS := Lib.hid hs
        have CC := Lib.hid (contains_i64 (i : Int) lost ln lo lc wo HL.out hln (Lib.hid (hL.out.below HB.out)))
        have CW := Lib.hid (fun X => pair_weight i X (by omega))
        clear hs
        by_cases hmem : (i : Int) ∈ lost
        · rw [decide_eq_true hmem] at CC
          have O3 : Hid (Own wo w.heap.size 5 g1 m m (fun k => .int .u8 (xorN (i + 1) (left lost (colP ss k)) : Nat))) := Lib.hid (O1.out.congr fun k _ => by simp only [xorN]; unfold left; rw [if_pos hmem, Nat.xor_zero])
          have O4 : Hid (Own wo w.heap.size 5 g2 m m (fun k => .int .u8 (xorN (i + 1) (left lost (wtd (colP ss k))) : Nat))) := Lib.hid (O2.out.congr fun k _ => by simp only [xorN]; unfold left; rw [if_pos hmem, Nat.xor_zero])
          have HM := Lib.hid hmem
          clear hmem O1 O2
          go_wp2_with fail
          (with_reducible refine CC.out.mono ?_)
          rintro e w2 ⟨rfl, q2, rfl⟩
          have O5 := Lib.hid (O3.out.drewN q2)
          have O6 := Lib.hid (O4.out.drewN q2)
          have HB2 := Lib.hid (below_drewN HB.out q2)
          go_wp2_with fail
          go_roundw
          case rel => exact ⟨i + 1, by go_num, by omega, O5, O6, HB2⟩
          case measure => simp [intOf]; omega
        · rw [decide_eq_false hmem] at CC
          have HM := Lib.hid hmem
          clear hmem
          go_wp2_with fail
          (with_reducible refine CC.out.mono ?_)
          rintro e w2 ⟨rfl, q2, rfl⟩
          have O5 : Hid (Own (wo.drewN q2) w.heap.size 5 g1 m m (fun k => .int .u8 (if k < 0 then xorN (i + 1) (left lost (colP ss k)) else xorN i (left lost (colP ss k)) : Nat))) := Lib.hid ((O1.out.drewN q2).congr fun k _ => by rw [if_neg (by omega)])
          have O6 : Hid (Own (wo.drewN q2) w.heap.size 5 g2 m m (fun k => .int .u8 (if k < 0 then xorN (i + 1) (left lost (wtd (colP ss k))) else xorN i (left lost (wtd (colP ss k))) : Nat))) := Lib.hid ((O2.out.drewN q2).congr fun k _ => by rw [if_neg (by omega)])
          have HB2 := Lib.hid (below_drewN HB.out q2)
          clear O1 O2 HB
          go_wp2_with fail
          go_loopw [33] (fun vk wi => ∃ k : Nat, vk = .int .i64 k ∧ k ≤ m ∧ Hid (Own wi w.heap.size 5 g1 m m (fun j => .int .u8 (if j < k then xorN (i + 1) (left lost (colP ss j)) else xorN i (left lost (colP ss j)) : Nat))) ∧ Hid (Own wi w.heap.size 5 g2 m m (fun j => .int .u8 (if j < k then xorN (i + 1) (left lost (wtd (colP ss j))) else xorN i (left lost (wtd (colP ss j))) : Nat))) ∧ Hid (Below w.heap.size w wi)) (fun vk _ => m - (intOf vk).toNat)
          case atStart => exact ⟨0, rfl, by omega, O5, O6, HB2⟩
          case round =>
            clear O5 O6 HB2
            obtain ⟨k, rfl, hk, O1, O2, HB⟩ := hrel
            obtain ⟨wi, rfl⟩ : ∃ wi, wi = wr := ⟨_, rfl⟩
            by_cases hkm : k < m
            · have hks : k < s.size := by omega
              have hbs := byteS_get s k hks
              obtain ⟨c, hc⟩ : ∃ c, byteS s k = c := ⟨_, rfl⟩
              have hcb : c < 256 := by rw [← hc]; exact byteS_lt _ _
              obtain ⟨x, hx⟩ : ∃ x, xorN i (left lost (colP ss k)) = x := ⟨_, rfl⟩
              have hxb : x < 256 := by rw [← hx]; exact xorN_lt fun j _ => left_lt (colP_lt _ _ _)
              obtain ⟨z, hz2⟩ : ∃ z, xorN i (left lost (wtd (colP ss k))) = z := ⟨_, rfl⟩
              have hzb : z < 256 := by rw [← hz2]; exact xorN_lt fun j _ => left_lt (wtd_lt (colP_lt _ _ _))
              have p1 := O1.out.cell hkm
              have p2 := O2.out.cell hkm
              simp only [Nat.lt_irrefl, if_false] at p1 p2
              rw [hx] at p1
              rw [hz2] at p2
              have f1 := O1.out.frozen k
              have f2 := O2.out.frozen k
              have e1 : bits .xor .u8 (x : Int) (s[k].toNat : Int) = ((x ^^^ c : Nat) : Int) := by rw [hbs, hc]; exact u8_xor_nat x c hxb hcb
              have hcol : colP ss k i = c := by unfold colP; rw [HS.out, hc]
              have s1 : Hid (xorN (i + 1) (left lost (colP ss k)) = x ^^^ c) := Lib.hid (by simp only [xorN]; rw [hx]; unfold left; rw [if_neg HM.out, hcol])
              obtain ⟨t, ht⟩ : ∃ t, gmul c (gpow 2 i) = t := ⟨_, rfl⟩
              have htb : t < 256 := by rw [← ht]; exact gmul_lt hcb
              have s2 : Hid (xorN (i + 1) (left lost (wtd (colP ss k))) = z ^^^ t) := Lib.hid (by simp only [xorN]; rw [hz2]; unfold left wtd; rw [if_neg HM.out, hcol, ht])
              have e2 : bits .xor .u8 (z : Int) (t : Int) = ((z ^^^ t : Nat) : Int) := u8_xor_nat z t hzb htb
              have CM : Hid (∀ X, Calls Try.prog 54 #[.int .u8 (s[k].toNat : Int), .int .u8 (gpow 2 i : Nat)] X fun e w' => e = .returned (.int .u8 (t : Nat)) ∧ X = w') := Lib.hid (fun X => by rw [hbs, hc, ← ht]; exact field_Mul c (gpow 2 i) X hcb (gpow_lt i))
              obtain ⟨y1, hy1⟩ : ∃ y, x ^^^ c = y := ⟨_, rfl⟩
              obtain ⟨y2, hy2⟩ : ∃ y, z ^^^ t = y := ⟨_, rfl⟩
              rw [hy1] at e1 s1
              rw [hy2] at e2 s2
              have HZ2 := Lib.hid hz2
              clear hx hz2 hc hcol ht hy1 hy2 hbs
              have i0 : (0 : Int) ≤ (k : Int) := by omega
              have i1 : (k : Int) < (m : Int) := by omega
              go_wp2_with fail
              have A1 := O1.out.store k (.int .u8 (y1 : Int))
              have A2 : Own (wi.setCell ⟨g1, k, none⟩ (.int .u8 (y1 : Int))).drew w.heap.size 5 g1 m m _ := own_below A1.1 (below_dr _ _ 1)
              have A3 : Own (wi.setCell ⟨g1, k, none⟩ (.int .u8 (y1 : Int))).drew w.heap.size 5 g2 m m _ := own_below (O2.out.kept A1.2 (fun h => hne.out h.symm)) (below_dr _ _ 1)
              have A4 : Below w.heap.size w (wi.setCell ⟨g1, k, none⟩ (.int .u8 (y1 : Int))).drew := below_drew1 (O1.out.belowStore HB.out (Nat.le_refl _) k _)
              go_region
              obtain ⟨W3, hW3⟩ : ∃ W3, (wi.setCell ⟨g1, k, none⟩ (.int .u8 (y1 : Int))).drew = W3 := ⟨_, rfl⟩
              rw [hW3] at A2 A3 A4 ⊢
              have p3 := A3.cell hkm
              simp only [Nat.lt_irrefl, if_false] at p3
              rw [HZ2.out] at p3
              have f3 := A3.frozen k
              have B1 := A3.store k (.int .u8 (y2 : Int))
              have B2 : Own (W3.setCell ⟨g2, k, none⟩ (.int .u8 (y2 : Int))).drew w.heap.size 5 g2 m m _ := own_below B1.1 (below_dr _ _ 1)
              have B3 : Own (W3.setCell ⟨g2, k, none⟩ (.int .u8 (y2 : Int))).drew w.heap.size 5 g1 m m _ := own_below (A2.kept B1.2 hne.out) (below_dr _ _ 1)
              have B4 : Below w.heap.size w (W3.setCell ⟨g2, k, none⟩ (.int .u8 (y2 : Int))).drew := below_drew1 (A3.belowStore A4 (Nat.le_refl _) k _)
              clear hW3 A1 B1 p1 f1 p2 f2 e1
              have C1 : Hid (Own (W3.setCell ⟨g2, k, none⟩ (.int .u8 (y2 : Int))).drew w.heap.size 5 g1 m m (fun j => .int .u8 (if j < k + 1 then xorN (i + 1) (left lost (colP ss j)) else xorN i (left lost (colP ss j)) : Nat))) := Lib.hid (B3.congr fun j _ => upd_row (F := fun j => xorN (i + 1) (left lost (colP ss j))) (G := fun j => xorN i (left lost (colP ss j))) s1.out j)
              have C2 : Hid (Own (W3.setCell ⟨g2, k, none⟩ (.int .u8 (y2 : Int))).drew w.heap.size 5 g2 m m (fun j => .int .u8 (if j < k + 1 then xorN (i + 1) (left lost (wtd (colP ss j))) else xorN i (left lost (wtd (colP ss j))) : Nat))) := Lib.hid (B2.congr fun j _ => upd_row (F := fun j => xorN (i + 1) (left lost (wtd (colP ss j)))) (G := fun j => xorN i (left lost (wtd (colP ss j)))) s2.out j)
              have C3 := Lib.hid B4
              clear A2 A3 A4 B2 B3 B4 O1 O2 HB
              go_wp2_with fail
              go_region_with (first
                | (go_at_call 55; (with_reducible refine (CW.out _).mono ?_); rintro e w5 ⟨rfl, rfl⟩)
                | (go_at_call 54; (with_reducible refine (CM.out _).mono ?_); rintro e w6 ⟨rfl, rfl⟩)
                | fail)
              all_goals
                go_wp2_with fail
                go_roundw
                case rel => exact ⟨k + 1, by go_num, by omega, C1, C2, C3⟩
                case measure => simp [intOf]; omega
            · obtain rfl : k = m := by omega
              have C1 : Hid (Own wi w.heap.size 5 g1 k k (fun j => .int .u8 (xorN (i + 1) (left lost (colP ss j)) : Nat))) := Lib.hid (O1.out.congr fun j hj => by rw [if_pos hj])
              have C2 : Hid (Own wi w.heap.size 5 g2 k k (fun j => .int .u8 (xorN (i + 1) (left lost (wtd (colP ss j))) : Nat))) := Lib.hid (O2.out.congr fun j hj => by rw [if_pos hj])
              have HZ := Lib.hid hz
              clear O1 O2 hz
              go_wp2_with fail
              go_roundw
              case rel => exact ⟨i + 1, by go_num, by omega, C1, C2, HB⟩
              case measure => simp [intOf]; omega
      · obtain rfl : i = n := by omega
        go_wp2_with fail
        go_ret2
        exact ⟨g1, g2, rfl, O1.out, O2.out, hne.out, HB.out⟩
end Go.Proofs.Ythnbhhfbmkklmaa
