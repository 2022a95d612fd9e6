/- slices.Clone, IndexFunc and DeleteFunc at the reference's items. (Printed by wip/tools/gen_ref2.py.) -/
import Derived.Test.YtioecklnijhjgaaPlM20
import Derived.Test.YtioecklnijhjgaaPlM23
import Derived.Lib.SliceRun
set_option linter.unusedVariables false
set_option linter.unusedSimpArgs false
namespace Go.Proofs.Ytioecklnijhjgaa
open Go.RowKit

abbrev itV (x : It) : Value := .agg #[.int .i64 (x.1 : Int), .int .i64 (x.2.1 : Int), .int .i64 (x.2.2.1 : Int), .int .i64 0, .string x.2.2.2]
def BoolW (b : Bool) (w : World) (e : Ending) (w' : World) : Prop := e = .returned (.bool b) ∧ Below w.heap.size w w'
def RowI (base : Nat) (l : List It) (n : Nat) (w : World) (e : Ending) (w' : World) : Prop :=
  ∃ ao cap, e = .returned (.slice ao n cap) ∧ w'.ownsRow base 70 5 (.slice ao n cap) n (itCells l) ∧ Below base w w'
set_option maxHeartbeats 1000000 in
set_option maxRecDepth 20000 in
theorem clone_item (l : List It) (n : Nat) (ao : Option Addr) (cap base : Nat) (w : World) (hn : n ≤ 30000000) (hl : l.length = n) (hnone : ao = none → n = 0 ∧ cap = 0) (hR : Hid (Reads w ao (itCells l))) (hb : base ≤ w.heap.size) :
    Calls Try.prog 26 #[.slice ao n cap] w (RowI base l n w) := by
  have HL : Hid ((itCells l).length = n * 5) := Lib.hid (by rw [itCells_len, hl])
  have H1 : Hid (∀ u ∈ itCells l, u.oneCell' = true) := Lib.hid (itCells_one l)
  cases ao with
  | none =>
    obtain ⟨rfl, rfl⟩ := hnone rfl
    have hx : Hid (itCells l = []) := Lib.hid (List.eq_nil_of_length_eq_zero (by rw [HL.out]))
    have heq := Lib.run_eql_slice_nil (P := Try.prog) w 31 70 none 0 0 0 0 Try.underlying31
    clear hl hnone
    go_enter Try.func26, Try.ntmps26
    go_wp2_with fail
    go_ret
    refine ⟨none, 0, rfl, ?_, Below.refl _ _⟩
    rw [hx.out]; exact World.ownsRow_nil _ _ _ _
  | some a =>
    have heq := Lib.run_eql_slice_nil (P := Try.prog) w 31 70 (some a) n cap 0 0 Try.underlying31
    clear hl hnone
    have hown : Hid ((w.alloc (.cells #[] 70)).ownsRow base 70 5 (.slice (some ⟨w.heap.size, 0, none⟩) 0 0) 0 []) := Lib.hid ⟨rfl, .inr ⟨w.heap.size, 0, #[], rfl, hb, heap_alloc_new w _, Nat.le_refl _, by unfold maxLen; omega, rfl, rfl⟩⟩
    have hR2 : Hid (Reads (w.alloc (.cells #[] 70)) (some a) (itCells l)) := Lib.hid (hR.out.alloc _)
    have hbel : Hid (Below base w (w.alloc (.cells #[] 70))) := Lib.hid ((Below.refl _ _).alloc hb _)
    go_enter Try.func26, Try.ntmps26
    go_wp2_with (at_builtin; go_must (refine app_all rfl (.tmp 5) (.tmp 6) _ rfl base 70 _ 5 48 Try.underlying31 itemInfo _ 0 [] (by rfl) hown.out (some a) n cap (itCells l) (by rfl) (fun h => by cases h) HL.out hR2.out H1.out (by unfold maxLen; omega) (by omega) (Nat.le_trans hb hbel.out.size) ?_); intro v2 w2 hown2 hgr2 hb2)
    have hown3 : w2.ownsRow base 70 5 v2 n (itCells l) := by simpa using hown2
    obtain ⟨ao2, c2, rfl, _, _, _⟩ := own_reads hown3
    have HO := Lib.hid hown3
    have HB := Lib.hid hb2
    clear hown2 hgr2 hb2 hown3
    go_wp2_with fail
    go_ret
    exact ⟨ao2, c2, rfl, HO.out, hbel.out.trans HB.out⟩
theorem itCells_set {L : List It} {i : Nat} (x : It) (hi : i < L.length) : itCells (L.set i x) = (((((itCells L).set (i * 5) (.int .i64 (x.1 : Int))).set (i * 5 + 1) (.int .i64 (x.2.1 : Int))).set (i * 5 + 2) (.int .i64 (x.2.2.1 : Int))).set (i * 5 + 3) (.int .i64 0)).set (i * 5 + 4) (.string x.2.2.2) := by
  induction L generalizing i with
  | nil => simp at hi
  | cons y t ih =>
    have e : ∀ (z : It) (m : List It), itCells (z :: m) = itC z ++ itCells m := fun z m => by simp [itCells]
    cases i with
    | zero =>
      rw [List.set_cons_zero, e, e]
      rfl
    | succ i =>
      have hi2 : i < t.length := by simpa using hi
      rw [List.set_cons_succ, e, e, ih hi2]
      have h5 : (itC y).length = 5 := rfl
      rw [List.set_append_right _ _ (by rw [h5]; omega), List.set_append_right _ _ (by rw [h5]; omega), List.set_append_right _ _ (by rw [h5]; omega), List.set_append_right _ _ (by rw [h5]; omega), List.set_append_right _ _ (by rw [h5]; omega), h5]
      rw [show (i + 1) * 5 - 5 = i * 5 by omega, show (i + 1) * 5 + 1 - 5 = i * 5 + 1 by omega, show (i + 1) * 5 + 2 - 5 = i * 5 + 2 by omega, show (i + 1) * 5 + 3 - 5 = i * 5 + 3 by omega, show (i + 1) * 5 + 4 - 5 = i * 5 + 4 by omega]
def IdxI (p : It → Bool) (l : List It) (r : Int) : Prop := (∃ (j : Nat) (x : It), l[j]? = some x ∧ p x = true ∧ (∀ (i : Nat) (y : It), i < j → l[i]? = some y → p y = false) ∧ r = j) ∨ ((∀ x ∈ l, p x = false) ∧ r = -1)
def IdxP (p : It → Bool) (l : List It) (w : World) (e : Ending) (w' : World) : Prop := ∃ r : Int, e = .returned (.int .i64 r) ∧ IdxI p l r ∧ Below w.heap.size w w'
/-- What DeleteFunc keeps. -/
def leftI (p : It → Bool) (l : List It) : List It := l.filter (fun x => !p x)
theorem leftI_snoc {p : It → Bool} {l : List It} {j : Nat} {x : It} (h : l[j]? = some x) : leftI p (l.take (j + 1)) = if p x = true then leftI p (l.take j) else leftI p (l.take j) ++ [x] := by
  obtain ⟨hq, he⟩ := List.getElem?_eq_some_iff.1 h
  unfold leftI
  rw [List.take_succ_eq_append_getElem hq, he, List.filter_append]
  by_cases hx : p x = true
  · rw [if_pos hx]; simp [hx]
  · rw [if_neg hx]; simp [hx]
theorem leftI_first {p : It → Bool} {l : List It} {j : Nat} (h : ∀ (i : Nat) (y : It), i < j → l[i]? = some y → p y = false) (hj : j ≤ l.length) : leftI p (l.take j) = l.take j := by
  unfold leftI
  rw [List.filter_eq_self]
  intro x hx
  obtain ⟨i, hi⟩ := List.getElem?_of_mem hx
  rw [List.getElem?_take] at hi
  split at hi
  · rename_i hij
    rw [h i x hij hi]; rfl
  · cases hi
theorem drop_at_get {l m : List It} {j : Nat} (h : l.drop j = m.drop j) {x : It} (hx : m[j]? = some x) : l[j]? = some x := by
  have := congrArg (fun z => z[0]?) h
  simp only [List.getElem?_drop, Nat.add_zero] at this
  rw [this, hx]
theorem zero_item : ∀ w, (zeroValue 70).run Try.prog w = .ok (.agg #[.int .i64 0, .int .i64 0, .int .i64 0, .int .i64 0, .string ByteArray.empty]) w := Try.zeroValue70
theorem own_capI {w : World} {base e size : Nat} {ao : Option Addr} {n m cap : Nat} {xs : List Value} (h : w.ownsRow base e size (.slice ao n cap) m xs) : n ≤ cap ∧ cap ≤ maxLen := by
  rcases h.2 with ⟨hv, _⟩ | ⟨g, c, cur, hv, _, _, h1, h2, _⟩
  · cases hv; exact ⟨Nat.le_refl _, by unfold maxLen; omega⟩
  · cases hv; exact ⟨h1, h2⟩
theorem run_wo (x c d : Value) (W : World) : (callFunc 66 #[x, c, d]).run Try.prog W = .ok (.enter 66 #[x, c, d]) W := by kernel_rfl
set_option maxRecDepth 20000 in
set_option maxHeartbeats 1000000 in
theorem index_wo (c d : Value) (p : It → Bool) (l : List It) (n : Nat) (ao : Option Addr) (cap : Nat) (w : World) (hl : l.length = n) (hn : n ≤ 30000000) (hR : Hid (Reads w ao (itCells l)))
    (hf : Hid (∀ x ∈ l, ∀ W, Below w.heap.size w W → Calls Try.prog 66 #[itV x, c, d] W (BoolW (p x) W))) :
    Calls Try.prog 51 #[.slice ao n cap, .func (.func 66) #[] #[c, d]] w (IdxP p l w) := by
  have HL := Lib.hid hl
  have hfn := run_wo
  unfold BoolW at hf
  clear hl
  go_enter Try.func51, Try.ntmps51
  go_wp2_with fail
  go_loopw [8] (fun vi wr => ∃ k : Nat, vi = .int .i64 k ∧ k ≤ n ∧ Hid (∀ (i : Nat) (y : It), i < k → l[i]? = some y → p y = false) ∧ Hid (Below w.heap.size w wr)) (fun vi _ => n - (intOf vi).toNat)
  case atStart => exact ⟨0, rfl, by omega, Lib.hid (by intro j y hj; omega), Lib.hid (Below.refl _ _)⟩
  case round =>
    obtain ⟨k, rfl, hk, hno, HB⟩ := hrel
    obtain ⟨wo, rfl⟩ : ∃ wo, wo = wr := ⟨_, rfl⟩
    by_cases hkl : k < n
    · obtain ⟨x, hx⟩ : ∃ x, l[k]? = some x := ⟨l[k]'(by rw [HL.out]; exact hkl), List.getElem?_eq_getElem _⟩
      obtain ⟨b, o, rfl, z0, z1, z2, z3, z4⟩ := it_cells (hR.out.below HB.out) hx
      have HX := Lib.hid hx
      have C := Lib.hid (hf.out x (List.mem_of_getElem? hx) wo HB.out)
      cases hp : p x with
      | true =>
        rw [hp] at C
        have HP := Lib.hid hp
        clear hx hp
        go_wp2_with fail
        (with_reducible refine C.out.mono ?_)
        rintro e w' ⟨rfl, hb⟩
        have HB1 := Lib.hid (HB.out.trans (hb.mono HB.out.size))
        clear hb C
        go_wp2_with fail
        go_ret
        exact ⟨_, rfl, .inl ⟨k, x, HX.out, HP.out, hno.out, rfl⟩, HB1.out⟩
      | false =>
        rw [hp] at C
        have HP := Lib.hid hp
        clear hx hp
        go_wp2_with fail
        (with_reducible refine C.out.mono ?_)
        rintro e w' ⟨rfl, hb⟩
        have HB1 := Lib.hid (HB.out.trans (hb.mono HB.out.size))
        clear hb C
        go_wp2_with fail
        go_roundw
        case rel => exact ⟨k + 1, by go_num, by omega, Lib.hid (by
          intro i y hi hy
          by_cases he : i = k
          · subst he; rw [HX.out] at hy; cases hy; exact HP.out
          · exact hno.out i y (by omega) hy), HB1⟩
        case measure => simp [intOf]; omega
    · obtain rfl : n = k := by omega
      go_wp2_with fail
      go_ret
      refine ⟨_, rfl, .inr ⟨fun x hx => ?_, rfl⟩, HB.out⟩
      obtain ⟨j, hj⟩ := List.getElem?_of_mem hx
      exact hno.out j x (by have := (List.getElem?_eq_some_iff.1 hj).1; have := HL.out; omega) hj
set_option maxRecDepth 20000 in
set_option maxHeartbeats 2000000 in
theorem delete_wo (c d : Value) (p : It → Bool) (l : List It) (n : Nat) (ao : Option Addr) (cap base : Nat) (w : World) (hl : l.length = n) (hn : n ≤ 30000000) (ho : w.ownsRow base 70 5 (.slice ao n cap) n (itCells l)) (hbase : base ≤ w.heap.size)
    (hf : Hid (∀ x ∈ l, ∀ W, Below base w W → Calls Try.prog 66 #[itV x, c, d] W (BoolW (p x) W))) :
    Calls Try.prog 25 #[.slice ao n cap, .func (.func 66) #[] #[c, d]] w (RowI base (leftI p l) (leftI p l).length w) := by
  have HR := Lib.hid (own_reads' ho)
  have CI := Lib.hid (index_wo c d p l n ao cap w hl hn HR (Lib.hid fun x hx W hb => hf.out x hx W (hb.mono hbase)))
  unfold IdxP at CI
  have HO := Lib.hid ho
  have HL := Lib.hid hl
  have hfn := run_wo
  have HBASE := Lib.hid hbase
  clear hl ho hbase
  go_enter Try.func25, Try.ntmps25
  go_wp2_with fail
  (with_reducible refine CI.out.mono ?_)
  rintro e w1 ⟨r, rfl, hr, hb1⟩
  have HO1 := Lib.hid (own_below HO.out hb1)
  have HB1 := Lib.hid (hb1.mono HBASE.out)
  clear hb1
  rcases hr with ⟨i0, x0, hx0, hp0, hno, rfl⟩ | ⟨hall, rfl⟩
  rotate_left
  · have he : leftI p l = l := by
      unfold leftI
      rw [List.filter_eq_self]
      intro x hx
      rw [hall x hx]; rfl
    have HE := Lib.hid he
    clear he hall
    go_wp2_with fail
    go_ret
    exact ⟨ao, cap, by rw [HE.out, HL.out]; rfl, by rw [HE.out, HL.out]; exact HO1.out, HB1.out⟩
  have hi0 := (List.getElem?_eq_some_iff.1 hx0).1
  rw [HL.out] at hi0
  obtain ⟨g, rfl⟩ : ∃ g, ao = some ⟨g, 0, none⟩ := by
    obtain ⟨g, c', hv⟩ := own_form HO1.out (by
      intro h0
      have := congrArg List.length h0
      rw [itCells_len, HL.out] at this
      simp at this
      omega)
    exact ⟨g, by injection hv⟩
  have t0 : ((i0 : Int) == -1) = false := by rw [beq_eq_false_iff_ne]; omega
  have hs0 := leftI_snoc (p := p) hx0
  rw [if_pos hp0, leftI_first hno (by rw [HL.out]; omega)] at hs0
  have HS0 := Lib.hid hs0
  clear hs0 hno hp0 hx0 CI
  go_wp2_with fail
  go_loopw [5, 6] (fun vi vj wr => ∃ (i j : Nat) (L : List It), vi = .int .i64 i ∧ vj = .int .i64 j ∧ i < j ∧ j ≤ n ∧ Hid (L.length = n) ∧ Hid ((leftI p (l.take j)).length = i) ∧ Hid (L.take i = leftI p (l.take j)) ∧ Hid (L.drop j = l.drop j) ∧ Hid (wr.ownsRow base 70 5 (.slice (some ⟨g, 0, none⟩) n cap) n (itCells L)) ∧ Hid (Below base w wr)) (fun _ vj _ => n - (intOf vj).toNat)
  case atStart => exact ⟨i0, i0 + 1, l, rfl, by go_num, by omega, by omega, HL, Lib.hid (by rw [HS0.out, List.length_take, HL.out]; omega), Lib.hid HS0.out.symm, Lib.hid rfl, HO1, HB1⟩
  case round =>
    clear HO1 HB1
    obtain ⟨i, j, L, rfl, rfl, hij, hj, HLL, HI, HT, HDR, HOr, HB⟩ := hrel
    obtain ⟨wo, rfl⟩ : ∃ wo, wo = wr := ⟨_, rfl⟩
    have hcap := (own_capI HOr.out).1
    have hcap2 := (own_capI HOr.out).2
    by_cases hjn : j < n
    · obtain ⟨x, hx⟩ : ∃ x, l[j]? = some x := ⟨l[j]'(by rw [HL.out]; exact hjn), List.getElem?_eq_getElem _⟩
      have hxL := drop_at_get HDR.out hx
      obtain ⟨ba, oa, hra, z0, z1, z2, z3, z4⟩ := it_cells (own_reads' HOr.out) hxL
      cases hra
      simp only [Nat.zero_add] at z0 z1 z2 z3 z4
      have hsn := leftI_snoc (p := p) hx
      have HX := Lib.hid hx
      have hbx := below_alloc wo (.cells #[.int .i64 (x.1 : Int), .int .i64 (x.2.1 : Int), .int .i64 (x.2.2.1 : Int), .int .i64 0, .string x.2.2.2] 70)
      have HBX := Lib.hid hbx
      have HBw : Hid (Below base w (wo.alloc (.cells #[.int .i64 (x.1 : Int), .int .i64 (x.2.1 : Int), .int .i64 (x.2.2.1 : Int), .int .i64 0, .string x.2.2.2] 70))) := Lib.hid (HB.out.trans (hbx.mono (Nat.le_trans HBASE.out HB.out.size)))
      have C := Lib.hid (hf.out x (List.mem_of_getElem? hx) _ HBw.out)
      unfold BoolW at C
      have n0 : (wo.alloc (.cells #[.int .i64 (x.1 : Int), .int .i64 (x.2.1 : Int), .int .i64 (x.2.2.1 : Int), .int .i64 0, .string x.2.2.2] 70)).cell? ⟨wo.heap.size, 0, none⟩ = some (.int .i64 (x.1 : Int)) := by simp [World.cell?_alloc_new]
      have n1 : (wo.alloc (.cells #[.int .i64 (x.1 : Int), .int .i64 (x.2.1 : Int), .int .i64 (x.2.2.1 : Int), .int .i64 0, .string x.2.2.2] 70)).cell? ⟨wo.heap.size, 1, none⟩ = some (.int .i64 (x.2.1 : Int)) := by simp [World.cell?_alloc_new]
      have n2 : (wo.alloc (.cells #[.int .i64 (x.1 : Int), .int .i64 (x.2.1 : Int), .int .i64 (x.2.2.1 : Int), .int .i64 0, .string x.2.2.2] 70)).cell? ⟨wo.heap.size, 2, none⟩ = some (.int .i64 (x.2.2.1 : Int)) := by simp [World.cell?_alloc_new]
      have n3 : (wo.alloc (.cells #[.int .i64 (x.1 : Int), .int .i64 (x.2.1 : Int), .int .i64 (x.2.2.1 : Int), .int .i64 0, .string x.2.2.2] 70)).cell? ⟨wo.heap.size, 3, none⟩ = some (.int .i64 0) := by simp [World.cell?_alloc_new]
      have n4 : (wo.alloc (.cells #[.int .i64 (x.1 : Int), .int .i64 (x.2.1 : Int), .int .i64 (x.2.2.1 : Int), .int .i64 0, .string x.2.2.2] 70)).cell? ⟨wo.heap.size, 4, none⟩ = some (.string x.2.2.2) := by simp [World.cell?_alloc_new]
      have HNN := Lib.hid (And.intro n0 (And.intro n1 (And.intro n2 (And.intro n3 n4))))
      have HSZ : Hid ((wo.alloc (.cells #[.int .i64 (x.1 : Int), .int .i64 (x.2.1 : Int), .int .i64 (x.2.2.1 : Int), .int .i64 0, .string x.2.2.2] 70)).heap.size = wo.heap.size + 1) := Lib.hid (by simp)
      cases hp : p x with
      | true =>
        rw [hp] at C hsn
        rw [if_pos rfl] at hsn
        have HSN := Lib.hid hsn
        clear hx hxL hsn hbx hp n0 n1 n2 n3 n4
        go_wp2_with fail
        (with_reducible refine C.out.mono ?_)
        rintro e w2 ⟨rfl, hb2⟩
        have hbo : Below wo.heap.size wo w2 := HBX.out.trans (hb2.mono (by rw [HSZ.out]; omega))
        have HO2 := Lib.hid (own_below HOr.out hbo)
        have HB2 : Hid (Below base w w2) := Lib.hid (HB.out.trans (hbo.mono (Nat.le_trans HBASE.out HB.out.size)))
        clear hb2 hbo C
        go_wp2_with fail
        go_roundw
        case rel => exact ⟨i, j + 1, L, rfl, by go_num, by omega, by omega, HLL, Lib.hid (by rw [HSN.out]; exact HI.out), Lib.hid (by rw [HSN.out]; exact HT.out), Lib.hid (by rw [← List.drop_drop, HDR.out, List.drop_drop]), HO2, HB2⟩
        case measure => simp [intOf]; omega
      | false =>
        rw [hp] at C hsn
        rw [if_neg (by simp)] at hsn
        have HSN := Lib.hid hsn
        clear hx hxL hsn hbx hp n0 n1 n2 n3 n4
        go_wp2_with fail
        (with_reducible refine C.out.mono ?_)
        rintro e w2 ⟨rfl, hb2⟩
        have hlt : wo.heap.size < (wo.alloc (.cells #[.int .i64 (x.1 : Int), .int .i64 (x.2.1 : Int), .int .i64 (x.2.2.1 : Int), .int .i64 0, .string x.2.2.2] 70)).heap.size := by rw [HSZ.out]; omega
        have m0 := (hb2.cell (p := ⟨wo.heap.size, 0, none⟩) hlt).trans HNN.out.1
        have m1 := (hb2.cell (p := ⟨wo.heap.size, 1, none⟩) hlt).trans HNN.out.2.1
        have m2 := (hb2.cell (p := ⟨wo.heap.size, 2, none⟩) hlt).trans HNN.out.2.2.1
        have m3 := (hb2.cell (p := ⟨wo.heap.size, 3, none⟩) hlt).trans HNN.out.2.2.2.1
        have m4 := (hb2.cell (p := ⟨wo.heap.size, 4, none⟩) hlt).trans HNN.out.2.2.2.2
        have hbo : Below wo.heap.size wo w2 := HBX.out.trans (hb2.mono (by rw [HSZ.out]; omega))
        have hO2 := own_below HOr.out hbo
        have HB2 : Hid (Below base w w2) := Lib.hid (HB.out.trans (hbo.mono (Nat.le_trans HBASE.out HB.out.size)))
        have hiL : i < L.length := by rw [HLL.out]; omega
        obtain ⟨y, hy⟩ : ∃ y, L[i]? = some y := ⟨L[i], List.getElem?_eq_getElem hiL⟩
        obtain ⟨bb, ob, hrb, s0, s1, s2, s3, s4⟩ := it_cells (own_reads' hO2) hy
        cases hrb
        simp only [Nat.zero_add] at s0 s1 s2 s3 s4
        have f0 := World.ownsRow.frozenAt hO2 (i * 5)
        have f1 := World.ownsRow.frozenAt hO2 (i * 5 + 1)
        have f2 := World.ownsRow.frozenAt hO2 (i * 5 + 2)
        have f3 := World.ownsRow.frozenAt hO2 (i * 5 + 3)
        have f4 := World.ownsRow.frozenAt hO2 (i * 5 + 4)
        have hg := (hO2.lt g rfl).1
        have k0 := World.ownsRow.stored hO2 (i * 5) (.int .i64 (x.1 : Int))
        have k1 := World.ownsRow.stored k0.1 (i * 5 + 1) (.int .i64 (x.2.1 : Int))
        have k2 := World.ownsRow.stored k1.1 (i * 5 + 2) (.int .i64 (x.2.2.1 : Int))
        have k3 := World.ownsRow.stored k2.1 (i * 5 + 3) (.int .i64 0)
        have k4 := World.ownsRow.stored k3.1 (i * 5 + 4) (.string x.2.2.2)
        have HO5 := Lib.hid k4.1
        rw [← itCells_set x hiL] at HO5
        have HB5 : Hid (Below base w (((((w2.setCell ⟨g, i * 5, none⟩ (.int .i64 (x.1 : Int))).setCell ⟨g, i * 5 + 1, none⟩ (.int .i64 (x.2.1 : Int))).setCell ⟨g, i * 5 + 2, none⟩ (.int .i64 (x.2.2.1 : Int))).setCell ⟨g, i * 5 + 3, none⟩ (.int .i64 0)).setCell ⟨g, i * 5 + 4, none⟩ (.string x.2.2.2))) := Lib.hid (below_set (below_set (below_set (below_set (below_set HB2.out hg _) hg _) hg _) hg _) hg _)
        have i1 : (0 : Int) ≤ (i : Int) := by omega
        have i2 : (i : Int) < (n : Int) := by omega
        have HIL := Lib.hid hiL
        clear hb2 hbo hO2 hy k0 k1 k2 k3 k4 hlt hiL C
        go_wp2_with fail
        go_roundw
        case rel => exact ⟨i + 1, j + 1, L.set i x, by go_num, by go_num, by omega, by omega, Lib.hid (by rw [List.length_set]; exact HLL.out), Lib.hid (by rw [HSN.out, List.length_append, HI.out]; rfl), Lib.hid (by
          rw [HSN.out, ← HT.out]
          rw [List.take_succ_eq_append_getElem (by rw [List.length_set]; exact HIL.out), List.getElem_set_self]
          congr 1
          rw [List.take_set]
          rw [List.set_eq_of_length_le (by rw [List.length_take]; omega)]), Lib.hid (by
          rw [List.drop_set_of_lt (by omega)]
          rw [← List.drop_drop, HDR.out, List.drop_drop]), HO5, HB5⟩
        case measure => simp [intOf]; omega
    · obtain rfl : n = j := by omega
      obtain ⟨vs, hclr⟩ := run_clear (P := Try.prog) wo 31 70 0 _ Try.underlying31 zero_item 5 rfl (by intro u hu; simp [Value.cells] at hu; rcases hu with rfl | rfl | rfl | rfl | rfl <;> rfl) g (i * 5) (n - i) (cap - i) (by omega) (fun q hq => own_at HOr.out (by omega)) (fun q _ => World.ownsRow.frozenAt HOr.out _)
      obtain ⟨xs2, hx1, hx2, hx3⟩ := stored_cells vs (i * 5) wo _ HOr.out
      have hsh := own_shrink (i := i) hx1 (by omega)
      rw [hx2] at hsh
      have hLT : (itCells L).take (i * 5) = itCells (leftI p l) := by
        have e : L = L.take i ++ L.drop i := (List.take_append_drop i L).symm
        have h5 : (itCells (L.take i)).length = i * 5 := by rw [itCells_len, List.length_take, HLL.out, Nat.min_eq_left (by omega)]
        have e2 : itCells L = itCells (L.take i) ++ itCells (L.drop i) := by rw [← itCells_append, ← e]
        rw [e2, ← h5, List.take_left]
        rw [HT.out, List.take_of_length_le (by rw [HL.out]; exact Nat.le_refl _)]
      rw [hLT] at hsh
      have HSH := Lib.hid hsh
      have HLEN : Hid ((leftI p l).length = i) := Lib.hid (by
        have := HI.out
        rw [List.take_of_length_le (by rw [HL.out]; exact Nat.le_refl _)] at this
        exact this)
      have HBZ : Hid (Below base w (wo.setCells g (i * 5) vs)) := Lib.hid (HB.out.trans ((Below.refl base wo).grown hx3 (Nat.le_trans HBASE.out HB.out.size) fun q hq => by cases hq; exact (HOr.out.lt g rfl).1))
      have hic : i < cap := by omega
      have hic' : (i : Int) < (cap : Int) := by omega
      have hin : (i : Int) ≤ (n : Int) := by omega
      have hin' : i ≤ n := by omega
      have hne : ¬ (cap = i) := by omega
      have i0 : (0 : Int) ≤ (i : Int) := by omega
      have hnc : (n : Int) ≤ (cap : Int) := by omega
      have hicc : (i : Int) ≤ (cap : Int) := by omega
      clear hx1 hx2 hx3 hsh hLT
      go_wp2_with fail
      go_ret
      exact ⟨some ⟨g, 0, none⟩, cap, by rw [HLEN.out]; rfl, by rw [HLEN.out]; exact HSH.out, HBZ.out⟩
theorem run_dx (x c : Value) (W : World) : (callFunc 27 #[x, c]).run Try.prog W = .ok (.enter 27 #[x, c]) W := by kernel_rfl
set_option maxRecDepth 20000 in
set_option maxHeartbeats 1000000 in
theorem index_dx (c : Value) (p : It → Bool) (l : List It) (n : Nat) (ao : Option Addr) (cap : Nat) (w : World) (hl : l.length = n) (hn : n ≤ 30000000) (hR : Hid (Reads w ao (itCells l)))
    (hf : Hid (∀ x ∈ l, ∀ W, Below w.heap.size w W → Calls Try.prog 27 #[itV x, c] W (BoolW (p x) W))) :
    Calls Try.prog 51 #[.slice ao n cap, .func (.func 27) #[] #[c]] w (IdxP p l w) := by
  have HL := Lib.hid hl
  have hfn := run_dx
  unfold BoolW at hf
  clear hl
  go_enter Try.func51, Try.ntmps51
  go_wp2_with fail
  go_loopw [8] (fun vi wr => ∃ k : Nat, vi = .int .i64 k ∧ k ≤ n ∧ Hid (∀ (i : Nat) (y : It), i < k → l[i]? = some y → p y = false) ∧ Hid (Below w.heap.size w wr)) (fun vi _ => n - (intOf vi).toNat)
  case atStart => exact ⟨0, rfl, by omega, Lib.hid (by intro j y hj; omega), Lib.hid (Below.refl _ _)⟩
  case round =>
    obtain ⟨k, rfl, hk, hno, HB⟩ := hrel
    obtain ⟨wo, rfl⟩ : ∃ wo, wo = wr := ⟨_, rfl⟩
    by_cases hkl : k < n
    · obtain ⟨x, hx⟩ : ∃ x, l[k]? = some x := ⟨l[k]'(by rw [HL.out]; exact hkl), List.getElem?_eq_getElem _⟩
      obtain ⟨b, o, rfl, z0, z1, z2, z3, z4⟩ := it_cells (hR.out.below HB.out) hx
      have HX := Lib.hid hx
      have C := Lib.hid (hf.out x (List.mem_of_getElem? hx) wo HB.out)
      cases hp : p x with
      | true =>
        rw [hp] at C
        have HP := Lib.hid hp
        clear hx hp
        go_wp2_with fail
        (with_reducible refine C.out.mono ?_)
        rintro e w' ⟨rfl, hb⟩
        have HB1 := Lib.hid (HB.out.trans (hb.mono HB.out.size))
        clear hb C
        go_wp2_with fail
        go_ret
        exact ⟨_, rfl, .inl ⟨k, x, HX.out, HP.out, hno.out, rfl⟩, HB1.out⟩
      | false =>
        rw [hp] at C
        have HP := Lib.hid hp
        clear hx hp
        go_wp2_with fail
        (with_reducible refine C.out.mono ?_)
        rintro e w' ⟨rfl, hb⟩
        have HB1 := Lib.hid (HB.out.trans (hb.mono HB.out.size))
        clear hb C
        go_wp2_with fail
        go_roundw
        case rel => exact ⟨k + 1, by go_num, by omega, Lib.hid (by
          intro i y hi hy
          by_cases he : i = k
          · subst he; rw [HX.out] at hy; cases hy; exact HP.out
          · exact hno.out i y (by omega) hy), HB1⟩
        case measure => simp [intOf]; omega
    · obtain rfl : n = k := by omega
      go_wp2_with fail
      go_ret
      refine ⟨_, rfl, .inr ⟨fun x hx => ?_, rfl⟩, HB.out⟩
      obtain ⟨j, hj⟩ := List.getElem?_of_mem hx
      exact hno.out j x (by have := (List.getElem?_eq_some_iff.1 hj).1; have := HL.out; omega) hj
set_option maxRecDepth 20000 in
set_option maxHeartbeats 2000000 in
theorem delete_dx (c : Value) (p : It → Bool) (l : List It) (n : Nat) (ao : Option Addr) (cap base : Nat) (w : World) (hl : l.length = n) (hn : n ≤ 30000000) (ho : w.ownsRow base 70 5 (.slice ao n cap) n (itCells l)) (hbase : base ≤ w.heap.size)
    (hf : Hid (∀ x ∈ l, ∀ W, Below base w W → Calls Try.prog 27 #[itV x, c] W (BoolW (p x) W))) :
    Calls Try.prog 25 #[.slice ao n cap, .func (.func 27) #[] #[c]] w (RowI base (leftI p l) (leftI p l).length w) := by
  have HR := Lib.hid (own_reads' ho)
  have CI := Lib.hid (index_dx c p l n ao cap w hl hn HR (Lib.hid fun x hx W hb => hf.out x hx W (hb.mono hbase)))
  unfold IdxP at CI
  have HO := Lib.hid ho
  have HL := Lib.hid hl
  have hfn := run_dx
  have HBASE := Lib.hid hbase
  clear hl ho hbase
  go_enter Try.func25, Try.ntmps25
  go_wp2_with fail
  (with_reducible refine CI.out.mono ?_)
  rintro e w1 ⟨r, rfl, hr, hb1⟩
  have HO1 := Lib.hid (own_below HO.out hb1)
  have HB1 := Lib.hid (hb1.mono HBASE.out)
  clear hb1
  rcases hr with ⟨i0, x0, hx0, hp0, hno, rfl⟩ | ⟨hall, rfl⟩
  rotate_left
  · have he : leftI p l = l := by
      unfold leftI
      rw [List.filter_eq_self]
      intro x hx
      rw [hall x hx]; rfl
    have HE := Lib.hid he
    clear he hall
    go_wp2_with fail
    go_ret
    exact ⟨ao, cap, by rw [HE.out, HL.out]; rfl, by rw [HE.out, HL.out]; exact HO1.out, HB1.out⟩
  have hi0 := (List.getElem?_eq_some_iff.1 hx0).1
  rw [HL.out] at hi0
  obtain ⟨g, rfl⟩ : ∃ g, ao = some ⟨g, 0, none⟩ := by
    obtain ⟨g, c', hv⟩ := own_form HO1.out (by
      intro h0
      have := congrArg List.length h0
      rw [itCells_len, HL.out] at this
      simp at this
      omega)
    exact ⟨g, by injection hv⟩
  have t0 : ((i0 : Int) == -1) = false := by rw [beq_eq_false_iff_ne]; omega
  have hs0 := leftI_snoc (p := p) hx0
  rw [if_pos hp0, leftI_first hno (by rw [HL.out]; omega)] at hs0
  have HS0 := Lib.hid hs0
  clear hs0 hno hp0 hx0 CI
  go_wp2_with fail
  go_loopw [5, 6] (fun vi vj wr => ∃ (i j : Nat) (L : List It), vi = .int .i64 i ∧ vj = .int .i64 j ∧ i < j ∧ j ≤ n ∧ Hid (L.length = n) ∧ Hid ((leftI p (l.take j)).length = i) ∧ Hid (L.take i = leftI p (l.take j)) ∧ Hid (L.drop j = l.drop j) ∧ Hid (wr.ownsRow base 70 5 (.slice (some ⟨g, 0, none⟩) n cap) n (itCells L)) ∧ Hid (Below base w wr)) (fun _ vj _ => n - (intOf vj).toNat)
  case atStart => exact ⟨i0, i0 + 1, l, rfl, by go_num, by omega, by omega, HL, Lib.hid (by rw [HS0.out, List.length_take, HL.out]; omega), Lib.hid HS0.out.symm, Lib.hid rfl, HO1, HB1⟩
  case round =>
    clear HO1 HB1
    obtain ⟨i, j, L, rfl, rfl, hij, hj, HLL, HI, HT, HDR, HOr, HB⟩ := hrel
    obtain ⟨wo, rfl⟩ : ∃ wo, wo = wr := ⟨_, rfl⟩
    have hcap := (own_capI HOr.out).1
    have hcap2 := (own_capI HOr.out).2
    by_cases hjn : j < n
    · obtain ⟨x, hx⟩ : ∃ x, l[j]? = some x := ⟨l[j]'(by rw [HL.out]; exact hjn), List.getElem?_eq_getElem _⟩
      have hxL := drop_at_get HDR.out hx
      obtain ⟨ba, oa, hra, z0, z1, z2, z3, z4⟩ := it_cells (own_reads' HOr.out) hxL
      cases hra
      simp only [Nat.zero_add] at z0 z1 z2 z3 z4
      have hsn := leftI_snoc (p := p) hx
      have HX := Lib.hid hx
      have hbx := below_alloc wo (.cells #[.int .i64 (x.1 : Int), .int .i64 (x.2.1 : Int), .int .i64 (x.2.2.1 : Int), .int .i64 0, .string x.2.2.2] 70)
      have HBX := Lib.hid hbx
      have HBw : Hid (Below base w (wo.alloc (.cells #[.int .i64 (x.1 : Int), .int .i64 (x.2.1 : Int), .int .i64 (x.2.2.1 : Int), .int .i64 0, .string x.2.2.2] 70))) := Lib.hid (HB.out.trans (hbx.mono (Nat.le_trans HBASE.out HB.out.size)))
      have C := Lib.hid (hf.out x (List.mem_of_getElem? hx) _ HBw.out)
      unfold BoolW at C
      have n0 : (wo.alloc (.cells #[.int .i64 (x.1 : Int), .int .i64 (x.2.1 : Int), .int .i64 (x.2.2.1 : Int), .int .i64 0, .string x.2.2.2] 70)).cell? ⟨wo.heap.size, 0, none⟩ = some (.int .i64 (x.1 : Int)) := by simp [World.cell?_alloc_new]
      have n1 : (wo.alloc (.cells #[.int .i64 (x.1 : Int), .int .i64 (x.2.1 : Int), .int .i64 (x.2.2.1 : Int), .int .i64 0, .string x.2.2.2] 70)).cell? ⟨wo.heap.size, 1, none⟩ = some (.int .i64 (x.2.1 : Int)) := by simp [World.cell?_alloc_new]
      have n2 : (wo.alloc (.cells #[.int .i64 (x.1 : Int), .int .i64 (x.2.1 : Int), .int .i64 (x.2.2.1 : Int), .int .i64 0, .string x.2.2.2] 70)).cell? ⟨wo.heap.size, 2, none⟩ = some (.int .i64 (x.2.2.1 : Int)) := by simp [World.cell?_alloc_new]
      have n3 : (wo.alloc (.cells #[.int .i64 (x.1 : Int), .int .i64 (x.2.1 : Int), .int .i64 (x.2.2.1 : Int), .int .i64 0, .string x.2.2.2] 70)).cell? ⟨wo.heap.size, 3, none⟩ = some (.int .i64 0) := by simp [World.cell?_alloc_new]
      have n4 : (wo.alloc (.cells #[.int .i64 (x.1 : Int), .int .i64 (x.2.1 : Int), .int .i64 (x.2.2.1 : Int), .int .i64 0, .string x.2.2.2] 70)).cell? ⟨wo.heap.size, 4, none⟩ = some (.string x.2.2.2) := by simp [World.cell?_alloc_new]
      have HNN := Lib.hid (And.intro n0 (And.intro n1 (And.intro n2 (And.intro n3 n4))))
      have HSZ : Hid ((wo.alloc (.cells #[.int .i64 (x.1 : Int), .int .i64 (x.2.1 : Int), .int .i64 (x.2.2.1 : Int), .int .i64 0, .string x.2.2.2] 70)).heap.size = wo.heap.size + 1) := Lib.hid (by simp)
      cases hp : p x with
      | true =>
        rw [hp] at C hsn
        rw [if_pos rfl] at hsn
        have HSN := Lib.hid hsn
        clear hx hxL hsn hbx hp n0 n1 n2 n3 n4
        go_wp2_with fail
        (with_reducible refine C.out.mono ?_)
        rintro e w2 ⟨rfl, hb2⟩
        have hbo : Below wo.heap.size wo w2 := HBX.out.trans (hb2.mono (by rw [HSZ.out]; omega))
        have HO2 := Lib.hid (own_below HOr.out hbo)
        have HB2 : Hid (Below base w w2) := Lib.hid (HB.out.trans (hbo.mono (Nat.le_trans HBASE.out HB.out.size)))
        clear hb2 hbo C
        go_wp2_with fail
        go_roundw
        case rel => exact ⟨i, j + 1, L, rfl, by go_num, by omega, by omega, HLL, Lib.hid (by rw [HSN.out]; exact HI.out), Lib.hid (by rw [HSN.out]; exact HT.out), Lib.hid (by rw [← List.drop_drop, HDR.out, List.drop_drop]), HO2, HB2⟩
        case measure => simp [intOf]; omega
      | false =>
        rw [hp] at C hsn
        rw [if_neg (by simp)] at hsn
        have HSN := Lib.hid hsn
        clear hx hxL hsn hbx hp n0 n1 n2 n3 n4
        go_wp2_with fail
        (with_reducible refine C.out.mono ?_)
        rintro e w2 ⟨rfl, hb2⟩
        have hlt : wo.heap.size < (wo.alloc (.cells #[.int .i64 (x.1 : Int), .int .i64 (x.2.1 : Int), .int .i64 (x.2.2.1 : Int), .int .i64 0, .string x.2.2.2] 70)).heap.size := by rw [HSZ.out]; omega
        have m0 := (hb2.cell (p := ⟨wo.heap.size, 0, none⟩) hlt).trans HNN.out.1
        have m1 := (hb2.cell (p := ⟨wo.heap.size, 1, none⟩) hlt).trans HNN.out.2.1
        have m2 := (hb2.cell (p := ⟨wo.heap.size, 2, none⟩) hlt).trans HNN.out.2.2.1
        have m3 := (hb2.cell (p := ⟨wo.heap.size, 3, none⟩) hlt).trans HNN.out.2.2.2.1
        have m4 := (hb2.cell (p := ⟨wo.heap.size, 4, none⟩) hlt).trans HNN.out.2.2.2.2
        have hbo : Below wo.heap.size wo w2 := HBX.out.trans (hb2.mono (by rw [HSZ.out]; omega))
        have hO2 := own_below HOr.out hbo
        have HB2 : Hid (Below base w w2) := Lib.hid (HB.out.trans (hbo.mono (Nat.le_trans HBASE.out HB.out.size)))
        have hiL : i < L.length := by rw [HLL.out]; omega
        obtain ⟨y, hy⟩ : ∃ y, L[i]? = some y := ⟨L[i], List.getElem?_eq_getElem hiL⟩
        obtain ⟨bb, ob, hrb, s0, s1, s2, s3, s4⟩ := it_cells (own_reads' hO2) hy
        cases hrb
        simp only [Nat.zero_add] at s0 s1 s2 s3 s4
        have f0 := World.ownsRow.frozenAt hO2 (i * 5)
        have f1 := World.ownsRow.frozenAt hO2 (i * 5 + 1)
        have f2 := World.ownsRow.frozenAt hO2 (i * 5 + 2)
        have f3 := World.ownsRow.frozenAt hO2 (i * 5 + 3)
        have f4 := World.ownsRow.frozenAt hO2 (i * 5 + 4)
        have hg := (hO2.lt g rfl).1
        have k0 := World.ownsRow.stored hO2 (i * 5) (.int .i64 (x.1 : Int))
        have k1 := World.ownsRow.stored k0.1 (i * 5 + 1) (.int .i64 (x.2.1 : Int))
        have k2 := World.ownsRow.stored k1.1 (i * 5 + 2) (.int .i64 (x.2.2.1 : Int))
        have k3 := World.ownsRow.stored k2.1 (i * 5 + 3) (.int .i64 0)
        have k4 := World.ownsRow.stored k3.1 (i * 5 + 4) (.string x.2.2.2)
        have HO5 := Lib.hid k4.1
        rw [← itCells_set x hiL] at HO5
        have HB5 : Hid (Below base w (((((w2.setCell ⟨g, i * 5, none⟩ (.int .i64 (x.1 : Int))).setCell ⟨g, i * 5 + 1, none⟩ (.int .i64 (x.2.1 : Int))).setCell ⟨g, i * 5 + 2, none⟩ (.int .i64 (x.2.2.1 : Int))).setCell ⟨g, i * 5 + 3, none⟩ (.int .i64 0)).setCell ⟨g, i * 5 + 4, none⟩ (.string x.2.2.2))) := Lib.hid (below_set (below_set (below_set (below_set (below_set HB2.out hg _) hg _) hg _) hg _) hg _)
        have i1 : (0 : Int) ≤ (i : Int) := by omega
        have i2 : (i : Int) < (n : Int) := by omega
        have HIL := Lib.hid hiL
        clear hb2 hbo hO2 hy k0 k1 k2 k3 k4 hlt hiL C
        go_wp2_with fail
        go_roundw
        case rel => exact ⟨i + 1, j + 1, L.set i x, by go_num, by go_num, by omega, by omega, Lib.hid (by rw [List.length_set]; exact HLL.out), Lib.hid (by rw [HSN.out, List.length_append, HI.out]; rfl), Lib.hid (by
          rw [HSN.out, ← HT.out]
          rw [List.take_succ_eq_append_getElem (by rw [List.length_set]; exact HIL.out), List.getElem_set_self]
          congr 1
          rw [List.take_set]
          rw [List.set_eq_of_length_le (by rw [List.length_take]; omega)]), Lib.hid (by
          rw [List.drop_set_of_lt (by omega)]
          rw [← List.drop_drop, HDR.out, List.drop_drop]), HO5, HB5⟩
        case measure => simp [intOf]; omega
    · obtain rfl : n = j := by omega
      obtain ⟨vs, hclr⟩ := run_clear (P := Try.prog) wo 31 70 0 _ Try.underlying31 zero_item 5 rfl (by intro u hu; simp [Value.cells] at hu; rcases hu with rfl | rfl | rfl | rfl | rfl <;> rfl) g (i * 5) (n - i) (cap - i) (by omega) (fun q hq => own_at HOr.out (by omega)) (fun q _ => World.ownsRow.frozenAt HOr.out _)
      obtain ⟨xs2, hx1, hx2, hx3⟩ := stored_cells vs (i * 5) wo _ HOr.out
      have hsh := own_shrink (i := i) hx1 (by omega)
      rw [hx2] at hsh
      have hLT : (itCells L).take (i * 5) = itCells (leftI p l) := by
        have e : L = L.take i ++ L.drop i := (List.take_append_drop i L).symm
        have h5 : (itCells (L.take i)).length = i * 5 := by rw [itCells_len, List.length_take, HLL.out, Nat.min_eq_left (by omega)]
        have e2 : itCells L = itCells (L.take i) ++ itCells (L.drop i) := by rw [← itCells_append, ← e]
        rw [e2, ← h5, List.take_left]
        rw [HT.out, List.take_of_length_le (by rw [HL.out]; exact Nat.le_refl _)]
      rw [hLT] at hsh
      have HSH := Lib.hid hsh
      have HLEN : Hid ((leftI p l).length = i) := Lib.hid (by
        have := HI.out
        rw [List.take_of_length_le (by rw [HL.out]; exact Nat.le_refl _)] at this
        exact this)
      have HBZ : Hid (Below base w (wo.setCells g (i * 5) vs)) := Lib.hid (HB.out.trans ((Below.refl base wo).grown hx3 (Nat.le_trans HBASE.out HB.out.size) fun q hq => by cases hq; exact (HOr.out.lt g rfl).1))
      have hic : i < cap := by omega
      have hic' : (i : Int) < (cap : Int) := by omega
      have hin : (i : Int) ≤ (n : Int) := by omega
      have hin' : i ≤ n := by omega
      have hne : ¬ (cap = i) := by omega
      have i0 : (0 : Int) ≤ (i : Int) := by omega
      have hnc : (n : Int) ≤ (cap : Int) := by omega
      have hicc : (i : Int) ≤ (cap : Int) := by omega
      clear hx1 hx2 hx3 hsh hLT
      go_wp2_with fail
      go_ret
      exact ⟨some ⟨g, 0, none⟩, cap, by rw [HLEN.out]; rfl, by rw [HLEN.out]; exact HSH.out, HBZ.out⟩
end Go.Proofs.Ytioecklnijhjgaa
