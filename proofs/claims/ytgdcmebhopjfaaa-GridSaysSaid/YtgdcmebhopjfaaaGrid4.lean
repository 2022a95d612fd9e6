/- grid.Powers where it refuses; grid.Crossed. -/
import Derived.Test.YtgdcmebhopjfaaaGrid3
import Derived.Test.YtgdcmebhopjfaaaSlicesD
import Derived.Test.YtgdcmebhopjfaaaRefField
namespace Go.Proofs.Ytgdcmebhopjfaaa
open Go.RowKit

set_option maxRecDepth 100000 in
theorem grid_Powers_bad (h : Hd) (m : Int) (w : World) (hh : RowOk w h) (hE : unE h.Z ≠ 0) :
    Calls Try.prog 47 #[h.v, .int .i64 m] w (TabBad (unE h.Z) w) := by
  have CK := Lib.hid (grid_check h w hh)
  have hb : (unE h.Z != 0) = true := by simpa using hE
  obtain ⟨E, hEq⟩ : ∃ E, unE h.Z = E := ⟨_, rfl⟩
  rw [hEq] at CK hb ⊢
  unfold Hd.v at CK ⊢
  clear hh hE hEq
  go_enter Try.func47, Try.ntmps47
  go_wp2_with (first
    | (go_at_call 114; refine CK.out.mono ?_; rintro e w1 ⟨rfl, k1, rfl⟩)
    | fail)
  go_ret2
  exact ⟨rfl, below_dr _ _ _⟩
set_option maxRecDepth 100000 in
theorem grid_Powers_arg (h : Hd) (m : Int) (w : World) (hh : RowOk w h) (hE : unE h.Z = 0) (hm : m < 1 ∨ 12 < m) :
    Calls Try.prog 47 #[h.v, .int .i64 m] w (TabBad 1 w) := by
  have CK := Lib.hid (grid_check h w hh)
  rw [hE] at CK
  unfold Hd.v at CK ⊢
  clear hh hE
  by_cases h1 : m < 1
  · go_enter Try.func47, Try.ntmps47
    go_wp2_with (first
      | (go_at_call 114; refine CK.out.mono ?_; rintro e w1 ⟨rfl, k1, rfl⟩)
      | fail)
    go_ret2
    exact ⟨rfl, below_dr _ _ _⟩
  · have h2 : 12 < m := by omega
    go_enter Try.func47, Try.ntmps47
    go_wp2_with (first
      | (go_at_call 114; refine CK.out.mono ?_; rintro e w1 ⟨rfl, k1, rfl⟩)
      | fail)
    go_ret2
    exact ⟨rfl, below_dr _ _ _⟩
/-- Is one byte in the others? -/
def inB (Z : List Nat) (x : Int) : Bool := decide (x ∈ Z.map fun x : Nat => (x : Int))
theorem crossed_in (fn : FuncId) (x : Int) (b : Nat) (h : Hd) (w : World) (hfn : fn = 117 ∨ fn = 52) (hc : w.cell? ⟨b, 0, none⟩ = some h.v) (hh : RowOk w h) :
    Calls Try.prog fn #[.int .u8 x, .pointer (some ⟨b, 0, none⟩)] w fun e w' => e = .returned (.bool (inB h.Z x)) ∧ ∃ m, w' = w.drewN m := by
  have C := Lib.hid (contains_u8 x (h.Z.map fun x : Nat => (x : Int)) h.Z.length h.A h.C w (by simp) (by have := hh.cap; have := hh.max; omega) (Lib.hid (by rw [← u8s_ints]; exact hh.reads)))
  unfold inB
  unfold Hd.v at hc
  generalize decide (x ∈ h.Z.map fun x : Nat => (x : Int)) = r at C ⊢
  clear hh
  rcases hfn with rfl | rfl
  · go_enter Try.func117, Try.ntmps117
    go_wp2_with (go_at_call 53; refine C.out.mono ?_; rintro e w' ⟨rfl, n, rfl⟩)
    go_ret
    exact ⟨rfl, _, rfl⟩
  · go_enter Try.func52, Try.ntmps52
    go_wp2_with (go_at_call 53; refine C.out.mono ?_; rintro e w' ⟨rfl, n, rfl⟩)
    go_ret
    exact ⟨rfl, _, rfl⟩
/-- Have two rows a byte in common? -/
def meetB (Y Z : List Nat) : Bool := Y.any fun y => decide (y ∈ Z)
theorem meetB_eq (Y Z : List Nat) : (Y.map fun x : Nat => (x : Int)).any (inB Z) = meetB Y Z := by
  unfold meetB
  rw [List.any_map]
  congr 1
  funext y
  unfold inB
  simp only [Function.comp]
  by_cases h : y ∈ Z
  · rw [decide_eq_true h, decide_eq_true (natInt_mem.2 h)]
  · rw [decide_eq_false h, decide_eq_false fun e => h (natInt_mem.1 e)]
theorem meets (fn : FuncId) (hfn : fn = 117 ∨ fn = 52) (Y Z : Hd) (b : Nat) (w : World) (hY : RowOk w Y) (hZ : RowOk w Z) (hc : w.cell? ⟨b, 0, none⟩ = some Z.v) (hf : ∀ (x : Value) (W : World), (callFunc fn #[x, .pointer (some ⟨b, 0, none⟩)]).run Try.prog W = .ok (.enter fn #[x, .pointer (some ⟨b, 0, none⟩)]) W) :
    Calls Try.prog 51 #[Y.v, .func (.func fn) #[] #[.pointer (some ⟨b, 0, none⟩)]] w fun e w' => e = .returned (.bool (meetB Y.Z Z.Z)) ∧ ∃ m, w' = w.drewN m := by
  have h := containsFunc_capB fn (.pointer (some ⟨b, 0, none⟩)) hf (inB Z.Z) (Y.Z.map fun x : Nat => (x : Int)) Y.A Y.C w (by have := hY.cap; have := hY.max; simp; omega) (Lib.hid (by rw [← u8s_ints]; exact hY.reads)) (Lib.hid fun x _ n => crossed_in fn x b Z (w.drewN n) hfn (show World.cell? _ _ = _ from hc) (hZ.below (below_dr _ _ _)))
  rw [meetB_eq, List.length_map] at h
  exact h
set_option maxRecDepth 100000 in
set_option maxHeartbeats 4000000 in
theorem grid_Crossed (h h' : Hd) (w : World) (hh : RowOk w h) (hh' : RowOk w h') (hE : unE h.Z = 0) (hE' : unE h'.Z = 0) (hM : meetB h.Z h'.Z = false) :
    Calls Try.prog 48 #[h.v, h'.v] w (TabPost h.Z.length (h.Z.map fun x => h'.Z.map fun y => ginv (x ^^^ y)) w) := by
  obtain ⟨B, hB⟩ : ∃ B, w.heap.size = B := ⟨_, rfl⟩
  obtain ⟨W, hW⟩ : ∃ W, w.alloc (.cells #[h'.v] 59) = W := ⟨_, rfl⟩
  have hbW : Below w.heap.size w W := by rw [← hW]; exact (Below.refl _ w).alloc (Nat.le_refl _) _
  have hcW : W.cell? ⟨B, 0, none⟩ = some h'.v := by rw [← hW, ← hB]; simp [World.cell?_alloc_new]
  have hsW : B < W.heap.size := by rw [← hW, World.size_alloc]; omega
  have CK := Lib.hid (fun X (hX : Below W.heap.size W X) => grid_check h X ((hh.below hbW).below hX))
  have CK' := Lib.hid (fun X (hX : Below W.heap.size W X) => grid_check h' X ((hh'.below hbW).below hX))
  have CM := Lib.hid (fun X (hX : Below W.heap.size W X) => meets 117 (.inl rfl) h h' B X ((hh.below hbW).below hX) ((hh'.below hbW).below hX) ((hX.cell (World.block_lt_of_cell? _ _ hcW)).trans hcW) (fun x W => by go_simp))
  rw [hE] at CK
  rw [hE'] at CK'
  rw [hM] at CM
  have hdis : Hid (∀ x ∈ h.Z, ∀ y ∈ h'.Z, x ^^^ y ≠ 0) := fun x hx y hy he => by
    unfold meetB at hM
    rw [List.any_eq_false] at hM
    have := hM x hx
    have e : x = y := by
      have h2 := congrArg (· ^^^ y) he
      simp only [Nat.xor_assoc, Nat.xor_self, Nat.xor_zero, Nat.zero_xor] at h2
      exact h2
    rw [e] at this
    exact this (by simpa using hy)
  obtain ⟨A, C, Z⟩ := h
  obtain ⟨A', C', Y⟩ := h'
  obtain ⟨n, hn⟩ : ∃ n, Z.length = n := ⟨_, rfl⟩
  obtain ⟨m, hm⟩ : ∃ m, Y.length = m := ⟨_, rfl⟩
  have m1 := hh.cap
  have m2 := hh.max
  have m3 := hh.none
  have m1' := hh'.cap
  have m2' := hh'.max
  have m3' := hh'.none
  simp only at m1 m2 m3 m1' m2' m3' hE hE' ⊢
  have HR : Hid (Reads W A (u8s Z)) := (hh.below hbW).reads
  have HBY : Hid (∀ z ∈ Z, z < 256) := hh.byte
  have HR' : Hid (Reads W A' (u8s Y)) := (hh'.below hbW).reads
  have HBY' : Hid (∀ z ∈ Y, z < 256) := hh'.byte
  rw [hn] at m1 m3
  rw [hm] at m1' m3'
  unfold Hd.v at CK CK' CM hcW hW ⊢
  simp only at CK CK' CM hcW hdis hW ⊢
  rw [hn] at CK CM ⊢
  rw [hm] at CK' hcW hW ⊢
  have HN := Lib.hid hn
  have HM := Lib.hid hm
  have hn0 : 0 < n ∧ n ≤ 12 := by
    unfold unE at hE
    split at hE
    · cases hE
    · omega
  have hm0 : 0 < m ∧ m ≤ 12 := by
    unfold unE at hE'
    split at hE'
    · cases hE'
    · omega
  cases A with
  | none => have := m3 rfl; omega
  | some ad =>
  cases A' with
  | none => have := m3' rfl; omega
  | some ad' =>
  have HBW : Hid (Below w.heap.size w W) := hbW
  have HCW : Hid (W.cell? ⟨B, 0, none⟩ = some (.slice (some ad') m C')) := hcW
  clear hh hh' hE hE' m3 m3' hn hm hM hbW hcW
  go_enter Try.func48, Try.ntmps48
  have HK := Lib.hid hB
  go_wp2_with (first
    | (go_at_call 114; (with_reducible refine (CK.out _ (Below.refl _ _)).mono ?_); rintro e w1 ⟨rfl, k1, rfl⟩; have c1 : (W.drewN k1).cell? ⟨B, 0, none⟩ = some (.slice (some ad') m C') := HCW.out)
    | (go_at_call 114; (with_reducible refine (CK'.out _ (below_dr _ _ _)).mono ?_); rintro e w2 ⟨rfl, k2, rfl⟩)
    | (go_at_call 51; (with_reducible refine (CM.out _ (below_dr _ _ _)).mono ?_); rintro e w3 ⟨rfl, k3, rfl⟩)
    | (at_make; refine make_own rfl _ _ 51 rfl W.heap.size 59 _ 24 Try.underlying51 rowsInfo rfl _ _ _ _ n (by rfl) (by rfl) rfl rfl (by omega) (by unfold maxLen; omega) (Nat.le_refl _) ?_; intro w2 hown hg2)
    | fail)
  have HB0 : Hid (Below W.heap.size W w2) := (below_dr _ _ _).trans (below_of_grown hg2 (Nat.le_refl _) (by intro k hk; cases hk))
  have HRG : Hid (Rag w2 W.heap.size 59 5 W.heap.size n 0 (fun _ => ⟨none, 0, []⟩) (.slice none 0 0) 0 []) := Rag.start hown _
  clear hown hg2 CK CK' CM hW hB
  go_wp2_with fail
  go_loopw [33] (fun vi wr => ∃ (i : Nat) (H : Nat → Hd), vi = .int .i64 i ∧ i ≤ n ∧ Hid (Rag wr W.heap.size 59 5 W.heap.size n i H (.slice none 0 0) 0 []) ∧ Hid (∀ j x, j < i → Z[j]? = some x → (H j).Z = Y.map fun y => ginv (x ^^^ y)) ∧ Hid (Below W.heap.size W wr)) (fun vi _ => n - (intOf vi).toNat)
  case atStart => exact ⟨0, _, rfl, by omega, HRG, Lib.hid (fun j x hj => by omega), HB0⟩
  case round =>
    obtain ⟨i, H, rfl, hi, hR, hH, hb⟩ := hrel
    by_cases hin : i < n
    · obtain ⟨x, hx⟩ : ∃ x, Z[i]? = some x := ⟨Z[i]'(by rw [HN.out]; exact hin), List.getElem?_eq_getElem _⟩
      obtain ⟨b, o, hbo, hc⟩ := (HR.out.below hb.out) i _ (u8s_get hx)
      cases hbo
      have hx256 := HBY.out x (List.mem_of_getElem? hx)
      have HX := Lib.hid hx
      have HXM := Lib.hid (List.mem_of_getElem? hx)
      have cB := (hb.out.cell (World.block_lt_of_cell? _ _ HCW.out)).trans HCW.out
      have HLZ : Hid (∀ j, j < i → 0 < (H j).Z.length) := Lib.hid (fun j hj => by
        obtain ⟨y, hy⟩ : ∃ y, Z[j]? = some y := ⟨Z[j]'(by rw [HN.out]; omega), List.getElem?_eq_getElem _⟩
        rw [hH.out j y hj hy, List.length_map, HM.out]; omega)
      clear hx HRG HB0
      have i0 : (0 : Int) ≤ (i : Int) := by omega
      have i1 : (i : Int) < (n : Int) := by omega
      go_wp2_with fail
      go_loopw [40] (fun vk wr2 => ∃ (k : Nat) (v : Value), vk = .int .i64 k ∧ k ≤ m ∧ (0 < k ∨ v = .slice none 0 0) ∧ Hid (Rag wr2 W.heap.size 59 5 W.heap.size n i H v k (u8s ((Y.take k).map fun y => ginv (x ^^^ y)))) ∧ Hid (Below W.heap.size W wr2)) (fun vk _ => m - (intOf vk).toNat)
      case atStart => exact ⟨0, .slice none 0 0, rfl, by omega, .inr rfl, hR, hb⟩
      case round =>
        clear hc cB
        obtain ⟨k, v, rfl, hk, _, hR2, hb2⟩ := hrel
        by_cases hkm : k < m
        · obtain ⟨y, hy⟩ : ∃ y, Y[k]? = some y := ⟨Y[k]'(by rw [HM.out]; exact hkm), List.getElem?_eq_getElem _⟩
          obtain ⟨b', o', hbo, hc2⟩ := (HR'.out.below hb2.out) k _ (u8s_get hy)
          cases hbo
          have hy256 := HBY'.out y (List.mem_of_getElem? hy)
          have hne := hdis.out x HXM.out y (List.mem_of_getElem? hy)
          obtain ⟨z, hz⟩ : ∃ z, x ^^^ y = z := ⟨_, rfl⟩
          have hz256 : z < 256 := by rw [← hz]; exact xor_lt256 hx256 hy256
          have ex : bits .xor .u8 (x : Int) (y : Int) = (z : Int) := by rw [u8_xor_nat x y hx256 hy256, hz]
          rw [hz] at hne
          have hP := Lib.hid (fun W => field_Inv z W hz256 hne)
          have k0 : (0 : Int) ≤ (k : Int) := by omega
          have k1 : (k : Int) < (m : Int) := by omega
          have HE : Hid (u8s ((Y.take (k + 1)).map fun y => ginv (x ^^^ y)) = u8s ((Y.take k).map fun y => ginv (x ^^^ y)) ++ [.int .u8 (ginv z : Nat)]) := by
            show _ = _
            rw [List.take_add_one, hy, List.map_append, u8s_append, ← hz]; rfl
          have x1 := hR2.out.cell hin
          have f1 := hR2.out.frozen
          clear hR hb hy hz
          go_wp2_with (first
            | (go_at_call 101; refine (hP.out _).mono ?_; rintro e w3 ⟨rfl, rfl⟩)
            | (at_builtin; go_must (refine app_one2 rfl (.tmp 56) (.tmp 58) 59 rfl W.heap.size 5 _ 1 1 Try.underlying59 u8Info v k (u8s ((Y.take k).map fun y => ginv (x ^^^ y))) (by rfl) hR2.out.cur [.int .u8 (ginv z : Nat)] (by rfl) rfl (by intro u hu; simp at hu; subst hu; rfl) (by unfold maxLen; omega) (by omega) hb2.out.size ?_); intro v4 w4 hown4 hgr4 hb4 hvb; obtain ⟨g4, c4, rfl⟩ := own_form hown4 (fun e => by simp at e); have X := Rag.app hR2.out hin HLZ.out hgr4 hown4 hvb; rw [← HE.out] at X; have hR4 := Lib.hid X.1; have hb5 : Hid (Below W.heap.size W (w4.setCell ⟨W.heap.size, i, none⟩ (.slice (some ⟨g4, 0, none⟩) (k + 1) c4))) := Lib.hid ((hb2.out.trans hb4).grown X.2 (hb2.out.trans hb4).size (fun q hq => by cases hq; exact hR2.out.top.lt.1)); have ⟨x2, f2⟩ := Rag.appTop hR2.out hin hgr4; clear X)
            | fail)
          clear hown4 hgr4 hb4 hvb
          go_roundw
          case rel => exact ⟨k + 1, _, by go_num, by omega, .inl (by omega), hR4, hb5⟩
          case measure => simp [intOf]; omega
        · obtain rfl : k = m := by omega
          obtain ⟨g5, c5, rfl⟩ := own_form hR2.out.cur (fun e => by have := congrArg List.length e; rw [u8s_len, List.length_map, List.length_take, HM.out] at this; simp at this; omega)
          have hcp := own_dataK hR2.out.cur
          obtain ⟨ao5, cp5, hv5, _, _, q5, q6⟩ := hcp
          cases hv5
          have hbyte : ∀ z ∈ (Y.take k).map (fun y => ginv (x ^^^ y)), z < 256 := fun z hz => by
            obtain ⟨y, hy, rfl⟩ := List.mem_map.1 hz
            exact ginv_lt (xor_lt256 hx256 (HBY'.out y (List.mem_of_mem_take hy)))
          have X := Rag.clip hR2.out (by omega) hbyte
          have hR4 := Lib.hid X.1
          have hb5 : Hid (Below W.heap.size W (wr.setCell ⟨W.heap.size, i, none⟩ (.slice (some ⟨g5, 0, none⟩) k k))) := Lib.hid (hb2.out.grown X.2 hb2.out.size (fun q hq => by cases hq; exact hR2.out.top.lt.1))
          have hH2 : Hid (∀ j y, j < i + 1 → Z[j]? = some y → (if j = i then (⟨some ⟨g5, 0, none⟩, k, (Y.take k).map fun y => ginv (x ^^^ y)⟩ : Hd) else H j).Z = Y.map fun z => ginv (y ^^^ z)) := Lib.hid (fun j y hj hy => by
            by_cases he : j = i
            · subst he
              rw [if_pos rfl]
              have e1 : x = y := by rw [HX.out] at hy; exact Option.some.inj hy
              rw [e1]
              simp only
              rw [← HM.out, List.take_length]
            · rw [if_neg he]; exact hH.out j y (by omega) hy)
          have x1 := hR2.out.cell hin
          have f1 := hR2.out.frozen
          have CC := Lib.hid (fun W => clip_u8 (some ⟨g5, 0, none⟩) k c5 W q6 q5)
          clear X hH hR hb hbyte
          go_wp2_with (go_at_call 116; refine (CC.out _).mono ?_; rintro e w5 ⟨rfl, rfl⟩)
          go_roundw
          case rel => exact ⟨i + 1, _, by go_num, by omega, hR4, hH2, hb5⟩
          case measure => simp [intOf]; omega
    · obtain rfl : i = n := by omega
      go_wp2_with fail
      go_ret2
      refine ⟨_, _, _, rfl, hR.out.tab, ?_, HBW.out.trans (hb.out.mono HBW.out.size)⟩
      unfold zof
      rw [List.map_map]
      apply List.ext_getElem?
      intro j
      by_cases hj : j < i
      · obtain ⟨y, hy⟩ : ∃ y, Z[j]? = some y := ⟨Z[j]'(by rw [HN.out]; exact hj), List.getElem?_eq_getElem _⟩
        rw [List.getElem?_map, List.getElem?_range hj, List.getElem?_map, hy]
        simp only [Option.map_some, Function.comp]
        rw [hH.out j y hj hy]
      · rw [List.getElem?_eq_none (by simp; omega), List.getElem?_eq_none (by rw [List.length_map, HN.out]; omega)]
end Go.Proofs.Ytgdcmebhopjfaaa
