/- Points in slices: what is read; IndexFunc and ContainsFunc of package slices at points. -/
import Derived.Test.YtiljppeamdoocaaSlices
import Derived.Test.YtiljppeamdoocaaArgs2
import Derived.Test.YtiljppeamdoocaaTwo
namespace Go.Proofs.Ytiljppeamdoocaa
open Go.RowKit

abbrev Pts := List (Int × Int)
def pV (z : Int × Int) : Value × Value := (.int .i64 z.1, .int .i64 z.2)
abbrev pA (z : Int × Int) : Value := .agg #[.int .i64 z.1, .int .i64 z.2]
theorem pair_cells {w : World} {ao : Option Addr} {zs : Pts} (h : Reads w ao (cells2 (zs.map pV))) {i : Nat} {z : Int × Int} (hz : zs[i]? = some z) :
    ∃ b o, ao = some ⟨b, o, none⟩ ∧ w.cell? ⟨b, o + i * 2, none⟩ = some (.int .i64 z.1) ∧ w.cell? ⟨b, o + i * 2 + 1, none⟩ = some (.int .i64 z.2) := by
  obtain ⟨h1, h2⟩ := cells2_get (zs.map pV) i (pV z) (by rw [List.getElem?_map, hz]; rfl)
  obtain ⟨b, o, ha, hc⟩ := h _ _ h1
  obtain ⟨b2, o2, ha2, hc2⟩ := h _ _ h2
  rw [ha] at ha2
  injection ha2 with ha2
  injection ha2 with e1 e2
  subst e1 e2
  exact ⟨b, o, ha, hc, by rw [Nat.add_assoc]; exact hc2⟩
theorem pair_take {w : World} {ao : Option Addr} {zs : Pts} (h : Reads w ao (cells2 (zs.map pV))) (m : Nat) : Reads w ao (cells2 ((zs.take m).map pV)) := by
  intro j u hu
  obtain ⟨k, a, hk, hd⟩ := cells2_get' _ j u hu
  have hk2 : (zs.map pV)[k]? = some a := by
    rw [List.map_take, List.getElem?_take] at hk
    split at hk
    · exact hk
    · simp at hk
  obtain ⟨h1, h2⟩ := cells2_get (zs.map pV) k a hk2
  rcases hd with ⟨rfl, rfl⟩ | ⟨rfl, rfl⟩
  · exact h _ _ h1
  · exact h _ _ h2
def idxP (p : Int × Int → Bool) (zs : Pts) : Int := match zs.findIdx? p with | some i => (i : Int) | none => -1
theorem idxP_none {p : Int × Int → Bool} {zs : Pts} (h : ∀ x ∈ zs, p x = false) : idxP p zs = -1 := by
  unfold idxP
  rw [List.findIdx?_eq_none_iff.2 (by simpa using h)]
theorem idxP_some {p : Int × Int → Bool} {zs : Pts} {k : Nat} {x : Int × Int} (hk : zs[k]? = some x) (hx : p x = true) (h : ∀ j y, j < k → zs[j]? = some y → p y = false) : idxP p zs = k := by
  have : zs.findIdx? p = some k := by
    rw [List.findIdx?_eq_some_iff_getElem]
    obtain ⟨hl, he⟩ := List.getElem?_eq_some_iff.1 hk
    refine ⟨hl, by rw [he]; exact hx, fun j hj => ?_⟩
    have := h j _ hj (List.getElem?_eq_getElem (by omega))
    simp [this]
  unfold idxP
  rw [this]
theorem idxP_nonneg (p : Int × Int → Bool) (zs : Pts) : decide (0 ≤ idxP p zs) = zs.any p := by
  unfold idxP
  cases h : zs.findIdx? p with
  | none =>
    have h2 := List.findIdx?_eq_none_iff.1 h
    have : zs.any p = false := by simpa using h2
    rw [this]; rfl
  | some i =>
    have h2 := List.findIdx?_eq_some_iff_getElem.1 h
    obtain ⟨hl, hp, _⟩ := h2
    have : zs.any p = true := List.any_eq_true.2 ⟨_, List.getElem_mem hl, hp⟩
    rw [this]; simp
set_option maxRecDepth 20000 in
set_option maxHeartbeats 400000 in
theorem indexFunc_ptc (fn : FuncId) (c : Value) (hfn : ∀ (x : Value) (W : World), (callFunc fn #[x, c]).run Try.prog W = .ok (.enter fn #[x, c]) W) (p : Int × Int → Bool) (zs : Pts) (len : Nat) (ao : Option Addr) (cap : Nat) (w : World) (hlen : zs.length = len) (hl : len ≤ 9223372036854775807) (hR : Hid (Reads w ao (cells2 (zs.map pV))))
    (hf : Hid (∀ x ∈ zs, ∀ W, Below w.heap.size w W → Calls Try.prog fn #[pA x, c] W fun e w' => e = .returned (.bool (p x)) ∧ Below W.heap.size W w')) :
    Calls Try.prog 105 #[.slice ao len cap, .func (.func fn) #[] #[c]] w fun e w' => e = .returned (.int .i64 (idxP p zs)) ∧ Below w.heap.size w w' := by
  have HL := Lib.hid hlen
  clear hlen
  go_enter Try.func105, Try.ntmps105
  go_wp2_with fail
  go_loopw [8] (fun vi wr => ∃ k : Nat, vi = .int .i64 k ∧ k ≤ len ∧ Hid (∀ j y, j < k → zs[j]? = some y → p y = false) ∧ Hid (Below w.heap.size w wr)) (fun vi _ => len - (intOf vi).toNat)
  case atStart => exact ⟨0, rfl, by omega, by intro j y hj; omega, Below.refl _ _⟩
  case round =>
    obtain ⟨k, rfl, hk, hno, hb⟩ := hrel
    by_cases hkl : k < len
    · obtain ⟨x, hx⟩ : ∃ x, zs[k]? = some x := ⟨zs[k]'(by rw [HL.out]; exact hkl), List.getElem?_eq_getElem _⟩
      obtain ⟨b, o, rfl, c1, c2⟩ := pair_cells (hR.out.below hb.out) hx
      have HX := Lib.hid hx
      have hcall := Lib.hid (hf.out x (List.mem_of_getElem? hx) wr hb.out)
      clear hx
      cases hp : p x with
      | true =>
        have HP := Lib.hid hp
        rw [hp] at hcall
        clear hp
        go_wp2_with fail
        refine hcall.out.mono ?_
        rintro e w' ⟨rfl, hb2⟩
        go_wp2
        go_ret
        exact ⟨ret_int (idxP_some HX.out HP.out hno.out).symm, hb.out.trans (hb2.mono hb.out.size)⟩
      | false =>
        have HP := Lib.hid hp
        rw [hp] at hcall
        clear hp
        go_wp2_with fail
        refine hcall.out.mono ?_
        rintro e w' ⟨rfl, hb2⟩
        have HB2 := Lib.hid (hb.out.trans (hb2.mono hb.out.size))
        clear hb2
        go_wp2
        go_roundw
        case rel => exact ⟨k + 1, by go_num, by omega, by
          intro j y hj hy
          by_cases he : j = k
          · subst he; rw [HX.out] at hy; cases hy; exact HP.out
          · exact hno.out j y (by omega) hy, HB2⟩
        case measure => simp [intOf]; omega
    · obtain rfl : k = len := by omega
      go_wp2
      go_ret
      refine ⟨ret_int (idxP_none fun x hx => ?_).symm, hb.out⟩
      obtain ⟨j, hj⟩ := List.getElem?_of_mem hx
      have := (List.getElem?_eq_some_iff.1 hj).1
      exact hno.out j x (by have := HL.out; omega) hj
set_option maxHeartbeats 400000 in
theorem containsFunc_ptc (fn : FuncId) (c : Value) (hfn : ∀ (x : Value) (W : World), (callFunc fn #[x, c]).run Try.prog W = .ok (.enter fn #[x, c]) W) (p : Int × Int → Bool) (zs : Pts) (len : Nat) (ao : Option Addr) (cap : Nat) (w : World) (hlen : zs.length = len) (hl : len ≤ 9223372036854775807) (hR : Hid (Reads w ao (cells2 (zs.map pV))))
    (hf : Hid (∀ x ∈ zs, ∀ W, Below w.heap.size w W → Calls Try.prog fn #[pA x, c] W fun e w' => e = .returned (.bool (p x)) ∧ Below W.heap.size W w')) :
    Calls Try.prog 51 #[.slice ao len cap, .func (.func fn) #[] #[c]] w fun e w' => e = .returned (.bool (zs.any p)) ∧ Below w.heap.size w w' := by
  go_enter Try.func51, Try.ntmps51
  go_wp2_with (go_at_call 105; refine (indexFunc_ptc fn c hfn p zs len ao cap w hlen hl hR hf).mono ?_; rintro e w' ⟨rfl, hb⟩)
  go_ret
  exact ⟨ret_bool (idxP_nonneg p zs), hb⟩
set_option maxRecDepth 20000 in
set_option maxHeartbeats 400000 in
theorem indexFunc_pt (fn : FuncId) (hfn : ∀ (x : Value) (W : World), (callFunc fn #[x]).run Try.prog W = .ok (.enter fn #[x]) W) (p : Int × Int → Bool) (zs : Pts) (len : Nat) (ao : Option Addr) (cap : Nat) (w : World) (hlen : zs.length = len) (hl : len ≤ 9223372036854775807) (hR : Hid (Reads w ao (cells2 (zs.map pV))))
    (hf : Hid (∀ x ∈ zs, ∀ W, Below w.heap.size w W → Calls Try.prog fn #[pA x] W fun e w' => e = .returned (.bool (p x)) ∧ Below W.heap.size W w')) :
    Calls Try.prog 105 #[.slice ao len cap, .func (.func fn) #[] #[]] w fun e w' => e = .returned (.int .i64 (idxP p zs)) ∧ Below w.heap.size w w' := by
  have HL := Lib.hid hlen
  clear hlen
  go_enter Try.func105, Try.ntmps105
  go_wp2_with fail
  go_loopw [8] (fun vi wr => ∃ k : Nat, vi = .int .i64 k ∧ k ≤ len ∧ Hid (∀ j y, j < k → zs[j]? = some y → p y = false) ∧ Hid (Below w.heap.size w wr)) (fun vi _ => len - (intOf vi).toNat)
  case atStart => exact ⟨0, rfl, by omega, by intro j y hj; omega, Below.refl _ _⟩
  case round =>
    obtain ⟨k, rfl, hk, hno, hb⟩ := hrel
    by_cases hkl : k < len
    · obtain ⟨x, hx⟩ : ∃ x, zs[k]? = some x := ⟨zs[k]'(by rw [HL.out]; exact hkl), List.getElem?_eq_getElem _⟩
      obtain ⟨b, o, rfl, c1, c2⟩ := pair_cells (hR.out.below hb.out) hx
      have HX := Lib.hid hx
      have hcall := Lib.hid (hf.out x (List.mem_of_getElem? hx) wr hb.out)
      clear hx
      cases hp : p x with
      | true =>
        have HP := Lib.hid hp
        rw [hp] at hcall
        clear hp
        go_wp2_with fail
        refine hcall.out.mono ?_
        rintro e w' ⟨rfl, hb2⟩
        go_wp2
        go_ret
        exact ⟨ret_int (idxP_some HX.out HP.out hno.out).symm, hb.out.trans (hb2.mono hb.out.size)⟩
      | false =>
        have HP := Lib.hid hp
        rw [hp] at hcall
        clear hp
        go_wp2_with fail
        refine hcall.out.mono ?_
        rintro e w' ⟨rfl, hb2⟩
        have HB2 := Lib.hid (hb.out.trans (hb2.mono hb.out.size))
        clear hb2
        go_wp2
        go_roundw
        case rel => exact ⟨k + 1, by go_num, by omega, by
          intro j y hj hy
          by_cases he : j = k
          · subst he; rw [HX.out] at hy; cases hy; exact HP.out
          · exact hno.out j y (by omega) hy, HB2⟩
        case measure => simp [intOf]; omega
    · obtain rfl : k = len := by omega
      go_wp2
      go_ret
      refine ⟨ret_int (idxP_none fun x hx => ?_).symm, hb.out⟩
      obtain ⟨j, hj⟩ := List.getElem?_of_mem hx
      have := (List.getElem?_eq_some_iff.1 hj).1
      exact hno.out j x (by have := HL.out; omega) hj
set_option maxHeartbeats 400000 in
theorem containsFunc_pt (fn : FuncId) (hfn : ∀ (x : Value) (W : World), (callFunc fn #[x]).run Try.prog W = .ok (.enter fn #[x]) W) (p : Int × Int → Bool) (zs : Pts) (len : Nat) (ao : Option Addr) (cap : Nat) (w : World) (hlen : zs.length = len) (hl : len ≤ 9223372036854775807) (hR : Hid (Reads w ao (cells2 (zs.map pV))))
    (hf : Hid (∀ x ∈ zs, ∀ W, Below w.heap.size w W → Calls Try.prog fn #[pA x] W fun e w' => e = .returned (.bool (p x)) ∧ Below W.heap.size W w')) :
    Calls Try.prog 51 #[.slice ao len cap, .func (.func fn) #[] #[]] w fun e w' => e = .returned (.bool (zs.any p)) ∧ Below w.heap.size w w' := by
  go_enter Try.func51, Try.ntmps51
  go_wp2_with (go_at_call 105; refine (indexFunc_pt fn hfn p zs len ao cap w hlen hl hR hf).mono ?_; rintro e w' ⟨rfl, hb⟩)
  go_ret
  exact ⟨ret_bool (idxP_nonneg p zs), hb⟩
end Go.Proofs.Ytiljppeamdoocaa
