/- IndexFunc and ContainsFunc of package slices, at bytes. -/
import Derived.Test.YtgdcmebhopjfaaaTrM11
import Derived.Test.YtgdcmebhopjfaaaTrM27
import Derived.Test.YtgdcmebhopjfaaaTrM8
import Derived.Test.YtgdcmebhopjfaaaField
import Derived.Test.YtgdcmebhopjfaaaTrM6
namespace Go.Proofs.Ytgdcmebhopjfaaa
open Go.RowKit

set_option maxRecDepth 20000 in
set_option maxHeartbeats 400000 in
theorem indexFunc_u8 (fn : FuncId) (hfn : ∀ (x : Value) (W : World), (callFunc fn #[x]).run Try.prog W = .ok (.enter fn #[x]) W) (p : Int → Bool) (zs : List Int) (ao : Option Addr) (cap : Nat) (w : World) (hl : zs.length ≤ 9223372036854775807) (hR : Hid (Reads w ao (zs.map (Value.int .u8))))
    (hf : Hid (∀ x ∈ zs, ∀ n, Calls Try.prog fn #[.int .u8 x] (w.drewN n) fun e w' => e = .returned (.bool (p x)) ∧ ∃ m, w' = (w.drewN n).drewN m)) :
    Calls Try.prog 109 #[.slice ao zs.length cap, .func (.func fn) #[] #[]] w fun e w' => e = .returned (.int .i64 (idxI p zs)) ∧ ∃ n, w' = w.drewN n := by
  obtain ⟨len, hlen⟩ : ∃ n, zs.length = n := ⟨_, rfl⟩
  rw [hlen] at hl ⊢
  have HL := Lib.hid hlen
  clear hlen
  go_enter Try.func109, Try.ntmps109
  go_wp2_with fail
  go_loopw [8] (fun vi wr => ∃ k : Nat, vi = .int .i64 k ∧ k ≤ len ∧ Hid (∀ j y, j < k → zs[j]? = some y → p y = false) ∧ ∃ n, wr = w.drewN n) (fun vi _ => len - (intOf vi).toNat)
  case atStart => exact ⟨0, rfl, by omega, by intro j y hj; omega, 0, rfl⟩
  case round =>
    obtain ⟨k, rfl, hk, hno, n, rfl⟩ := hrel
    by_cases hkl : k < len
    · obtain ⟨x, hx⟩ : ∃ x, zs[k]? = some x := ⟨zs[k]'(by rw [HL.out]; exact hkl), List.getElem?_eq_getElem _⟩
      obtain ⟨b, o, rfl, hc⟩ := hR.out k (.int .u8 x) (by simp [hx])
      have HX := Lib.hid hx
      clear hx
      have hcall := Lib.hid (hf.out x (List.mem_of_getElem? HX.out))
      cases hp : p x with
      | true =>
        have HP := Lib.hid hp
        clear hp
        go_wp2_with fail
        refine (hcall.out n).mono ?_
        rw [HP.out]
        rintro e w' ⟨rfl, m, rfl⟩
        go_wp2
        go_ret
        exact ⟨ret_int (idxI_some HX.out HP.out hno.out).symm, _, rfl⟩
      | false =>
        have HP := Lib.hid hp
        clear hp
        go_wp2_with fail
        refine (hcall.out n).mono ?_
        rw [HP.out]
        rintro e w' ⟨rfl, m, rfl⟩
        go_wp2
        go_roundw
        case rel => exact ⟨k + 1, by go_num, by omega, by
          intro j y hj hy
          by_cases he : j = k
          · subst he; rw [HX.out] at hy; cases hy; exact HP.out
          · exact hno.out j y (by omega) hy, _, rfl⟩
        case measure => simp [intOf]; omega
    · obtain rfl : k = len := by omega
      go_wp2
      go_ret
      refine ⟨ret_int (idxI_none fun x hx => ?_).symm, _, rfl⟩
      obtain ⟨j, hj⟩ := List.getElem?_of_mem hx
      have := (List.getElem?_eq_some_iff.1 hj).1
      exact hno.out j x (by have := HL.out; omega) hj
set_option maxHeartbeats 400000 in
theorem containsFunc_u8 (fn : FuncId) (hfn : ∀ (x : Value) (W : World), (callFunc fn #[x]).run Try.prog W = .ok (.enter fn #[x]) W) (p : Int → Bool) (zs : List Int) (ao : Option Addr) (cap : Nat) (w : World) (hl : zs.length ≤ 9223372036854775807) (hR : Hid (Reads w ao (zs.map (Value.int .u8))))
    (hf : Hid (∀ x ∈ zs, ∀ n, Calls Try.prog fn #[.int .u8 x] (w.drewN n) fun e w' => e = .returned (.bool (p x)) ∧ ∃ m, w' = (w.drewN n).drewN m)) :
    Calls Try.prog 51 #[.slice ao zs.length cap, .func (.func fn) #[] #[]] w fun e w' => e = .returned (.bool (zs.any p)) ∧ ∃ n, w' = w.drewN n := by
  go_enter Try.func51, Try.ntmps51
  go_wp2_with (go_at_call 109; refine (indexFunc_u8 fn hfn p zs ao cap w hl hR hf).mono ?_; rintro e w' ⟨rfl, n, rfl⟩)
  go_ret
  exact ⟨ret_bool (idxI_nonneg p zs), _, rfl⟩
end Go.Proofs.Ytgdcmebhopjfaaa
namespace Go.Proofs.Ytgdcmebhopjfaaa
open Go.RowKit

theorem rowsInfo : ElemRow Try.prog 59 (.slice none 0 0) 1 24 := elemRow_of (by kernel_rfl) rfl (by omega)
theorem clip_u8 (ao : Option Addr) (n cap : Nat) (w : World) (h63 : cap ≤ 9223372036854775807) (hc : n ≤ cap) :
    Calls Try.prog 116 #[.slice ao n cap] w fun e w' => e = .returned (.slice ao n n) ∧ w' = w := by
  go_enter Try.func116, Try.ntmps116
  go_wp2_with fail
  go_ret
  exact ⟨rfl, rfl⟩
/-- What a call hands back that makes a table. -/
def TabPost (n : Nat) (L : List (List Nat)) (w : World) (e : Ending) (w' : World) : Prop :=
  ∃ ao cap T, e = .returned (.tuple #[.slice ao n cap, .int .i64 0]) ∧ TabIn w' ao n T ∧ zof T = L ∧ Below w.heap.size w w'
/-- What it hands back that has an error. -/
def TabBad (E : Int) (w : World) (e : Ending) (w' : World) : Prop := e = .returned (.tuple #[.slice none 0 0, .int .i64 E]) ∧ Below w.heap.size w w'
theorem field_Pow' (a n : Nat) (w : World) (ha : a < 256) (hn : n < 9223372036854775808) :
    Calls Try.prog 115 #[.int .u8 a, .int .i64 n] w fun e w' => e = .returned (.tuple #[.int .u8 (gpow a n), .int .i64 0]) ∧ Below w.heap.size w w' := by
  refine (field_Pow a n w ha hn).mono ?_
  intro e w' h
  first
    | exact ⟨h.1, by obtain ⟨m, hm⟩ := h.2; rw [hm]; exact below_dr _ _ _⟩
    | exact ⟨h.1, by rw [h.2]; exact Below.refl _ _⟩
set_option maxRecDepth 100000 in
set_option maxHeartbeats 4000000 in
theorem grid_Powers (h : Hd) (m : Nat) (w : World) (hh : RowOk w h) (hE : unE h.Z = 0) (hm1 : 1 ≤ m) (hm : m ≤ 12) :
    Calls Try.prog 47 #[h.v, .int .i64 m] w (TabPost h.Z.length (h.Z.map fun x => (List.range m).map (gpow x)) w) := by
  have CK := Lib.hid (grid_check h w hh)
  rw [hE] at CK
  obtain ⟨A, C, Z⟩ := h
  obtain ⟨n, hn⟩ : ∃ n, Z.length = n := ⟨_, rfl⟩
  have m1 := hh.cap
  have m2 := hh.max
  have m3 := hh.none
  simp only at m1 m2 m3 hE ⊢
  have HR : Hid (Reads w A (u8s Z)) := hh.reads
  have HBY : Hid (∀ z ∈ Z, z < 256) := hh.byte
  rw [hn] at m1 m3
  unfold Hd.v at CK ⊢
  simp only at CK ⊢
  rw [hn] at CK ⊢
  have HN := Lib.hid hn
  have hn0 : 0 < n ∧ n ≤ 12 := by
    unfold unE at hE
    split at hE
    · cases hE
    · omega
  have q1 : ¬ (m : Int) < 1 := by omega
  have q2 : ¬ (12 : Int) < (m : Int) := by omega
  cases A with
  | none => have := m3 rfl; omega
  | some ad =>
  clear hh hE m3 hn
  go_enter Try.func47, Try.ntmps47
  go_wp2_with (first
    | (go_at_call 114; refine CK.out.mono ?_; rintro e w1 ⟨rfl, k1, rfl⟩)
    | (at_make; refine make_own rfl _ _ 51 rfl w.heap.size 59 _ 24 Try.underlying51 rowsInfo rfl _ _ _ _ n (by rfl) (by rfl) rfl rfl (by omega) (by unfold maxLen; omega) (Nat.le_refl _) ?_; intro w2 hown hg2)
    | fail)
  have HB0 : Hid (Below w.heap.size w w2) := (below_dr _ _ _).trans (below_of_grown hg2 (Nat.le_refl _) (by intro k hk; cases hk))
  have HRG : Hid (Rag w2 w.heap.size 59 5 w.heap.size n 0 (fun _ => ⟨none, 0, []⟩) (.slice none 0 0) 0 []) := Rag.start hown _
  clear hown hg2 CK
  go_wp2_with fail
  go_loopw [29] (fun vi wr => ∃ (i : Nat) (H : Nat → Hd), vi = .int .i64 i ∧ i ≤ n ∧ Hid (Rag wr w.heap.size 59 5 w.heap.size n i H (.slice none 0 0) 0 []) ∧ Hid (∀ j x, j < i → Z[j]? = some x → (H j).Z = (List.range m).map (gpow x)) ∧ Hid (Below w.heap.size w wr)) (fun vi _ => n - (intOf vi).toNat)
  case atStart => exact ⟨0, _, rfl, by omega, HRG, Lib.hid (fun j x hj => by omega), HB0⟩
  case round =>
    obtain ⟨i, H, rfl, hi, hR, hH, hb⟩ := hrel
    by_cases hin : i < n
    · obtain ⟨x, hx⟩ : ∃ x, Z[i]? = some x := ⟨Z[i]'(by rw [HN.out]; exact hin), List.getElem?_eq_getElem _⟩
      obtain ⟨b, o, hbo, hc⟩ := (HR.out.below hb.out) i _ (u8s_get hx)
      cases hbo
      have hx256 := HBY.out x (List.mem_of_getElem? hx)
      have HX := Lib.hid hx
      have HLZ : Hid (∀ j, j < i → 0 < (H j).Z.length) := Lib.hid (fun j hj => by
        obtain ⟨y, hy⟩ : ∃ y, Z[j]? = some y := ⟨Z[j]'(by rw [HN.out]; omega), List.getElem?_eq_getElem _⟩
        rw [hH.out j y hj hy]; simp; omega)
      clear hx HRG HB0
      have i0 : (0 : Int) ≤ (i : Int) := by omega
      have i1 : (i : Int) < (n : Int) := by omega
      go_wp2_with fail
      go_loopw [35] (fun vk wr2 => ∃ (k : Nat) (v : Value), vk = .int .i64 k ∧ k ≤ m ∧ (0 < k ∨ v = .slice none 0 0) ∧ Hid (Rag wr2 w.heap.size 59 5 w.heap.size n i H v k (u8s ((List.range k).map (gpow x)))) ∧ Hid (Below w.heap.size w wr2)) (fun vk _ => m - (intOf vk).toNat)
      case atStart => exact ⟨0, .slice none 0 0, rfl, by omega, .inr rfl, hR, hb⟩
      case round =>
        clear hc
        obtain ⟨k, v, rfl, hk, _, hR2, hb2⟩ := hrel
        by_cases hkm : k < m
        · have hP := Lib.hid (fun W => field_Pow' x k W hx256 (by omega))
          have k1 : (k : Int) < (m : Int) := by omega
          have HE : Hid (u8s ((List.range (k + 1)).map (gpow x)) = u8s ((List.range k).map (gpow x)) ++ [.int .u8 (gpow x k : Int)]) := by
            show _ = _
            rw [List.range_succ, List.map_append, u8s_append]; rfl
          clear hR hb
          go_wp2_with (first
            | (go_at_call 115; refine (hP.out _).mono ?_; rintro e w3 ⟨rfl, hbp⟩; have hR3 := Lib.hid (hR2.out.below hbp); have hb3 := Lib.hid (hb2.out.trans (hbp.mono hb2.out.size)); have x1 := hR3.out.cell hin; have f1 := hR3.out.frozen)
            | (at_builtin; go_must (refine app_one2 rfl (.tmp 49) (.tmp 51) 59 rfl w.heap.size 5 _ 1 1 Try.underlying59 u8Info v k (u8s ((List.range k).map (gpow x))) (by rfl) hR3.out.cur [.int .u8 (gpow x k : Int)] (by rfl) rfl (by intro u hu; simp at hu; subst hu; rfl) (by unfold maxLen; omega) (by omega) hb3.out.size ?_); intro v4 w4 hown4 hgr4 hb4 hvb; obtain ⟨g4, c4, rfl⟩ := own_form hown4 (fun e => by simp at e); have X := Rag.app hR3.out hin HLZ.out hgr4 hown4 hvb; rw [← HE.out] at X; have hR4 := Lib.hid X.1; have hb5 : Hid (Below w.heap.size w (w4.setCell ⟨w.heap.size, i, none⟩ (.slice (some ⟨g4, 0, none⟩) (k + 1) c4))) := Lib.hid ((hb3.out.trans hb4).grown X.2 (hb3.out.trans hb4).size (fun q hq => by cases hq; exact hR3.out.top.lt.1)); have ⟨x2, f2⟩ := Rag.appTop hR3.out hin hgr4; clear X)
            | fail)
          clear hown4 hgr4 hb4 hvb hbp
          go_roundw
          case rel => exact ⟨k + 1, _, by go_num, by omega, .inl (by omega), hR4, hb5⟩
          case measure => simp [intOf]; omega
        · obtain rfl : k = m := by omega
          obtain ⟨g5, c5, rfl⟩ := own_form hR2.out.cur (fun e => by have := congrArg List.length e; rw [u8s_len] at this; simp at this; omega)
          have hcp := own_dataK hR2.out.cur
          obtain ⟨ao5, cp5, hv5, _, _, q5, q6⟩ := hcp
          cases hv5
          have X := Rag.clip hR2.out (by omega) (fun z hz => by obtain ⟨y, _, rfl⟩ := List.mem_map.1 hz; exact gpow_lt _)
          have hR4 := Lib.hid X.1
          have hb5 : Hid (Below w.heap.size w (wr.setCell ⟨w.heap.size, i, none⟩ (.slice (some ⟨g5, 0, none⟩) k k))) := Lib.hid (hb2.out.grown X.2 hb2.out.size (fun q hq => by cases hq; exact hR2.out.top.lt.1))
          have hH2 : Hid (∀ j y, j < i + 1 → Z[j]? = some y → (if j = i then (⟨some ⟨g5, 0, none⟩, k, (List.range k).map (gpow x)⟩ : Hd) else H j).Z = (List.range k).map (gpow y)) := Lib.hid (fun j y hj hy => by
            by_cases he : j = i
            · subst he
              rw [if_pos rfl]
              have e1 : x = y := by rw [HX.out] at hy; exact Option.some.inj hy
              rw [e1]
            · rw [if_neg he]; exact hH.out j y (by omega) hy)
          have x1 := hR2.out.cell hin
          have f1 := hR2.out.frozen
          have CC := Lib.hid (fun W => clip_u8 (some ⟨g5, 0, none⟩) k c5 W q6 q5)
          clear X hH hR hb
          go_wp2_with (go_at_call 116; refine (CC.out _).mono ?_; rintro e w5 ⟨rfl, rfl⟩)
          go_roundw
          case rel => exact ⟨i + 1, _, by go_num, by omega, hR4, hH2, hb5⟩
          case measure => simp [intOf]; omega
    · obtain rfl : i = n := by omega
      go_wp2_with fail
      go_ret2
      refine ⟨_, _, _, rfl, hR.out.tab, ?_, hb.out⟩
      unfold zof
      rw [List.map_map]
      apply List.ext_getElem?
      intro j
      by_cases hj : j < i
      · obtain ⟨y, hy⟩ : ∃ y, Z[j]? = some y := ⟨Z[j]'(by rw [HN.out]; exact hj), List.getElem?_eq_getElem _⟩
        rw [List.getElem?_map, List.getElem?_range hj, List.getElem?_map, hy]
        simp only [Option.map_some, Function.comp]
        rw [hH.out j y hj hy]
      · rw [List.getElem?_eq_none (by simp; omega), List.getElem?_eq_none (by rw [List.length_map, HN.out]; omega)]
end Go.Proofs.Ytgdcmebhopjfaaa
