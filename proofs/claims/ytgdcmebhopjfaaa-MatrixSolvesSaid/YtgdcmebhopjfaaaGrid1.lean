/- grid.check, slices.Compact at bytes, wholeref.Unlike. -/
import Derived.Test.YtgdcmebhopjfaaaRows
import Derived.Test.YtgdcmebhopjfaaaContB
import Derived.Test.YtgdcmebhopjfaaaTab2
import Derived.Test.YtgdcmebhopjfaaaTwo
import Derived.Test.YtgdcmebhopjfaaaCloneB
import Derived.Test.YtgdcmebhopjfaaaSortB
import Derived.Test.YtgdcmebhopjfaaaMatrix1
namespace Go.Proofs.Ytgdcmebhopjfaaa
open Go.RowKit

/-- The error of some bytes that must be unlike. -/
def unE (l : List Nat) : Int := if l.length = 0 ∨ 12 < l.length then 2 else if l.Nodup then 0 else 6
theorem natInt_mem {x : Nat} {l : List Nat} : (x : Int) ∈ l.map (fun x : Nat => (x : Int)) ↔ x ∈ l := by
  rw [List.mem_map]
  exact ⟨fun ⟨y, h1, h2⟩ => by have := Int.ofNat.inj h2; subst this; exact h1, fun h => ⟨x, h, rfl⟩⟩
theorem contains_nat (x : Nat) (l : List Nat) (n : Nat) (ao : Option Addr) (cap : Nat) (w : World) (hn : l.length = n) (hl : n ≤ 9223372036854775807) (hR : Hid (Reads w ao (u8s l))) :
    Calls Try.prog 53 #[.slice ao n cap, .int .u8 x] w fun e w' => e = .returned (.bool (decide (x ∈ l))) ∧ ∃ n, w' = w.drewN n := by
  refine (contains_u8 (x : Int) (l.map fun x : Nat => (x : Int)) n ao cap w (by simpa using hn) hl (by rw [← u8s_ints]; exact hR)).mono ?_
  rintro e w' ⟨rfl, h⟩
  refine ⟨ret_bool ?_, h⟩
  by_cases hx : x ∈ l
  · rw [decide_eq_true hx, decide_eq_true (natInt_mem.2 hx)]
  · rw [decide_eq_false hx, decide_eq_false fun h => hx (natInt_mem.1 h)]
theorem nodup_take_succ {l : List Nat} {k x : Nat} (hx : l[k]? = some x) : (l.take (k + 1)).Nodup ↔ (l.take k).Nodup ∧ x ∉ l.take k := by
  have e : l.take (k + 1) = l.take k ++ [x] := by rw [List.take_add_one, hx]; rfl
  rw [e, List.nodup_append]
  simp only [List.nodup_cons, List.not_mem_nil, not_false_eq_true, List.nodup_nil, and_self, true_and, List.mem_singleton]
  constructor
  · rintro ⟨h1, h2⟩
    exact ⟨h1, fun h => h2 x h x rfl rfl⟩
  · rintro ⟨h1, h2⟩
    exact ⟨h1, fun a ha b hb e => h2 (by rw [← hb, ← e]; exact ha)⟩
set_option maxRecDepth 20000 in
set_option maxHeartbeats 1000000 in
theorem grid_check (h : Hd) (w : World) (hh : RowOk w h) :
    Calls Try.prog 114 #[h.v] w fun e w' => e = .returned (.int .i64 (unE h.Z)) ∧ ∃ n, w' = w.drewN n := by
  obtain ⟨A, C, Z⟩ := h
  obtain ⟨n, hn⟩ : ∃ n, Z.length = n := ⟨_, rfl⟩
  have m1 := hh.cap
  have m2 := hh.max
  have m3 := hh.none
  simp only at m1 m2 m3
  have HR : Hid (Reads w A (u8s Z)) := hh.reads
  rw [hn] at m1 m3
  unfold Hd.v
  simp only
  rw [hn]
  have HN := Lib.hid hn
  clear hh
  by_cases h0 : n = 0
  · have hE : Hid (unE Z = 2) := by show _ = _; unfold unE; rw [if_pos (by omega)]
    subst h0
    clear m3
    go_enter Try.func114, Try.ntmps114
    go_wp2_with fail
    go_ret
    exact ⟨by rw [hE.out]; rfl, 0, rfl⟩
  · have hn1 : ¬ (n : Int) < 1 := by omega
    by_cases h12 : 12 < n
    · have hE : Hid (unE Z = 2) := by show _ = _; unfold unE; rw [if_pos (by omega)]
      have hn2 : (12 : Int) < (n : Int) := by omega
      clear m3
      go_enter Try.func114, Try.ntmps114
      go_wp2_with fail
      go_ret
      exact ⟨by rw [hE.out]; rfl, 0, rfl⟩
    · have hE : Hid (unE Z = if Z.Nodup then 0 else 6) := by show _ = _; unfold unE; rw [if_neg (by omega)]
      have hn2 : ¬ (12 : Int) < (n : Int) := by omega
      cases A with
      | none => have := m3 rfl; omega
      | some ad =>
      clear m3
      go_enter Try.func114, Try.ntmps114
      go_wp2_with fail
      go_loopw [15] (fun vi wr => ∃ k : Nat, vi = .int .i64 k ∧ k ≤ n ∧ Hid ((Z.take k).Nodup) ∧ ∃ m, wr = w.drewN m) (fun vi _ => n - (intOf vi).toNat)
      case atStart => exact ⟨0, rfl, by omega, Lib.hid (by simp), 0, rfl⟩
      case round =>
        obtain ⟨k, rfl, hk, hnd, m, rfl⟩ := hrel
        by_cases hkl : k < n
        · obtain ⟨x, hx⟩ : ∃ x, Z[k]? = some x := ⟨Z[k]'(by rw [HN.out]; exact hkl), List.getElem?_eq_getElem _⟩
          obtain ⟨b, o, hb, hc⟩ := HR.out k _ (u8s_get hx)
          cases hb
          have HX := Lib.hid hx
          have CC := Lib.hid (contains_nat x (Z.take k) k (some ⟨b, o, none⟩) C (w.drewN m) (by rw [List.length_take]; omega) (by omega) (Lib.hid (by
            intro j u hu
            have h1 : (u8s Z)[j]? = some u := by
              unfold u8s at hu ⊢
              rw [List.map_take, List.getElem?_take] at hu
              split at hu
              · exact hu
              · cases hu
            exact HR.out j u h1)))
          clear hx
          have i0 : (0 : Int) ≤ (k : Int) := by omega
          have i1 : (k : Int) < (n : Int) := by omega
          have i2 : (k : Int) ≤ (C : Int) := by omega
          have i3 : k ≤ C := by omega
          by_cases hm : x ∈ Z.take k
          · rw [decide_eq_true hm] at CC
            have hE2 : Hid (unE Z = 6) := by
              show _ = _
              rw [hE.out, if_neg fun h => ((nodup_take_succ HX.out).1 (h.sublist (List.take_sublist _ _))).2 hm]
            clear hm
            go_wp2_with (go_at_call 53; refine CC.out.mono ?_; rintro e w' ⟨rfl, m2, rfl⟩)
            go_ret
            exact ⟨by rw [hE2.out]; rfl, by first | exact ⟨_, rfl⟩ | exact dr2 _ _ _⟩
          · rw [decide_eq_false hm] at CC
            have HM := Lib.hid hm
            clear hm
            go_wp2_with (go_at_call 53; refine CC.out.mono ?_; rintro e w' ⟨rfl, m2, rfl⟩)
            go_roundw
            case rel => exact ⟨k + 1, by go_num, by omega, (nodup_take_succ HX.out).2 ⟨hnd.out, HM.out⟩, by first | exact ⟨_, rfl⟩ | exact dr2 _ _ _⟩
            case measure => simp [intOf]; omega
        · obtain rfl : k = n := by omega
          have hE2 : Hid (unE Z = 0) := by
            show _ = _
            rw [hE.out, if_pos]
            have := hnd.out
            rwa [← HN.out, List.take_length] at this
          go_wp2
          go_ret
          exact ⟨by rw [hE2.out]; rfl, _, rfl⟩
end Go.Proofs.Ytgdcmebhopjfaaa
