/- grid.check, slices.Compact at bytes, wholeref.Unlike. -/
import Derived.Test.YtgdcmebhopjfaaaRows
import Derived.Test.YtgdcmebhopjfaaaTrM25
import Derived.Test.YtgdcmebhopjfaaaTab2
import Derived.Test.YtgdcmebhopjfaaaTrM8
import Derived.Test.YtgdcmebhopjfaaaTrM22
import Derived.Test.YtgdcmebhopjfaaaTrM26
import Derived.Test.YtgdcmebhopjfaaaMatrix1
import Derived.Shelf.SlicesE.Compact
import Derived.Lib.OwnBridge
import Derived.Test.YtgdcmebhopjfaaaTrM7
namespace Go.Proofs.Ytgdcmebhopjfaaa
open Go.RowKit

/-- The error of some bytes that must be unlike. -/
def unE (l : List Nat) : Int := if l.length = 0 ∨ 12 < l.length then 2 else if l.Nodup then 0 else 6
theorem natInt_mem {x : Nat} {l : List Nat} : (x : Int) ∈ l.map (fun x : Nat => (x : Int)) ↔ x ∈ l := by
  rw [List.mem_map]
  exact ⟨fun ⟨y, h1, h2⟩ => by have := Int.ofNat.inj h2; subst this; exact h1, fun h => ⟨x, h, rfl⟩⟩
theorem contains_nat (x : Nat) (l : List Nat) (n : Nat) (ao : Option Addr) (cap : Nat) (w : World) (hn : l.length = n) (hl : n ≤ 9223372036854775807) (hR : Hid (Reads w ao (u8s l))) :
    Calls Try.prog 53 #[.slice ao n cap, .int .u8 x] w fun e w' => e = .returned (.bool (decide (x ∈ l))) ∧ ∃ n, w' = w.drewN n := by
  refine (contains_u8 (x : Int) (l.map fun x : Nat => (x : Int)) n ao cap w (by simpa using hn) hl (by rw [← u8s_ints]; exact hR)).mono ?_
  rintro e w' ⟨rfl, h⟩
  refine ⟨ret_bool ?_, h⟩
  by_cases hx : x ∈ l
  · rw [decide_eq_true hx, decide_eq_true (natInt_mem.2 hx)]
  · rw [decide_eq_false hx, decide_eq_false fun h => hx (natInt_mem.1 h)]
theorem nodup_take_succ {l : List Nat} {k x : Nat} (hx : l[k]? = some x) : (l.take (k + 1)).Nodup ↔ (l.take k).Nodup ∧ x ∉ l.take k := by
  have e : l.take (k + 1) = l.take k ++ [x] := by rw [List.take_add_one, hx]; rfl
  rw [e, List.nodup_append]
  simp only [List.nodup_cons, List.not_mem_nil, not_false_eq_true, List.nodup_nil, and_self, true_and, List.mem_singleton]
  constructor
  · rintro ⟨h1, h2⟩
    exact ⟨h1, fun h => h2 x h x rfl rfl⟩
  · rintro ⟨h1, h2⟩
    exact ⟨h1, fun a ha b hb e => h2 (by rw [← hb, ← e]; exact ha)⟩
set_option maxRecDepth 20000 in
set_option maxHeartbeats 1000000 in
theorem grid_check (h : Hd) (w : World) (hh : RowOk w h) :
    Calls Try.prog 114 #[h.v] w fun e w' => e = .returned (.int .i64 (unE h.Z)) ∧ ∃ n, w' = w.drewN n := by
  obtain ⟨A, C, Z⟩ := h
  obtain ⟨n, hn⟩ : ∃ n, Z.length = n := ⟨_, rfl⟩
  have m1 := hh.cap
  have m2 := hh.max
  have m3 := hh.none
  simp only at m1 m2 m3
  have HR : Hid (Reads w A (u8s Z)) := hh.reads
  rw [hn] at m1 m3
  unfold Hd.v
  simp only
  rw [hn]
  have HN := Lib.hid hn
  clear hh
  by_cases h0 : n = 0
  · have hE : Hid (unE Z = 2) := by show _ = _; unfold unE; rw [if_pos (by omega)]
    subst h0
    clear m3
    go_enter Try.func114, Try.ntmps114
    go_wp2_with fail
    go_ret
    exact ⟨by rw [hE.out]; rfl, 0, rfl⟩
  · have hn1 : ¬ (n : Int) < 1 := by omega
    by_cases h12 : 12 < n
    · have hE : Hid (unE Z = 2) := by show _ = _; unfold unE; rw [if_pos (by omega)]
      have hn2 : (12 : Int) < (n : Int) := by omega
      clear m3
      go_enter Try.func114, Try.ntmps114
      go_wp2_with fail
      go_ret
      exact ⟨by rw [hE.out]; rfl, 0, rfl⟩
    · have hE : Hid (unE Z = if Z.Nodup then 0 else 6) := by show _ = _; unfold unE; rw [if_neg (by omega)]
      have hn2 : ¬ (12 : Int) < (n : Int) := by omega
      cases A with
      | none => have := m3 rfl; omega
      | some ad =>
      clear m3
      go_enter Try.func114, Try.ntmps114
      go_wp2_with fail
      go_loopw [15] (fun vi wr => ∃ k : Nat, vi = .int .i64 k ∧ k ≤ n ∧ Hid ((Z.take k).Nodup) ∧ ∃ m, wr = w.drewN m) (fun vi _ => n - (intOf vi).toNat)
      case atStart => exact ⟨0, rfl, by omega, Lib.hid (by simp), 0, rfl⟩
      case round =>
        obtain ⟨k, rfl, hk, hnd, m, rfl⟩ := hrel
        by_cases hkl : k < n
        · obtain ⟨x, hx⟩ : ∃ x, Z[k]? = some x := ⟨Z[k]'(by rw [HN.out]; exact hkl), List.getElem?_eq_getElem _⟩
          obtain ⟨b, o, hb, hc⟩ := HR.out k _ (u8s_get hx)
          cases hb
          have HX := Lib.hid hx
          have CC := Lib.hid (contains_nat x (Z.take k) k (some ⟨b, o, none⟩) C (w.drewN m) (by rw [List.length_take]; omega) (by omega) (Lib.hid (by
            intro j u hu
            have h1 : (u8s Z)[j]? = some u := by
              unfold u8s at hu ⊢
              rw [List.map_take, List.getElem?_take] at hu
              split at hu
              · exact hu
              · cases hu
            exact HR.out j u h1)))
          clear hx
          have i0 : (0 : Int) ≤ (k : Int) := by omega
          have i1 : (k : Int) < (n : Int) := by omega
          have i2 : (k : Int) ≤ (C : Int) := by omega
          have i3 : k ≤ C := by omega
          by_cases hm : x ∈ Z.take k
          · rw [decide_eq_true hm] at CC
            have hE2 : Hid (unE Z = 6) := by
              show _ = _
              rw [hE.out, if_neg fun h => ((nodup_take_succ HX.out).1 (h.sublist (List.take_sublist _ _))).2 hm]
            clear hm
            go_wp2_with (go_at_call 53; refine CC.out.mono ?_; rintro e w' ⟨rfl, m2, rfl⟩)
            go_ret
            exact ⟨by rw [hE2.out]; rfl, by first | exact ⟨_, rfl⟩ | exact dr2 _ _ _⟩
          · rw [decide_eq_false hm] at CC
            have HM := Lib.hid hm
            clear hm
            go_wp2_with (go_at_call 53; refine CC.out.mono ?_; rintro e w' ⟨rfl, m2, rfl⟩)
            go_roundw
            case rel => exact ⟨k + 1, by go_num, by omega, (nodup_take_succ HX.out).2 ⟨hnd.out, HM.out⟩, by first | exact ⟨_, rfl⟩ | exact dr2 _ _ _⟩
            case measure => simp [intOf]; omega
        · obtain rfl : k = n := by omega
          have hE2 : Hid (unE Z = 0) := by
            show _ = _
            rw [hE.out, if_pos]
            have := hnd.out
            rwa [← HN.out, List.take_length] at this
          go_wp2
          go_ret
          exact ⟨by rw [hE2.out]; rfl, _, rfl⟩
end Go.Proofs.Ytgdcmebhopjfaaa
namespace Go.Proofs.Ytgdcmebhopjfaaa
open Go.RowKit

def compu8_ren : Go.Shelf.Ren := ⟨fun | 43 => 119 | n => n, fun | 22 => 59 | 23 => 5 | 3 => 3 | 4 => 4 | 0 => 0 | n => n, fun | n => n⟩
theorem compu8 : Go.Proofs.SlLaysE.n43 Try.prog compu8_ren := {
  mixed := by kernel_rfl
  f43 := ⟨Try.f119.name, by decide, Try.func119.trans (congrArg some (by kernel_rfl))⟩
  t0 := Try.underlying0
  a0 := Try.isAgg0
  z0 := Try.sizeOf0
  v0 := Try.zeroValue0
  t3 := Try.underlying3
  a3 := Try.isAgg3
  z3 := Try.sizeOf3
  v3 := Try.zeroValue3
  t4 := Try.underlying4
  a4 := Try.isAgg4
  z4 := Try.sizeOf4
  v4 := Try.zeroValue4
  t22 := Try.underlying59
  a22 := Try.isAgg59
  z22 := Try.sizeOf59
  v22 := Try.zeroValue59
  a23 := Try.isAgg5
  z23 := Try.sizeOf5 }
/-- Neighbours that are alike are let go. -/
def cmpL (zs : List Int) : List Int := Lib.compactUpTo zs.toArray zs.length
theorem cmpL_len (zs : List Int) : (cmpL zs).length ≤ zs.length := by
  unfold cmpL Lib.compactUpTo
  rw [List.length_map]
  exact Nat.le_trans (List.length_filter_le _ _) (by simp)
theorem compact_u8 (zs : List Int) (n base g cap : Nat) (w : World) (hO : w.ownsRow base 5 1 (.slice (some ⟨g, 0, none⟩) n cap) n (zs.map (Value.int .u8))) :
    Calls Try.prog 119 #[.slice (some ⟨g, 0, none⟩) n cap] w fun e w' => e = .returned (.slice (some ⟨g, 0, none⟩) (cmpL zs).length cap) ∧ w'.ownsRow base 5 1 (.slice (some ⟨g, 0, none⟩) (cmpL zs).length cap) (cmpL zs).length ((cmpL zs).map (Value.int .u8)) ∧ w.grownBy w' (some g) := by
  obtain ⟨g', cap', hv, hb, hlt, hn, hm, hl, hH⟩ := Lib.holds_of_ownsRow hO (by intro h; cases h)
  cases hv
  have hsz : zs.toArray.size = n := by simpa using hl
  have h := AnyE.slices_Compact compu8 (Value.int .u8) (fun _ => rfl) (EqlAt.intD _ _ _) (NeqAt.intD _ _ _) 0 (fun w => by first | exact Try.zeroValue5 w | (rw [Try.zeroValue5]; rfl)) g 0 cap zs.toArray w hH (by rw [hsz]; unfold maxLen at hm; omega) (by omega)
  rw [hsz] at h
  have e1 : Lib.compactUpTo zs.toArray n = cmpL zs := by unfold cmpL; rw [hl]
  have hle := cmpL_len zs
  rw [e1] at h
  refine h.mono ?_
  rintro e w' ⟨rfl, q, rfl⟩
  refine ⟨rfl, ?_, ?_⟩
  · have h2 := Lib.ownsRow_putRow (q := q) (ys := cmpL zs ++ List.replicate (n - (cmpL zs).length) 0) (k := (cmpL zs).length) hO (by rw [List.length_append, List.length_replicate]; omega) (by omega)
    rw [List.take_left' rfl] at h2
    exact h2
  · have hb := Lib.below_putRow (q := q) (enc := Value.int .u8) (d := (cmpL zs ++ List.replicate (n - (cmpL zs).length) 0).toArray) (Below.refl g w) (Nat.le_refl g)
    refine ⟨hb.os, hb.tape, hb.output, hb.size, fun k hk hne => ?_⟩
    have : g ≠ k := fun e => hne (by rw [e])
    simp [Sort.putRow, Sort.mapBlock, Sort.ahead, Array.getElem?_modify, this]
end Go.Proofs.Ytgdcmebhopjfaaa
namespace Go.Proofs.Ytgdcmebhopjfaaa
open Go.RowKit

theorem keeps_nat (n : Nat) (f : Nat → Nat) (j : Nat) (hj : j < n) : Lib.keeps ((rowN n f).map fun x : Nat => (x : Int)).toArray j = true ↔ (j = 0 ∨ f j ≠ f (j - 1)) := by
  have get : ∀ i, i < n → ((rowN n f).map fun x : Nat => (x : Int)).toArray[i]! = (f i : Int) := by
    intro i hi
    rw [getElem!_pos _ i (by simp [rowN, hi])]
    simp [rowN]
  unfold Lib.keeps
  rw [decide_eq_true_eq, get j hj]
  by_cases h0 : j = 0
  · simp [h0]
  · rw [get (j - 1) (by omega)]
    simp only [h0, false_or]
    constructor
    · intro h e; exact h (by rw [e])
    · intro h e; exact h (Int.ofNat.inj e)
theorem cmpL_nodup (n : Nat) (f : Nat → Nat) (hs : SrtN f n) : (cmpL ((rowN n f).map fun x : Nat => (x : Int))).length = n ↔ (rowN n f).Nodup := by
  have hl : ((rowN n f).map fun x : Nat => (x : Int)).length = n := by simp [rowN]
  have h1 : (cmpL ((rowN n f).map fun x : Nat => (x : Int))).length = n ↔ ∀ j, j < n → (j = 0 ∨ f j ≠ f (j - 1)) := by
    unfold cmpL Lib.compactUpTo
    rw [List.length_map, hl]
    have h2 := List.length_filter_eq_length_iff (p := Lib.keeps ((rowN n f).map fun x : Nat => (x : Int)).toArray) (l := List.range n)
    rw [List.length_range] at h2
    rw [h2]
    constructor
    · intro h j hj; exact (keeps_nat n f j hj).1 (h j (List.mem_range.2 hj))
    · intro h j hj; exact (keeps_nat n f j (List.mem_range.1 hj)).2 (h j (List.mem_range.1 hj))
  rw [h1]
  have hnd : (rowN n f).Nodup ↔ ∀ p q, p < q → q < n → f p ≠ f q := by
    unfold rowN
    rw [List.Nodup, List.pairwise_map]
    constructor
    · intro h p q hp hq
      have := List.pairwise_iff_getElem.1 h p q (by simp; omega) (by simp; omega) hp
      simpa using this
    · intro h
      rw [List.pairwise_iff_getElem]
      intro p q hp hq hpq
      simp at hp hq ⊢
      exact h p q hpq hq
  rw [hnd]
  constructor
  · intro h p q hpq hq
    have h3 := h q hq
    have h4 : f p ≤ f (q - 1) := by
      by_cases e : p = q - 1
      · rw [e]; exact Nat.le_refl _
      · exact hs p (q - 1) (by omega) (by omega)
    have h5 := hs (q - 1) q (by omega) hq
    omega
  · intro h j hj
    by_cases h0 : j = 0
    · exact .inl h0
    · exact .inr fun e => h (j - 1) j (by omega) hj e.symm
theorem rowN_getD (l : List Nat) (n : Nat) (h : l.length = n) : rowN n (fun j => l.getD j 0) = l := by
  subst h
  apply List.ext_getElem?
  intro j
  by_cases hj : j < l.length
  · rw [rowN_get _ hj, List.getD_eq_getElem?_getD, List.getElem?_eq_getElem hj]; rfl
  · rw [List.getElem?_eq_none (by rw [rowN_len]; omega), List.getElem?_eq_none (by omega)]
theorem rowF_cellu8 (n : Nat) (f : Nat → Nat) : rowF n (cellu8 f) = ((rowN n f).map fun x : Nat => (x : Int)).map (Value.int .u8) := by
  unfold rowF rowN cellu8
  rw [List.map_map, List.map_map]
  rfl
set_option maxRecDepth 20000 in
set_option maxHeartbeats 1000000 in
theorem ref_Unlike (h : Hd) (w : World) (hh : RowOk w h) :
    Calls Try.prog 49 #[h.v] w (ErrPost (unE h.Z) w) := by
  obtain ⟨A, C, Z⟩ := h
  obtain ⟨n, hn⟩ : ∃ n, Z.length = n := ⟨_, rfl⟩
  have m1 := hh.cap
  have m2 := hh.max
  have m3 := hh.none
  simp only at m1 m2 m3
  have HR : Hid (Reads w A (u8s Z)) := hh.reads
  rw [hn] at m1 m3
  unfold Hd.v
  simp only
  rw [hn]
  have HN := Lib.hid hn
  clear hh
  by_cases h0 : n = 0
  · have hE : Hid (unE Z = 2) := by show _ = _; unfold unE; rw [if_pos (by omega)]
    subst h0
    clear m3
    go_enter Try.func49, Try.ntmps49
    go_wp2_with fail
    go_ret
    exact ⟨by rw [hE.out]; rfl, Below.refl _ _⟩
  · have hb0 : ((n : Int) == 0) = false := by simp; omega
    by_cases h12 : 12 < n
    · have hE : Hid (unE Z = 2) := by show _ = _; unfold unE; rw [if_pos (by omega)]
      have hn2 : (12 : Int) < (n : Int) := by omega
      clear m3
      go_enter Try.func49, Try.ntmps49
      go_wp2_with fail
      go_ret
      exact ⟨by rw [hE.out]; rfl, Below.refl _ _⟩
    · have hE : Hid (unE Z = if Z.Nodup then 0 else 6) := by show _ = _; unfold unE; rw [if_neg (by omega)]
      have hn2 : ¬ (12 : Int) < (n : Int) := by omega
      have CC := Lib.hid (clone_u8 n (u8s Z) A C w.heap.size w (by omega) (by rw [u8s_len]; exact hn) m3 HR (Lib.hid (u8s_one Z)) (Nat.le_refl _))
      obtain ⟨f, hf⟩ : ∃ f : Nat → Nat, (fun j => Z.getD j 0) = f := ⟨_, rfl⟩
      have hfZ : Hid (rowN n f = Z) := by show _ = _; rw [← hf]; exact rowN_getD Z n hn
      have hU : Hid (u8s Z = rowF n (cellu8 f)) := by show _ = _; rw [rowF_cellu8, ← u8s_ints, hfZ.out]
      clear m3 hf hn
      go_enter Try.func49, Try.ntmps49
      go_wp2_with (first
        | (go_at_call 45; refine CC.out.mono ?_; rintro e w1 ⟨v, rfl, hown, hb1⟩; rw [hU.out] at hown; obtain ⟨g, cp, rfl, hO⟩ := own_formK hown (fun e => by have := congrArg List.length e; rw [rowF_length] at this; simp at this; omega) rfl)
        | (go_at_call 118; refine (sort_u8 n f w.heap.size g cp w1 (by omega) hO hb1.size).mono ?_; rintro e w2 ⟨rfl, f', hO2, hp, hs, hb2⟩)
        | (go_at_call 119; refine (compact_u8 ((rowN n f').map fun x : Nat => (x : Int)) n w.heap.size g cp w2 (by rw [← rowF_cellu8]; exact hO2)).mono ?_; rintro e w3 ⟨rfl, hO3, hg3⟩; have hcl := cmpL_len ((rowN n f').map fun x : Nat => (x : Int)); rw [List.length_map, rowN_len] at hcl; have hcn := cmpL_nodup n f' hs; obtain ⟨m, hm⟩ : ∃ m, (cmpL ((rowN n f').map fun x : Nat => (x : Int))).length = m := ⟨_, rfl⟩; rw [hm] at hcl hcn ⊢; have hb3 := (hb1.trans hb2).grown hg3 (hb1.trans hb2).size (fun k hk => by cases hk; exact hO2.lt.1); have hcn2 : m = n ↔ Z.Nodup := hcn.trans (hp.nodup_iff.trans (by rw [hfZ.out])); have HC := Lib.hid hcn2; clear hcn hcn2 hm hO3 hO2 hg3 hown hO hp hs)
        | fail)
      all_goals
        go_ret
        refine ⟨?_, hb3⟩
        rw [hE.out]
        first
          | (rw [if_neg fun h => by have := HC.out.2 h; omega]; rfl)
          | (rw [if_pos (HC.out.1 (by omega))]; rfl)
end Go.Proofs.Ytgdcmebhopjfaaa
