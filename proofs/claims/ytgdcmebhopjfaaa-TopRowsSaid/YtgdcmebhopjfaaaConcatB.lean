/- slices.Grow at nil and slices.Concat of two, at bytes. -/
import Derived.Test.YtgdcmebhopjfaaaTab2
import Derived.Test.YtgdcmebhopjfaaaTrM22
import Derived.Lib.AppendZerosOnto
import Derived.Lib.SliceRun
namespace Go.Proofs.Ytgdcmebhopjfaaa
open Go.RowKit Go.Lib

set_option maxRecDepth 100000 in
set_option maxHeartbeats 2000000 in
theorem grow_nilB (n base : Nat) (w : World) (h1 : 1 ≤ n) (hn : n ≤ 1000000) (hb : base ≤ w.heap.size) :
    Calls Try.prog 156 #[.slice none 0 0, .int .i64 n] w fun e w' => ∃ v, e = .returned v ∧ w'.ownsRow base 5 1 v 0 [] ∧ Below base w w' := by
  obtain ⟨i, hi, hz, hsize, hby, hzs, hsz⟩ := u8Info
  have hold : (Builtin.firstCells i.size 0 (.slice none 0 0)).run Try.prog w.drew = .ok #[] w.drew := run_firstCells_none w.drew i.size 0 0 0
  have hrz : ∀ ty, (Builtin.append_ #[59, 3] ty #[.slice none 0 0, .int .i64 n]).run Try.prog w =
      .ok (.slice (some ⟨w.heap.size, 0, none⟩) (0 + n) (grownCap w (0 + n) 0 5)) (w.drew.alloc (.cells (#[] ++ Builtin.zeroCells (Value.int .u8 0).cells n ++ Builtin.zeroCells (Value.int .u8 0).cells (grownCap w (0 + n) 0 5 - (0 + n))) 5)) := fun ty =>
    Lib.run_append_grow_zeros w 59 3 ty 5 i (.int .u8 0) .i64 .i64 Try.underlying59 Try.underlying3 hi hz none 0 0 [] hold n (by omega) (by omega) (by omega) (by omega) (by rw [hby]; omega)
      (growslice_fits (by omega) (by rw [hby]; omega))
  have hg1 := grownCap_ge w (0 + n) 0 5
  have hg2 := grownCap_le_maxLen w (0 + n) 0 5 (by unfold maxLen; omega)
  obtain ⟨G, hG⟩ : ∃ G, grownCap w (0 + n) 0 5 = G := ⟨_, rfl⟩
  rw [hG] at hg1 hg2
  rw [Nat.zero_add] at hG
  obtain ⟨cs, hcs⟩ : ∃ cs, (#[] ++ Builtin.zeroCells (Value.int .u8 0).cells n ++ Builtin.zeroCells (Value.int .u8 0).cells (G - n)) = cs := ⟨_, rfl⟩
  have hcsz : cs.size = G := by
    rw [← hcs]
    simp [Builtin.zeroCells, Value.cells]
    omega
  have hrz2 : ∀ ty, (Builtin.append_ #[59, 3] ty #[.slice none 0 0, .int .i64 n]).run Try.prog w = .ok (.slice (some ⟨w.heap.size, 0, none⟩) n G) (w.drew.alloc (.cells cs 5)) := fun ty => by
    have h := hrz ty
    rw [Nat.zero_add, hG, hcs] at h
    exact h
  clear hrz
  have n0 : ¬ ((n : Int) < 0) := by omega
  have n1 : decide ((0 : Int) < n) = true := by simp; omega
  have wn : IntKind.i64.wrap (n : Int) = n := IntWalk.i64_in _ (by omega)
  have hG63 : G ≤ 9223372036854775807 := by unfold maxLen at hg2; omega
  have hown : Hid ((w.drew.alloc (.cells cs 5)).ownsRow base 5 1 (.slice (some ⟨w.heap.size, 0, none⟩) 0 G) 0 []) :=
    ⟨by simp, .inr ⟨w.heap.size, G, cs, rfl, hb, heap_alloc_new w.drew _, Nat.zero_le _, by unfold maxLen; omega, by omega, by simp⟩⟩
  have hbel : Hid (Below base w (w.drew.alloc (.cells cs 5))) := (below_drewN (Below.refl base w) 1).alloc hb _
  clear hold hcs hG hi hz hsize hby hzs hcsz
  go_enter Try.func156, Try.ntmps156
  go_wp2_with (at_builtin; refine Lib.wpList_append_run _ rfl _ _ _ _ rfl _ _ rfl rfl _ _ (hrz2 _) ?_)
  all_goals
    go_ret
    exact ⟨_, rfl, hown.out, hbel.out⟩
def ListPostB (base : Nat) (zs : List Int) (w : World) (e : Ending) (w' : World) : Prop :=
  ∃ v, e = .returned v ∧ w'.ownsRow base 5 1 v zs.length (zs.map (Value.int .u8)) ∧ Below base w w'
def partsB (u v : List Int) (i : Nat) : List Int := if i = 0 then [] else if i = 1 then u else u ++ v
set_option maxRecDepth 100000 in
set_option maxHeartbeats 2000000 in
theorem concat_twoB (u v : List Int) (lu lv : Nat) (a b : Option Addr) (ca cb B : Nat) (w : World) (hlu : u.length = lu) (hlv : v.length = lv) (h1 : 1 ≤ lu) (h2 : lu + lv ≤ 1000000) (hna : a = none → lu = 0 ∧ ca = 0) (hnb : b = none → lv = 0 ∧ cb = 0)
    (hc0 : w.cell? ⟨B, 0, none⟩ = some (.slice a lu ca)) (hc1 : w.cell? ⟨B, 1, none⟩ = some (.slice b lv cb)) (hu : Hid (Reads w a (u.map (Value.int .u8)))) (hv : Hid (Reads w b (v.map (Value.int .u8)))) :
    Calls Try.prog 113 #[.slice (some ⟨B, 0, none⟩) 2 2] w (ListPostB w.heap.size (u ++ v) w) := by
  have HLU := Lib.hid hlu
  have HLV := Lib.hid hlv
  have HNA := Lib.hid hna
  have HNB := Lib.hid hnb
  have HU1 : Hid ((u.map (Value.int .u8)).length = lu * 1) := by show _ = _; rw [List.length_map]; omega
  have HV1 : Hid ((v.map (Value.int .u8)).length = lv * 1) := by show _ = _; rw [List.length_map]; omega
  have HC0 := Lib.hid hc0
  have HC1 := Lib.hid hc1
  clear hlu hlv hna hnb
  have CG := Lib.hid (fun w' (hb : w.heap.size ≤ w'.heap.size) => grow_nilB (lu + lv) w.heap.size w' (by omega) h2 hb)
  go_enter Try.func113, Try.ntmps113
  go_wp2_with fail
  go_loop [3, 11] (fun vs vi => ∃ i s : Nat, vi = .int .i64 i ∧ i ≤ 2 ∧ vs = .int .i64 s ∧ s ≤ 1000000 ∧ Hid (s = if i = 0 then 0 else if i = 1 then lu else lu + lv)) (fun _ vi => 2 - (intOf vi).toNat)
  case atStart => exact ⟨0, 0, rfl, by omega, rfl, by omega, rfl⟩
  case round =>
    obtain ⟨i, s, rfl, hi, rfl, hs, hse⟩ := hrel
    rcases (by omega : i = 0 ∨ i = 1 ∨ i = 2) with rfl | rfl | rfl
    · have hs0 : s = 0 := hse.out
      subst hs0
      have w1 : IntKind.i64.wrap (lu : Int) = lu := IntWalk.i64_in _ (by omega)
      have n1 : ¬ ((lu : Int) < 0) := by omega
      go_wp2_with fail
      go_round
      case rel => exact ⟨1, lu, by simp, by omega, by simp, by omega, rfl⟩
      case measure => simp [intOf]
    · have hs0 : s = lu := hse.out
      subst hs0
      have w1 : IntKind.i64.wrap ((s : Int) + lv) = (s : Int) + lv := IntWalk.i64_in _ (by omega)
      have n1 : ¬ ((s : Int) + lv < 0) := by omega
      go_wp2_with fail
      go_round
      case rel => exact ⟨2, s + lv, by simp, by omega, by simp, by omega, rfl⟩
      case measure => simp [intOf]
    · have hs0 : s = lu + lv := hse.out
      clear hse
      subst hs0
      go_wp2_with (go_at_call 156; refine (CG.out _ (Nat.le_refl _)).mono ?_; rintro e w1 ⟨v0, rfl, ho, hb⟩)
      have HO := Lib.hid ho
      have HB := Lib.hid hb
      clear ho hb
      go_loopw [6, 27] (fun vv vi wr => ∃ i : Nat, vi = .int .i64 i ∧ i ≤ 2 ∧ Hid (wr.ownsRow w.heap.size 5 1 vv (partsB u v i).length ((partsB u v i).map (Value.int .u8))) ∧ Hid (Below w.heap.size w wr)) (fun _ vi _ => 2 - (intOf vi).toNat)
      case atStart => exact ⟨0, rfl, by omega, HO, HB⟩
      case round =>
        obtain ⟨i, rfl, hi, hO, hB⟩ := hrel
        have k0 := (hB.out.cell (World.block_lt_of_cell? w _ HC0.out)).trans HC0.out
        have k1 := (hB.out.cell (World.block_lt_of_cell? w _ HC1.out)).trans HC1.out
        have hRu := Lib.hid (hu.out.below hB.out)
        have hRv := Lib.hid (hv.out.below hB.out)
        rcases (by omega : i = 0 ∨ i = 1 ∨ i = 2) with rfl | rfl | rfl
        · have hO' : Hid (wr.ownsRow w.heap.size 5 1 u6 0 []) := hO.out
          go_wp2_with (at_builtin; go_must (refine app_all rfl (.tmp 31) (.tmp 32) _ rfl w.heap.size 5 _ 1 1 Try.underlying59 u8Info u6 0 [] (by rfl) hO'.out a lu ca (u.map (Value.int .u8)) (by rfl) HNA.out HU1.out hRu.out (ints_one .u8 u) (by unfold maxLen; omega) (by omega) hB.out.size ?_); intro v2 w2 hown2 hgr2 hb2)
          have HO2 : Hid (w2.ownsRow w.heap.size 5 1 v2 (partsB u v 1).length ((partsB u v 1).map (Value.int .u8))) := by
            show World.ownsRow _ _ _ _ _ _ _
            have e : partsB u v 1 = u := rfl
            rw [e, HLU.out]
            simpa using hown2
          have HB2 := Lib.hid (hB.out.trans hb2)
          clear hown2 hgr2 hb2
          go_roundw
          case rel => exact ⟨1, by simp, by omega, HO2, HB2⟩
          case measure => simp [intOf]
        · have hO' : Hid (wr.ownsRow w.heap.size 5 1 u6 lu (u.map (Value.int .u8))) := by
            have h := hO.out
            have e : partsB u v 1 = u := rfl
            rw [e, HLU.out] at h
            exact h
          go_wp2_with (at_builtin; go_must (refine app_all rfl (.tmp 31) (.tmp 32) _ rfl w.heap.size 5 _ 1 1 Try.underlying59 u8Info u6 lu (u.map (Value.int .u8)) (by rfl) hO'.out b lv cb (v.map (Value.int .u8)) (by rfl) HNB.out HV1.out hRv.out (ints_one .u8 v) (by unfold maxLen; omega) (by omega) hB.out.size ?_); intro v2 w2 hown2 hgr2 hb2)
          have HO2 : Hid (w2.ownsRow w.heap.size 5 1 v2 (partsB u v 2).length ((partsB u v 2).map (Value.int .u8))) := by
            show World.ownsRow _ _ _ _ _ _ _
            have e : partsB u v 2 = u ++ v := rfl
            rw [e, List.length_append, HLU.out, HLV.out, List.map_append]
            exact hown2
          have HB2 := Lib.hid (hB.out.trans hb2)
          clear hown2 hgr2 hb2
          go_roundw
          case rel => exact ⟨2, by simp, by omega, HO2, HB2⟩
          case measure => simp [intOf]
        · have hfin : Hid (ListPostB w.heap.size (u ++ v) w (.returned u6) wr) := ⟨_, rfl, hO.out, hB.out⟩
          go_wp2_with fail
          go_ret
          exact hfin.out
end Go.Proofs.Ytgdcmebhopjfaaa
