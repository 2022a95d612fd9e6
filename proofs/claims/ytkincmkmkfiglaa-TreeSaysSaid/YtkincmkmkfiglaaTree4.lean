/- Contract of tree.up. -/
import Derived.Test.YtkincmkmkfiglaaRows
import Derived.Test.YtkincmkmkfiglaaTree2
import Derived.Test.YtkincmkmkfiglaaTreeN
import Derived.Test.YtkincmkmkfiglaaOne
import Derived.Deep.RegionLaw
import Derived.Deep.RegionHeld3
namespace Go.Proofs.Ytkincmkmkfiglaa
open Go.RowKit

def uL (l : List Nat) : List Value := l.map fun x => .int .u64 (x : Nat)
theorem uL_snoc (l : List Nat) (x : Nat) : uL (l ++ [x]) = uL l ++ [.int .u64 (x : Nat)] := by unfold uL; rw [List.map_append]; rfl
theorem uL_get {l : List Nat} {k x : Nat} (h : l[k]? = some x) : (uL l)[k]? = some (.int .u64 (x : Nat)) := by unfold uL; rw [List.getElem?_map, h]; rfl
theorem uL_length (l : List Nat) : (uL l).length = l.length := List.length_map _
theorem take_snocN {l : List Nat} {k x : Nat} (h : l[k]? = some x) : l.take (k + 1) = l.take k ++ [x] := by
  rw [List.take_succ_eq_append_getElem (List.getElem?_eq_some_iff.1 h).1, (List.getElem?_eq_some_iff.1 h).2]
theorem u64InfoT : ElemRow Try.prog 65 (.int .u64 0) 1 8 := elemRow_of (by kernel_rfl) rfl (by omega)
def RowU (l : List Nat) (w : World) (e : Ending) (w' : World) : Prop :=
  ∃ v, e = .returned v ∧ w'.ownsRow w.heap.size 65 1 v l.length (uL l) ∧ Below w.heap.size w w'
set_option maxRecDepth 20000 in
set_option maxHeartbeats 1000000 in
theorem tree_up (l : List Nat) (len : Nat) (ao : Option Addr) (cap : Nat) (w : World) (hl : l.length = len) (h16 : len ≤ 16) (hb : Hid (∀ x ∈ l, x < 18446744073709551616)) (hR : Hid (Reads w ao (uL l))) :
    Calls Try.prog 106 #[.slice ao len cap] w (RowU (upL nodeN l) w) := by
  have HL := Lib.hid hl
  have hU : (upL nodeN l).length = (len + 1) / 2 := by rw [upL_length, hl]
  have HU := Lib.hid hU
  clear hl hU
  go_enter Try.func106, Try.ntmps106
  go_wp2_with fail
  go_loopw [3, 4] (fun vo vi wr => ∃ k : Nat, vi = .int .i64 ((2 * k : Nat) : Int) ∧ k ≤ (len + 1) / 2 ∧ Hid (wr.ownsRow w.heap.size 65 1 vo k (uL ((upL nodeN l).take k))) ∧ Hid (Below w.heap.size w wr)) (fun _ vi _ => 40 - (intOf vi).toNat)
  case atStart => exact ⟨0, rfl, by omega, World.ownsRow_nil _ _ _ _, Below.refl _ _⟩
  case round =>
    obtain ⟨k, rfl, hk, hrow, hbl⟩ := hrel
    have w2 : IntKind.i64.wrap (((2 * k : Nat) : Int) + 2) = ((2 * (k + 1) : Nat) : Int) := by rw [IntWalk.i64_in _ (by omega)]; omega
    have w1 : IntKind.i64.wrap (((2 * k : Nat) : Int) + 1) = ((2 * k + 1 : Nat) : Int) := by rw [IntWalk.i64_in _ (by omega)]; omega
    obtain ⟨I, hI⟩ : ∃ I, 2 * k = I := ⟨_, rfl⟩
    by_cases hlt : I < len
    · obtain ⟨a, ha⟩ : ∃ a, l[I]? = some a := ⟨l[I]'(by rw [HL.out]; exact hlt), List.getElem?_eq_getElem _⟩
      have hab := hb.out a (List.mem_of_getElem? ha)
      obtain ⟨b, o, rfl, ca⟩ := (hR.out.below hbl.out) I _ (uL_get ha)
      by_cases hl1 : I + 1 = len
      · have hu : (upL nodeN l)[k]? = some a := by rw [upL_last nodeN l k (by rw [HL.out, hI]; exact hl1), hI]; exact ha
        have hst := take_snocN hu
        have HST := Lib.hid hst
        rw [hI] at w1 w2
        have HI := Lib.hid hI
        clear ha hu hst hI
        rw [HI.out]
        go_wp2_with (at_builtin; go_must (refine app_one rfl (.tmp 16) (.tmp 21) _ rfl w.heap.size 65 _ 1 8 Try.underlying66 u64InfoT _ k (uL ((upL nodeN l).take k)) (by rfl) hrow.out [.int .u64 (a : Int)] (by rfl) rfl (by intro u hu; simp at hu; subst hu; rfl) (by unfold maxLen; omega) (by omega) hbl.out.size ?_); intro v2 w2' hown2 hgr2 hb3)
        have HI2 := HI.out
        go_roundw
        case rel => exact ⟨k + 1, by go_num, by omega, Lib.hid (by rw [HST.out, uL_snoc]; exact hown2), Lib.hid (hbl.out.trans hb3)⟩
        case measure => simp [intOf]; omega
      · obtain ⟨c, hc⟩ : ∃ c, l[I + 1]? = some c := ⟨l[I + 1]'(by rw [HL.out]; omega), List.getElem?_eq_getElem _⟩
        have hcb := hb.out c (List.mem_of_getElem? hc)
        obtain ⟨b2, o2, hbo, cc⟩ := (hR.out.below hbl.out) (I + 1) _ (uL_get hc)
        cases hbo
        have hu : (upL nodeN l)[k]? = some (nodeN a c) := by
          rw [upL_get nodeN l k (by rw [HL.out, hI]; omega), hI, List.getD_eq_getElem?_getD, List.getD_eq_getElem?_getD, ha, hc]; rfl
        have hst := take_snocN hu
        obtain ⟨n, hn⟩ : ∃ n, nodeN a c = n := ⟨_, rfl⟩
        have HN := Lib.hid (fun W => tree_Node a c W hab hcb)
        rw [hn] at hst HN
        have HST := Lib.hid hst
        rw [hI] at w1 w2
        have HI := Lib.hid hI
        have i0 : (0 : Int) ≤ I := by omega
        have i1 : (I : Int) < len := by omega
        have i2 : (0 : Int) ≤ ((I + 1 : Nat) : Int) := by omega
        have i3 : ((I + 1 : Nat) : Int) < len := by omega
        have i4 : ((I : Int) + 1).toNat = I + 1 := by omega
        have i5 : (0 : Int) ≤ (I : Int) + 1 := by omega
        have i6 : (I : Int) + 1 < len := by omega
        have i7 : IntKind.i64.wrap ((I : Int) + 1) = (I : Int) + 1 := IntWalk.i64_in _ (by omega)
        clear w1
        have hl2 : ¬ ((I + 1 : Nat) : Int) = len := by omega
        clear ha hu hst hI hc hn
        rw [HI.out]
        go_wp2_with fail
        have hm1 : Hid (k + 1 ≤ maxLen) := Lib.hid (by unfold maxLen; omega)
        have hm2 : Hid ((k + 1) * 8 ≤ 140737488355328) := Lib.hid (by omega)
        have HI2 := HI.out
        go_region_law (first
          | (go_simp; go_at_call 44; (with_reducible refine (HN.out _).mono ?_); rintro e w' ⟨rfl, rfl⟩)
          | (refine step_app_one ?_ (.tmp 23) (.tmp 34) 66 ?_ w.heap.size 65 _ 1 8 Try.underlying66 u64InfoT _ k (uL ((upL nodeN l).take k)) ?_ wr hrow.out w hbl.out (Nat.le_refl _) ?_ ?_ #[.int .u64 (n : Int)] ?_ ?_ rfl ?_ hm1.out hm2.out ?_; (focus rfl); (focus rfl); (focus rfl); (focus (repeat (first | (with_reducible exact Below.refl _ _) | (with_reducible apply below_drew1) | (with_reducible apply below_drewN) | (with_reducible refine Below.alloc ?_ (by simp; try omega) _) | fail))); rotate_left; (focus rfl); (focus (repeat (first | (with_reducible exact heap_new' _ _ _ (by simp; try omega)) | (with_reducible apply heap_drew) | (with_reducible apply heap_drewN) | (with_reducible apply heap_alloc_old) | fail))); (focus (intro u hu; simp at hu; subst hu; rfl)); intro v2 w2' hown2 hb3)
          | fail)
        all_goals
          go_wp2_with fail
          go_roundw
          case rel => exact ⟨k + 1, by go_num, by omega, Lib.hid (by rw [HST.out, uL_snoc]; exact hown2), Lib.hid hb3⟩
          case measure => simp [intOf]; omega
    · have HI := Lib.hid hI
      have hk2 : Hid (k = (upL nodeN l).length) := by show _ = _; rw [HU.out]; omega
      have hfin : Hid (RowU (upL nodeN l) w (.returned u3) wr) := ⟨u3, rfl, by
        have h := hrow.out
        rw [List.take_of_length_le (by rw [hk2.out]; exact Nat.le_refl _), hk2.out] at h
        exact h, hbl.out⟩
      rw [hI]
      go_wp2_with fail
      go_ret
      exact hfin.out
end Go.Proofs.Ytkincmkmkfiglaa
