/- piece.Split where it refuses; the reference's SplitErr; slices.Equal at strings that agree. -/
import Derived.Test.YtioecklnijhjgaaPiece3
import Derived.Test.YtioecklnijhjgaaPlM1
import Derived.Test.YtioecklnijhjgaaPlM16
import Derived.Test.YtioecklnijhjgaaPlM17
import Derived.StillTailTactics
import Derived.Deep.RegionHeld3
set_option linter.unusedVariables false
set_option linter.unusedSimpArgs false
namespace Go.Proofs.Ytioecklnijhjgaa
open Go.RowKit

def splitE (s : ByteArray) (k n : Int) : Nat := if rightB k n = true then (if 60 < s.size then 2 else 0) else 1
def SplitNo (s : ByteArray) (k n : Int) (w : World) (e : Ending) (w' : World) : Prop := e = .returned (.tuple #[.slice none 0 0, .int .i64 (splitE s k n : Nat)]) ∧ w' = w
theorem piece_Split_bad (s : ByteArray) (k n : Int) (w : World) (hs : s.size ≤ 9223372036854775807) (h : splitE s k n ≠ 0) :
    Calls Try.prog 42 #[.string s, .int .i64 k, .int .i64 n] w (SplitNo s k n w) := by
  have CR := Lib.hid (piece_right k n w)
  cases hr : rightB k n with
  | false =>
    have hE : splitE s k n = 1 := by unfold splitE; rw [hr]; rfl
    rw [hr] at CR
    have HE := Lib.hid hE
    clear h hr hE
    go_enter Try.func42, Try.ntmps42
    go_wp2_with fail
    (with_reducible refine CR.out.mono ?_)
    rintro e w2 ⟨rfl, rfl⟩
    go_wp2_with fail
    go_ret2
    exact ⟨by rw [HE.out]; rfl, rfl⟩
  | true =>
    have h60 : 60 < s.size := by
      unfold splitE at h
      rw [hr, if_pos rfl] at h
      by_cases h6 : 60 < s.size
      · exact h6
      · rw [if_neg h6] at h; exact absurd rfl h
    have hE : splitE s k n = 2 := by unfold splitE; rw [hr, if_pos rfl, if_pos h60]
    rw [hr] at CR
    have HE := Lib.hid hE
    have hT : decide ((60 : Int) < s.size) = true := by simp; omega
    clear h hr hE
    go_enter Try.func42, Try.ntmps42
    go_wp2_with fail
    (with_reducible refine CR.out.mono ?_)
    rintro e w2 ⟨rfl, rfl⟩
    go_wp2_with fail
    go_ret2
    exact ⟨by rw [HE.out]; rfl, rfl⟩
theorem rightB_no {k n : Int} (h : k < 1 ∨ n < k ∨ 10 < n) : rightB k n = false := by
  unfold rightB
  simp
  omega
theorem rightB_yes {k n : Int} (h1 : ¬ k < 1) (h2 : ¬ n < k) (h3 : ¬ 10 < n) : rightB k n = true := by
  unfold rightB
  simp
  omega
end Go.Proofs.Ytioecklnijhjgaa
namespace Go.Proofs.Ytioecklnijhjgaa
open Go.RowKit

theorem i64InfoS : ElemRow Try.prog 3 (.int .i64 0) 1 8 := elemRow_of (by kernel_rfl) rfl (by omega)
theorem ups_succ (dn : Nat → Bool) (i : Nat) : pl (fun i => !dn i) (i + 1) = if dn i then pl (fun i => !dn i) i else pl (fun i => !dn i) i ++ [i] := by
  rw [pl_succ]
  cases dn i <;> rfl
/-- The four cells of a node. -/
theorem Shf.node4 {w : World} {base : Nat} {Av : Nat → Prop} {n k wr r b nb : Nat} {V : Nat → Nat → Value} {st : St} (h : Shf w base Av n k wr r b nb V st) {i : Nat} (hi : i < n) :
    ∃ a0 l0 c0 a1 l1 c1 a2 l2 c2, w.cell? ⟨nb, i * 4, none⟩ = some (.bool (st.dn i)) ∧ w.cell? ⟨nb, i * 4 + 1, none⟩ = some (.slice a0 l0 c0) ∧ w.cell? ⟨nb, i * 4 + 2, none⟩ = some (.slice a1 l1 c1) ∧ w.cell? ⟨nb, i * 4 + 3, none⟩ = some (.slice a2 l2 c2) := by
  obtain ⟨a0, c0, e0, _⟩ := h.reads hi (show 0 < 3 by omega)
  obtain ⟨a1, c1, e1, _⟩ := h.reads hi (show 1 < 3 by omega)
  obtain ⟨a2, c2, e2, _⟩ := h.reads hi (show 2 < 3 by omega)
  exact ⟨a0, _, c0, a1, _, c1, a2, _, c2, h.dnc hi, by rw [← e0]; exact h.kpc hi (show 0 < 3 by omega), by rw [← e1]; exact h.kpc hi (show 1 < 3 by omega), by rw [← e2]; exact h.kpc hi (show 2 < 3 by omega)⟩
theorem placeR_at {l : List Nat} {j i : Nat} (h : l[j]? = some i) : (placeR l)[j]? = some (.int .i64 (i : Int)) := by
  unfold placeR
  rw [List.getElem?_map, h]; rfl
def UpPost (l : List Nat) (w : World) (e : Ending) (w' : World) : Prop :=
  ∃ ao cap, e = .returned (.slice ao l.length cap) ∧ w'.ownsRow w.heap.size 3 1 (.slice ao l.length cap) l.length (placeR l) ∧ Below w.heap.size w w'
set_option maxRecDepth 100000 in
set_option maxHeartbeats 2000000 in
theorem store_up {w : World} {base : Nat} {Av : Nat → Prop} {n k wr r b nb : Nat} {V : Nat → Nat → Value} {st : St} (hn : n ≤ 10) (h : Shf w base Av n k wr r b nb V st) :
    Calls Try.prog 38 #[.pointer (some ⟨b, 0, none⟩)] w (UpPost (ups n st) w) := by
  have c4 := h.cells.2.2.2.2.1
  have HC := Lib.hid (fun i (hi : i < n) => h.node4 hi)
  have HNB : Hid (nb < w.heap.size) := Lib.hid h.nodes.lt.2
  obtain ⟨gb, hgb⟩ : ∃ gb, w.heap.size = gb := ⟨_, rfl⟩
  have HGB := Lib.hid hgb
  clear h hgb
  go_enter Try.func38, Try.ntmps38
  go_wp2_with fail
  go_loopw [3, 4, 5, 11] (fun vo _ _ vi wr => ∃ i : Nat, vi = .int .i64 i ∧ i ≤ n ∧ Hid (wr.ownsRow gb 3 1 vo (pl (fun i => !st.dn i) i).length (placeR (pl (fun i => !st.dn i) i))) ∧ Hid (Below gb w wr)) (fun _ _ _ vi _ => n - (intOf vi).toNat)
  case atStart => exact ⟨0, rfl, by omega, Lib.hid (World.ownsRow_nil _ _ _ _), Lib.hid (Below.refl _ _)⟩
  case round =>
    obtain ⟨i, rfl, hi, HO, HB⟩ := hrel
    obtain ⟨wo, rfl⟩ : ∃ wo, wo = wr := ⟨_, rfl⟩
    have HB' : Hid (Below w.heap.size w wo) := Lib.hid (by rw [HGB.out]; exact HB.out)
    by_cases hin : i < n
    · obtain ⟨a0, l0, c0, a1, l1, c1, a2, l2, c2, q0, q1, q2, q3⟩ := HC.out i hin
      have x0 := (HB'.out.cell (p := ⟨nb, i * 4, none⟩) HNB.out).trans q0
      have x1 := (HB'.out.cell (p := ⟨nb, i * 4 + 1, none⟩) HNB.out).trans q1
      have x2 := (HB'.out.cell (p := ⟨nb, i * 4 + 2, none⟩) HNB.out).trans q2
      have x3 := (HB'.out.cell (p := ⟨nb, i * 4 + 3, none⟩) HNB.out).trans q3
      clear q0 q1 q2 q3
      have hsu := ups_succ st.dn i
      cases hd : st.dn i with
      | true =>
        rw [hd] at x0 hsu
        have HSU := Lib.hid hsu
        clear hsu hd
        go_wp2_with fail
        go_roundw
        case rel => exact ⟨i + 1, by go_num, by omega, Lib.hid (by rw [HSU.out]; exact own_below HO.out ((Below.refl _ _).alloc (Nat.le_refl _) _)), Lib.hid (HB.out.alloc (by rw [← HGB.out]; exact HB'.out.size) _)⟩
        case measure => simp [intOf]; omega
      | false =>
        rw [hd] at x0 hsu
        have HSU := Lib.hid hsu
        clear hsu hd
        have hpl := pl_len (fun i => !st.dn i) i
        have hbx : Below wo.heap.size wo (wo.alloc (.cells #[.bool false, .slice a0 l0 c0, .slice a1 l1 c1, .slice a2 l2 c2] 77)) := (Below.refl _ _).alloc (Nat.le_refl _) _
        have HOx := Lib.hid (own_below HO.out hbx)
        have HBx : Hid (Below gb w (wo.alloc (.cells #[.bool false, .slice a0 l0 c0, .slice a1 l1 c1, .slice a2 l2 c2] 77))) := Lib.hid (HB.out.alloc (by rw [← HGB.out]; exact HB'.out.size) _)
        clear hbx
        go_wp2_with (first
          | (at_builtin; go_loud (refine app_one rfl (.tmp 19) (.tmp 21) 53 rfl gb 3 _ 1 8 Try.underlying53 i64InfoS _ _ _ (by rfl) HOx.out [.int .i64 (i : Int)] (by rw [World.size_alloc]; rfl) rfl (by intro u hu; simp at hu; subst hu; rfl) (by unfold maxLen; omega) (by omega) (by rw [← HGB.out]; exact HBx.out.size) ?_); intro v5 w5 hown5 hgr5 hb5; have HO5 : Hid (w5.ownsRow gb 3 1 v5 (pl (fun i => !st.dn i) (i + 1)).length (placeR (pl (fun i => !st.dn i) (i + 1)))) := Lib.hid (by rw [HSU.out]; simp only [Bool.false_eq_true, if_false]; rw [List.length_append, placeR_snoc]; exact hown5); have HB5 := Lib.hid (HBx.out.trans hb5); clear hown5 hgr5 hb5)
          | fail)
        go_roundw
        case rel => exact ⟨i + 1, by go_num, by omega, HO5, HB5⟩
        case measure => simp [intOf]; omega
    · obtain rfl : n = i := by omega
      obtain ⟨ao, cap, rfl, _, _, _⟩ := own_reads HO.out
      go_wp2_with fail
      go_ret
      exact ⟨ao, cap, rfl, by rw [HGB.out]; exact HO.out, HB'.out⟩
def BoolQ (b : Bool) (w : World) (e : Ending) (w' : World) : Prop := e = .returned (.bool b) ∧ w' = w
theorem store_isKey (key : Int) (w : World) : Calls Try.prog 18 #[.int .i64 key] w (BoolQ (decide (0 ≤ key) && decide (key < 3)) w) := by
  unfold BoolQ
  by_cases h1 : 0 ≤ key
  · have d1 : decide (0 ≤ key) = true := decide_eq_true h1
    obtain ⟨t, ht⟩ : ∃ t, decide (key < 3) = t := ⟨_, rfl⟩
    rw [d1, ht]
    clear h1
    go_enter Try.func18, Try.ntmps18
    go_wp2_with fail
    go_ret
    exact ⟨rfl, rfl⟩
  · have d1 : decide (0 ≤ key) = false := decide_eq_false h1
    rw [d1]
    clear h1
    go_enter Try.func18, Try.ntmps18
    go_wp2_with fail
    go_ret
    exact ⟨rfl, rfl⟩
theorem store_isNode {w : World} {b n : Nat} {ao : Option Addr} (i : Int) (c4 : w.cell? ⟨b, 4, none⟩ = some (.slice ao n n)) :
    Calls Try.prog 28 #[.pointer (some ⟨b, 0, none⟩), .int .i64 i] w (BoolQ (decide (0 ≤ i) && decide (i < (n : Int))) w) := by
  unfold BoolQ
  by_cases h1 : 0 ≤ i
  · have d1 : decide (0 ≤ i) = true := decide_eq_true h1
    obtain ⟨t, ht⟩ : ∃ t, decide (i < (n : Int)) = t := ⟨_, rfl⟩
    rw [d1, ht]
    clear h1
    go_enter Try.func28, Try.ntmps28
    go_wp2_with fail
    go_ret
    exact ⟨rfl, rfl⟩
  · have d1 : decide (0 ≤ i) = false := decide_eq_false h1
    rw [d1]
    clear h1
    go_enter Try.func28, Try.ntmps28
    go_wp2_with fail
    go_ret
    exact ⟨rfl, rfl⟩
/-- What split says. -/
def SplPost (n k wr : Nat) (st : St) (text : ByteArray) (w : World) (e : Ending) (w' : World) : Prop :=
  (splE n wr st text ≠ 0 ∧ e = .returned (.tuple #[.slice none 0 0, .int .i64 (splE n wr st text : Nat)]) ∧ Below w.heap.size w w') ∨
  (splE n wr st text = 0 ∧ ∃ g, e = .returned (.tuple #[.slice (some ⟨g, 0, none⟩) n n, .int .i64 0]) ∧ Own w' w.heap.size 9 g n n (fun j => .string (pcs text k j)) ∧ Below w.heap.size w w')
set_option maxRecDepth 100000 in
set_option maxHeartbeats 2000000 in
theorem store_split {w : World} {base : Nat} {Av : Nat → Prop} {n k wr r b nb : Nat} {V : Nat → Nat → Value} {st : St} (text : ByteArray) (ht : text.size ≤ 9223372036854775807) (hk : 1 ≤ k) (hkn : k ≤ n) (hn : n ≤ 10) (h : Shf w base Av n k wr r b nb V st) :
    Calls Try.prog 37 #[.pointer (some ⟨b, 0, none⟩), .string text] w (SplPost n k wr st text w) := by
  have HS := Lib.hid h
  have c0 := h.cells.1
  have c1 := h.cells.2.1
  have HBL : Hid (b < w.heap.size) := Lib.hid h.blt
  have CU : Hid (∀ W, Below w.heap.size w W → Calls Try.prog 38 #[.pointer (some ⟨b, 0, none⟩)] W (UpPost (ups n st) W)) := Lib.hid fun W hb => store_up hn (h.below hb)
  unfold UpPost at CU
  clear h
  by_cases h60 : 60 < text.size
  · have hE : splE n wr st text = 2 := if_pos h60
    have hsE : splitE text (k : Int) (n : Int) = 2 := by
      have hr : rightB (k : Int) (n : Int) = true := by unfold rightB; simp; omega
      unfold splitE
      rw [if_pos hr, if_pos h60]
    have CB := Lib.hid (fun W => piece_Split_bad text (k : Int) (n : Int) W ht (by rw [hsE]; decide))
    unfold SplitNo at CB
    rw [hsE] at CB
    have HE := Lib.hid hE
    clear hE hsE
    go_enter Try.func37, Try.ntmps37
    go_wp2_with fail
    go_quiet ((go_at_call 42; exact Calls.quiet_of_same (CB.out _)))
    go_wp2_with fail
    go_ret2
    exact .inl ⟨by rw [HE.out]; decide, by rw [HE.out]; rfl, below_dr _ _ _⟩
  · have CG := Lib.hid (fun W => piece_Split text k n W (by omega) hk hkn hn)
    unfold SplitPost at CG
    have c2 := HS.out.cells.2.2.1
    have c5 := HS.out.cells.2.2.2.2.2
    obtain ⟨u, hu⟩ : ∃ u, (ups n st).length = u := ⟨_, rfl⟩
    have hul : u ≤ 10 := by have := ups_len n st; omega
    have HE : Hid (splE n wr st text = if u < wr then 9 else if st.wr = 1000000 then 11 else 0) := Lib.hid (by unfold splE; rw [if_neg h60, hu])
    rw [hu] at CU
    obtain ⟨m, hm⟩ : ∃ m, st.wr = m := ⟨_, rfl⟩
    rw [hm] at c5 HE
    clear hu hm h60 hk hkn
    have hd1 : ∀ W, Below w.heap.size w W → W.cell? ⟨b, 2, none⟩ = some (.int .i64 (wr : Int)) := fun W hb => (hb.cell (p := ⟨b, 2, none⟩) HBL.out).trans c2
    have hd2 : ∀ W, Below w.heap.size w W → W.cell? ⟨b, 5, none⟩ = some (.int .i64 (m : Int)) := fun W hb => (hb.cell (p := ⟨b, 5, none⟩) HBL.out).trans c5
    have HD1 := Lib.hid hd1
    have HD2 := Lib.hid hd2
    clear hd1 hd2 c2 c5
    by_cases g1 : u < wr
    · have t1 : decide ((u : Int) < (wr : Int)) = true := by simp; omega
      have t1' : decide (u < wr) = true := by simp; omega
      go_enter Try.func37, Try.ntmps37
      go_wp2_with fail
      go_region_held3 (fun w' => w'.cell? ⟨b, 0, none⟩ = some (.int .i64 (n : Int)) ∧ w'.cell? ⟨b, 1, none⟩ = some (.int .i64 (k : Int))) (first | exact ⟨(hb1'.cell (p := ⟨b, 0, none⟩) HBL.out).trans c0, (hb1'.cell (p := ⟨b, 1, none⟩) HBL.out).trans c1⟩ | go_keep) (first | (go_at_call 42; (with_reducible refine (CG.out _).mono ?_); rintro e w1 ⟨g, rfl, hO1, hb1'⟩))
      have HB1 : Hid (Below w.heap.size w w1) := Lib.hid (by first | exact hb1' | exact (below_dr w.heap.size w 1).trans hb1')
      have HO1 := Lib.hid hO1
      clear hb1' hO1
      have x2 := HD1.out _ HB1.out
      go_wp2_with fail
      go_region_held3 (fun w' => w'.cell? ⟨b, 2, none⟩ = some (.int .i64 (wr : Int))) (first | exact HD1.out _ (HB1.out.trans (hb5.mono HB1.out.size)) | exact HD1.out _ ((below_drew1 HB1.out).trans (hb5.mono (show w.heap.size ≤ w1.drew.heap.size from HB1.out.size))) | go_keep) (first | (go_at_call 38; (with_reducible refine (CU.out _ (by first | exact HB1.out | exact below_drew1 HB1.out)).mono ?_); rintro e w5 ⟨ao5, cap5, rfl, hown5, hb5⟩))
      all_goals
        have HB5 : Hid (Below w.heap.size w w5) := Lib.hid (by first | exact HB1.out.trans (hb5.mono HB1.out.size) | exact (below_drew1 HB1.out).trans (hb5.mono (show w.heap.size ≤ w1.drew.heap.size from HB1.out.size)))
        clear hb5 hown5
        go_wp2_with fail
        go_ret2
        exact .inl ⟨by rw [HE.out, if_pos g1]; decide, by rw [HE.out, if_pos g1]; rfl, HB5.out⟩
    have t1 : decide ((u : Int) < (wr : Int)) = false := by simp; omega
    have t1' : decide (u < wr) = false := by simp; omega
    by_cases g2 : m = 1000000
    · have t2 : ((m : Int) == 1000000) = true := by simp; omega
      have HE2 : Hid (splE n wr st text = 11) := Lib.hid (by rw [HE.out, if_neg g1, if_pos g2])
      clear g1 g2
      go_enter Try.func37, Try.ntmps37
      go_wp2_with fail
      go_region_held3 (fun w' => w'.cell? ⟨b, 0, none⟩ = some (.int .i64 (n : Int)) ∧ w'.cell? ⟨b, 1, none⟩ = some (.int .i64 (k : Int))) (first | exact ⟨(hb1'.cell (p := ⟨b, 0, none⟩) HBL.out).trans c0, (hb1'.cell (p := ⟨b, 1, none⟩) HBL.out).trans c1⟩ | go_keep) (first | (go_at_call 42; (with_reducible refine (CG.out _).mono ?_); rintro e w1 ⟨g, rfl, hO1, hb1'⟩))
      have HB1 : Hid (Below w.heap.size w w1) := Lib.hid (by first | exact hb1' | exact (below_dr w.heap.size w 1).trans hb1')
      have HO1 := Lib.hid hO1
      clear hb1' hO1
      have x2 := HD1.out _ HB1.out
      go_wp2_with fail
      go_region_held3 (fun w' => w'.cell? ⟨b, 2, none⟩ = some (.int .i64 (wr : Int))) (first | exact HD1.out _ (HB1.out.trans (hb5.mono HB1.out.size)) | exact HD1.out _ ((below_drew1 HB1.out).trans (hb5.mono (show w.heap.size ≤ w1.drew.heap.size from HB1.out.size))) | go_keep) (first | (go_at_call 38; (with_reducible refine (CU.out _ (by first | exact HB1.out | exact below_drew1 HB1.out)).mono ?_); rintro e w5 ⟨ao5, cap5, rfl, hown5, hb5⟩))
      all_goals
        have HB5 : Hid (Below w.heap.size w w5) := Lib.hid (by first | exact HB1.out.trans (hb5.mono HB1.out.size) | exact (below_drew1 HB1.out).trans (hb5.mono (show w.heap.size ≤ w1.drew.heap.size from HB1.out.size)))
        clear hb5 hown5
        have x5 := HD2.out _ HB5.out
        go_wp2_with fail
        go_ret2
        exact .inl ⟨by rw [HE2.out]; decide, by rw [HE2.out]; rfl, HB5.out⟩
    · have t2 : ((m : Int) == 1000000) = false := by simp; omega
      have HE2 : Hid (splE n wr st text = 0) := Lib.hid (by rw [HE.out, if_neg g1, if_neg g2])
      clear g1 g2
      go_enter Try.func37, Try.ntmps37
      go_wp2_with fail
      go_region_held3 (fun w' => w'.cell? ⟨b, 0, none⟩ = some (.int .i64 (n : Int)) ∧ w'.cell? ⟨b, 1, none⟩ = some (.int .i64 (k : Int))) (first | exact ⟨(hb1'.cell (p := ⟨b, 0, none⟩) HBL.out).trans c0, (hb1'.cell (p := ⟨b, 1, none⟩) HBL.out).trans c1⟩ | go_keep) (first | (go_at_call 42; (with_reducible refine (CG.out _).mono ?_); rintro e w1 ⟨g, rfl, hO1, hb1'⟩))
      have HB1 : Hid (Below w.heap.size w w1) := Lib.hid (by first | exact hb1' | exact (below_dr w.heap.size w 1).trans hb1')
      have HO1 := Lib.hid hO1
      clear hb1' hO1
      have x2 := HD1.out _ HB1.out
      go_wp2_with fail
      go_region_held3 (fun w' => w'.cell? ⟨b, 2, none⟩ = some (.int .i64 (wr : Int))) (first | exact HD1.out _ (HB1.out.trans (hb5.mono HB1.out.size)) | exact HD1.out _ ((below_drew1 HB1.out).trans (hb5.mono (show w.heap.size ≤ w1.drew.heap.size from HB1.out.size))) | go_keep) (first | (go_at_call 38; (with_reducible refine (CU.out _ (by first | exact HB1.out | exact below_drew1 HB1.out)).mono ?_); rintro e w5 ⟨ao5, cap5, rfl, hown5, hb5⟩))
      all_goals
        have HB5 : Hid (Below w.heap.size w w5) := Lib.hid (by first | exact HB1.out.trans (hb5.mono HB1.out.size) | exact (below_drew1 HB1.out).trans (hb5.mono (show w.heap.size ≤ w1.drew.heap.size from HB1.out.size)))
        have hb5x := hb5
        clear hb5 hown5
        have HO5 : Hid (Own w5 w.heap.size 9 g n n (fun j => .string (pcs text k j))) := Lib.hid (own_mono (own_below HO1.out (by first | exact hb5x.mono (Nat.le_refl _) | exact (below_dr _ _ 1).trans hb5x)) (Nat.le_refl _))
        clear hb5x
        have x5 := HD2.out _ HB5.out
        go_wp2_with fail
        go_ret2
        exact .inr ⟨HE2.out, g, rfl, HO5.out, HB5.out⟩
end Go.Proofs.Ytioecklnijhjgaa
