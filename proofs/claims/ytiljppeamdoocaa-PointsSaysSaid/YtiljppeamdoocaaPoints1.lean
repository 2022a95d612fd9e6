/- points.Check and PointsErr of the reference. -/
import Derived.Test.YtiljppeamdoocaaPtFunc
import Derived.Test.YtiljppeamdoocaaPoly6
import Derived.Test.YtiljppeamdoocaaHeapM
import Derived.Maps.OwnOps
import Derived.Maps.OwnSet
import Derived.Maps.Views
namespace Go.Proofs.Ytiljppeamdoocaa
open Go.RowKit Go.Maps

def badP (p : Int) (z : Int × Int) : Bool := decide (z.1 < 0) || (decide (p ≤ z.1) || (decide (z.2 < 0) || decide (p ≤ z.2)))
def dupP (l : Pts) (i : Nat) (x : Int) : Bool := (l.take i).any fun y => y.1 == x
def ptsI (p : Int) (l : Pts) : Nat → Nat → Int
  | 0, _ => 0
  | n + 1, i => match l[i]? with
    | none => 0
    | some z => if badP p z = true then 1 else if dupP l i z.1 = true then 6 else ptsI p l n (i + 1)
noncomputable def ptsE (p : Int) (l : Pts) : Int := if fldE p = 1 then 1 else if 12 < l.length then 2 else ptsI p l l.length 0
theorem ptsI_step {p : Int} {l : Pts} {i : Nat} {z : Int × Int} (hz : l[i]? = some z) : ptsI p l (l.length - i) i = if badP p z = true then 1 else if dupP l i z.1 = true then 6 else ptsI p l (l.length - (i + 1)) (i + 1) := by
  have hi := (List.getElem?_eq_some_iff.1 hz).1
  obtain ⟨n, hn⟩ : ∃ n, l.length - i = n + 1 := ⟨l.length - i - 1, by omega⟩
  rw [hn, show l.length - (i + 1) = n by omega]
  rw [ptsI, hz]
theorem ptsI_end (p : Int) (l : Pts) : ptsI p l (l.length - l.length) l.length = 0 := by rw [Nat.sub_self]; rfl
/-- Points that pass. -/
structure PtsOk (p : Int) (l : Pts) : Prop where
  p1 : 2 ≤ p
  p2 : p ≤ 997
  pr : IsPr p.toNat
  len : l.length ≤ 12
  bd : ∀ (i : Nat) (z : Int × Int), l[i]? = some z → 0 ≤ z.1 ∧ z.1 < p ∧ 0 ≤ z.2 ∧ z.2 < p
  ne : ∀ (i j : Nat) (z y : Int × Int), j < i → l[i]? = some z → l[j]? = some y → y.1 ≠ z.1
theorem badP_false {p : Int} {z : Int × Int} (h : badP p z = false) : 0 ≤ z.1 ∧ z.1 < p ∧ 0 ≤ z.2 ∧ z.2 < p := by
  unfold badP at h
  simp at h
  omega
theorem dupP_iff {l : Pts} {i : Nat} {x : Int} : dupP l i x = true ↔ ∃ j y, j < i ∧ l[j]? = some y ∧ y.1 = x := by
  unfold dupP
  rw [List.any_eq_true]
  constructor
  · rintro ⟨y, hy, he⟩
    obtain ⟨j, hj⟩ := List.getElem?_of_mem hy
    rw [List.getElem?_take] at hj
    split at hj
    · exact ⟨j, y, ‹_›, hj, by simpa using he⟩
    · simp at hj
  · rintro ⟨j, y, hj, hy, he⟩
    refine ⟨y, List.mem_of_getElem? (i := j) ?_, by simpa using he⟩
    rw [List.getElem?_take, if_pos hj]; exact hy
theorem ptsI_ok {p : Int} {l : Pts} : ∀ n i, n + i = l.length → ptsI p l n i = 0 → ∀ k z, i ≤ k → l[k]? = some z → badP p z = false ∧ dupP l k z.1 = false
  | 0, i, hn, _, k, z, hk, hz => by
    have := (List.getElem?_eq_some_iff.1 hz).1
    omega
  | n + 1, i, hn, h, k, z, hk, hz => by
    obtain ⟨y, hy⟩ : ∃ y, l[i]? = some y := ⟨l[i]'(by omega), List.getElem?_eq_getElem _⟩
    have h' : (if badP p y = true then 1 else if dupP l i y.1 = true then 6 else ptsI p l n (i + 1)) = (0 : Int) := by
      rw [ptsI, hy] at h
      exact h
    split at h'
    · omega
    · rename_i hb
      split at h'
      · omega
      · rename_i hd
        by_cases he : k = i
        · subst he
          rw [hy] at hz
          cases hz
          exact ⟨by simpa using hb, by simpa using hd⟩
        · exact ptsI_ok n (i + 1) (by omega) h' k z (by omega) hz
theorem ptsOk_of {p : Int} {l : Pts} (h : ptsE p l = 0) : PtsOk p l := by
  unfold ptsE at h
  rcases fldE_cases p with ⟨h1, h2, h3, h4⟩ | h1
  · rw [h1, if_neg (by omega)] at h
    split at h
    · omega
    · rename_i hl
      have hk := ptsI_ok (p := p) (l := l) l.length 0 (by omega) h
      refine ⟨h2, h3, h4, by omega, fun i z hz => badP_false (hk i z (by omega) hz).1, fun i j z y hj hz hy he => ?_⟩
      have := (hk i z (by omega) hz).2
      rw [dupP_iff.2 ⟨j, y, hj, hy, he⟩] at this
      cases this
  · rw [h1, if_pos rfl] at h; omega
theorem bd_of_wf {x : Int} (h : (Lit.int .i64 x).wf = true) : -9223372036854775808 ≤ x ∧ x ≤ 9223372036854775807 := by
  simpa [Lit.wf, IntKind.min, IntKind.max, IntKind.signed, IntKind.bits] using h
theorem points_same (z y : Int × Int) (B : Nat) (w : World) (hB : w.heap[B]? = some (.cells #[.int .i64 z.1, .int .i64 z.2] 71 (0, 0))) :
    Calls Try.prog 103 #[pA y, .pointer (some ⟨B, 0, none⟩)] w fun e w' => e = .returned (.bool (y.1 == z.1)) ∧ Below w.heap.size w w' := by
  have c1 : (w.alloc (.cells #[.int .i64 y.1, .int .i64 y.2] 71)).cell? ⟨B, 0, none⟩ = some (.int .i64 z.1) := heap_cell (heap_alloc_old _ _ hB) 0
  have hb := Lib.hid ((Below.refl w.heap.size w).alloc (Nat.le_refl _) (.cells #[.int .i64 y.1, .int .i64 y.2] 71))
  go_enter Try.func103, Try.ntmps103
  go_wp2_with fail
  go_ret
  exact ⟨rfl, hb.out⟩
set_option maxRecDepth 100000 in
set_option maxHeartbeats 2000000 in
theorem points_Check (p : Int) (l : Pts) (n : Nat) (ao : Option Addr) (cap : Nat) (w : World) (hp : (Lit.int .i64 p).wf = true) (hl : l.length = n) (h63 : n ≤ 9223372036854775807) (hc : n ≤ cap) (hR : Hid (Reads w ao (cells2 (l.map pV)))) :
    Calls Try.prog 49 #[.int .i64 p, .slice ao n cap] w fun e w' => e = .returned (.int .i64 (ptsE p l)) ∧ Below w.heap.size w w' := by
  have HL := Lib.hid hl
  have HP := Lib.hid hp
  clear hl hp
  rcases fldE_cases p with ⟨hf, p1, p2, p3⟩ | hf
  · have HF := Lib.hid hf
    clear p3
    by_cases h12 : 12 < n
    · have hE : Hid (ptsE p l = 2) := by show _ = _; unfold ptsE; rw [HF.out, if_neg (by omega), if_pos (by rw [HL.out]; exact h12)]
      have d1 : decide ((12 : Int) < n) = true := by simp; omega
      clear hf h12
      go_enter Try.func49, Try.ntmps49
      go_wp2_with (go_at_call 37; refine (poly_Field p _ HP.out).mono ?_; rw [HF.out]; rintro e w' ⟨rfl, rfl⟩)
      go_ret
      exact ⟨by rw [hE.out]; rfl, Below.refl _ _⟩
    · have d1 : decide ((12 : Int) < n) = false := by simp; omega
      have hE : Hid (ptsE p l = ptsI p l (l.length - 0) 0) := by show _ = _; unfold ptsE; rw [HF.out, if_neg (by omega), if_neg (by rw [HL.out]; exact h12)]; rfl
      clear hf
      go_enter Try.func49, Try.ntmps49
      go_wp2_with (go_at_call 37; refine (poly_Field p _ HP.out).mono ?_; rw [HF.out]; rintro e w' ⟨rfl, rfl⟩)
      go_loopw [18] (fun vi wr => ∃ i : Nat, vi = .int .i64 i ∧ i ≤ n ∧ Hid (ptsE p l = ptsI p l (l.length - i) i) ∧ Hid (Below w'.heap.size w' wr)) (fun vi _ => n - (intOf vi).toNat)
      case atStart => exact ⟨0, rfl, by omega, hE, Below.refl _ _⟩
      case round =>
        obtain ⟨i, rfl, hin, he, hb⟩ := hrel
        by_cases hi : i < n
        · obtain ⟨z, hz⟩ : ∃ z, l[i]? = some z := ⟨l[i]'(by rw [HL.out]; exact hi), List.getElem?_eq_getElem _⟩
          obtain ⟨b, o, rfl, c1, c2⟩ := pair_cells (hR.out.below hb.out) hz
          have hst := ptsI_step (p := p) hz
          have HZ := Lib.hid hz
          have hb2 : Below w'.heap.size w' (wr.alloc (.cells #[.int .i64 z.1, .int .i64 z.2] 71)) := hb.out.trans ((Below.refl _ wr).alloc hb.out.size _)
          have HB2 := Lib.hid hb2
          have hnew : (wr.alloc (.cells #[.int .i64 z.1, .int .i64 z.2] 71)).heap[wr.heap.size]? = some (.cells #[.int .i64 z.1, .int .i64 z.2] 71 (0, 0)) := heap_alloc_new wr _
          have hR2 : Hid (Reads (wr.alloc (.cells #[.int .i64 z.1, .int .i64 z.2] 71)) (some ⟨b, o, none⟩) (cells2 ((l.take i).map pV))) := pair_take (hR.out.below hb2) i
          have CF : Hid (Calls Try.prog 51 #[.slice (some ⟨b, o, none⟩) i cap, .func (.func 103) #[] #[.pointer (some ⟨wr.heap.size, 0, none⟩)]] (wr.alloc (.cells #[.int .i64 z.1, .int .i64 z.2] 71)) fun e w' => e = .returned (.bool (dupP l i z.1)) ∧ Below (wr.alloc (.cells #[.int .i64 z.1, .int .i64 z.2] 71)).heap.size (wr.alloc (.cells #[.int .i64 z.1, .int .i64 z.2] 71)) w') := by
            refine containsFunc_ptc 103 (.pointer (some ⟨wr.heap.size, 0, none⟩)) (fun x W => by go_simp) (fun y => y.1 == z.1) (l.take i) i (some ⟨b, o, none⟩) cap _ (by rw [List.length_take, HL.out]; omega) (by omega) hR2 ?_
            intro y hy W hW
            exact points_same z y wr.heap.size W (by rw [hW.block _ (by rw [World.size_alloc]; omega)]; exact hnew)
          have i0 : (0 : Int) ≤ i := by omega
          have i1 : (i : Int) ≤ cap := by omega
          have i2 : i ≤ cap := by omega
          cases hbd : badP p z with
          | true =>
            have hE1 : Hid (ptsE p l = 1) := by show _ = _; rw [he.out, hst, if_pos hbd]
            have hs : decide (z.1 < 0) = true ∨ (decide (z.1 < 0) = false ∧ decide (p ≤ z.1) = true) ∨ (decide (z.1 < 0) = false ∧ decide (p ≤ z.1) = false ∧ decide (z.2 < 0) = true) ∨ (decide (z.1 < 0) = false ∧ decide (p ≤ z.1) = false ∧ decide (z.2 < 0) = false ∧ decide (p ≤ z.2) = true) := by
              unfold badP at hbd
              simp only [Bool.or_eq_true, decide_eq_true_eq, decide_eq_false_iff_not] at hbd ⊢
              omega
            clear hst hbd hz hnew hb2
            rcases hs with e1 | ⟨e1, e2⟩ | ⟨e1, e2, e3⟩ | ⟨e1, e2, e3, e4⟩
            all_goals
              go_wp2_with fail
              go_ret
              exact ⟨by rw [hE1.out]; rfl, HB2.out⟩
          | false =>
            have hs : decide (z.1 < 0) = false ∧ decide (p ≤ z.1) = false ∧ decide (z.2 < 0) = false ∧ decide (p ≤ z.2) = false := by
              unfold badP at hbd
              simpa using hbd
            obtain ⟨e1, e2, e3, e4⟩ := hs
            cases hd : dupP l i z.1 with
            | true =>
              have hE1 : Hid (ptsE p l = 6) := by show _ = _; rw [he.out, hst, if_neg (by rw [hbd]; simp), if_pos hd]
              rw [hd] at CF
              clear hst hbd hz hnew hb2 hd
              go_wp2_with (go_at_call 51; refine CF.out.mono ?_; rintro e w2 ⟨rfl, hb3⟩)
              go_ret
              exact ⟨by rw [hE1.out]; rfl, HB2.out.trans (hb3.mono HB2.out.size)⟩
            | false =>
              have hE1 : Hid (ptsE p l = ptsI p l (l.length - (i + 1)) (i + 1)) := by show _ = _; rw [he.out, hst, if_neg (by rw [hbd]; simp), if_neg (by rw [hd]; simp)]
              rw [hd] at CF
              clear hst hbd hz hnew hb2 hd
              go_wp2_with (go_at_call 51; refine CF.out.mono ?_; rintro e w2 ⟨rfl, hb3⟩)
              have HB3 := Lib.hid (HB2.out.trans (hb3.mono HB2.out.size))
              clear hb3
              go_roundw
              case rel => exact ⟨i + 1, by go_num, by omega, hE1, HB3⟩
              case measure => simp [intOf]; omega
        · have hE1 : Hid (ptsE p l = 0) := by
            show _ = _
            rw [he.out, show i = l.length by rw [HL.out]; omega]; exact ptsI_end p l
          go_wp2_with fail
          go_ret
          exact ⟨by rw [hE1.out]; rfl, hb.out⟩
  · have HF := Lib.hid hf
    have hE : Hid (ptsE p l = 1) := by show _ = _; unfold ptsE; rw [HF.out, if_pos rfl]
    clear hf
    go_enter Try.func49, Try.ntmps49
    go_wp2_with (go_at_call 37; refine (poly_Field p _ HP.out).mono ?_; rw [HF.out]; rintro e w' ⟨rfl, rfl⟩)
    go_ret
    exact ⟨by rw [hE.out]; rfl, Below.refl _ _⟩
end Go.Proofs.Ytiljppeamdoocaa
