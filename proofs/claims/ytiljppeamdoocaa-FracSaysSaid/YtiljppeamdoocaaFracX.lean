/- frac.right and frac.Of. -/
import Derived.Test.YtiljppeamdoocaaRows
import Derived.Test.YtiljppeamdoocaaFracM
import Derived.Test.YtiljppeamdoocaaClipI
import Derived.Test.YtiljppeamdoocaaFracW
import Derived.RegionTactic
namespace Go.Proofs.Ytiljppeamdoocaa
open Go.RowKit

def rgB (P Q : Int) : Bool := decide (1 ≤ Q) && (decide (Q ≤ 1000000) && (decide (0 ≤ P) && decide (P ≤ 1000000)))
theorem rgB_iff {P Q : Int} : rgB P Q = true ↔ 1 ≤ Q ∧ Q ≤ 1000000 ∧ 0 ≤ P ∧ P ≤ 1000000 := by simp [rgB]
theorem below_alloc' (w : World) (o : Obj) : Below w.heap.size w (w.alloc o) := (Below.refl _ _).alloc (Nat.le_refl _) _
set_option maxRecDepth 20000 in
set_option maxHeartbeats 1000000 in
theorem frac_right (P Q : Int) (w : World) :
    Calls Try.prog 71 #[.agg #[.int .i64 P, .int .i64 Q]] w fun e w' => e = .returned (.bool (rgB P Q)) ∧ Below w.heap.size w w' := by
  have hb := Lib.hid (below_alloc' w (.cells #[.int .i64 P, .int .i64 Q] 23))
  unfold rgB
  go_enter Try.func71, Try.ntmps71
  cases d1 : decide (1 ≤ Q) with
  | false =>
    go_wp2_with fail
    go_ret
    exact ⟨rfl, hb.out⟩
  | true =>
    cases d2 : decide (Q ≤ 1000000) with
    | false =>
      go_wp2_with fail
      go_ret
      exact ⟨rfl, hb.out⟩
    | true =>
      cases d3 : decide (0 ≤ P) with
      | false =>
        go_wp2_with fail
        go_ret
        exact ⟨rfl, hb.out⟩
      | true =>
        cases d4 : decide (P ≤ 1000000) with
        | false =>
          go_wp2_with fail
          go_ret
          exact ⟨rfl, hb.out⟩
        | true =>
          go_wp2_with fail
          go_ret
          exact ⟨rfl, hb.out⟩
theorem own_set {w : World} {base e size : Nat} {v : Value} {n : Nat} {xs : List Value} (h : w.ownsRow base e size v n xs) {B j : Nat} (hB : B < base) (u : Value) : (w.setCell ⟨B, j, none⟩ u).ownsRow base e size v n xs := by
  refine ⟨h.1, ?_⟩
  rcases h.2 with hn | ⟨g, cap, cur, rfl, hbg, hg, rest⟩
  · exact .inl hn
  · exact .inr ⟨g, cap, cur, rfl, hbg, by rw [heap_set_far _ (by omega)]; exact hg, rest⟩
theorem i64Row : ElemRow Try.prog 3 (.int .i64 0) 1 8 := elemRow_of (by kernel_rfl) rfl (by omega)
def OfRet (zs : List Int) (w : World) (e : Ending) (w' : World) : Prop :=
  ∃ v, e = .returned (.tuple #[v, .int .i64 0]) ∧ (∃ ao, v = .slice ao zs.length zs.length ∧ Reads w' ao (zs.map (Value.int .i64))) ∧ Below w.heap.size w w'
set_option maxRecDepth 20000 in
set_option maxHeartbeats 1000000 in
theorem frac_Of_bad (P Q : Int) (w : World) (h : rgB P Q = false) :
    Calls Try.prog 12 #[.agg #[.int .i64 P, .int .i64 Q]] w fun e w' => e = .returned (.tuple #[.slice none 0 0, .int .i64 1]) ∧ Below w.heap.size w w' := by
  have HB := Lib.hid h
  have hb := Lib.hid (below_alloc' w (.cells #[.int .i64 P, .int .i64 Q] 23))
  clear h
  go_enter Try.func12, Try.ntmps12
  go_wp2_with (go_at_call 71; refine (frac_right P Q _).mono ?_; rw [HB.out]; rintro e w' ⟨rfl, hw'⟩)
  go_ret2
  exact ⟨rfl, hb.out.trans (hw'.mono hb.out.size)⟩
set_option maxRecDepth 20000 in
set_option maxHeartbeats 1000000 in
theorem frac_Of (P Q : Nat) (w : World) (h1 : 1 ≤ Q) (h2 : Q ≤ 1000000) (h3 : P ≤ 1000000) :
    Calls Try.prog 12 #[.agg #[.int .i64 P, .int .i64 Q]] w (OfRet (cfF (Q + 1) P Q) w) := by
  have HB : Hid (rgB P Q = true) := rgB_iff.2 ⟨by omega, by omega, by omega, by omega⟩
  have hb := Lib.hid (below_alloc' w (.cells #[.int .i64 P, .int .i64 Q] 23))
  go_enter Try.func12, Try.ntmps12
  go_wp2_with (go_at_call 71; refine (frac_right P Q _).mono ?_; rw [HB.out]; rintro e w' ⟨rfl, hw'⟩)
  have hrow0 : w'.heap[w.heap.size]? = some (.cells #[.int .i64 P, .int .i64 Q] 23 (0, 0)) := by
    rw [hw'.block _ (by simp)]
    exact heap_alloc_new w _
  have hbw := Lib.hid (hb.out.trans (hw'.mono hb.out.size))
  have hsz : Hid (w.heap.size + 1 ≤ w'.heap.size) := by
    show _ ≤ _
    have := hw'.size
    simpa using this
  have HR0 := Lib.hid hrow0
  clear hw' hrow0
  go_loopw [4] (fun vo wr => ∃ (out : List Int) (p q : Nat), Hid (CfAt P Q out p q) ∧ p ≤ 1000000 ∧ q ≤ 1000000 ∧ Hid (wr.ownsRow (w.heap.size + 1) 3 1 vo out.length (out.map (Value.int .i64))) ∧ Hid (wr.heap[w.heap.size]? = some (.cells #[.int .i64 p, .int .i64 q] 23 (0, 0))) ∧ Hid (Below w.heap.size w wr) ∧ Hid (w.heap.size + 1 ≤ wr.heap.size)) (fun _ wr => match wr.cell? ⟨w.heap.size, 1, none⟩ with | some (.int _ q) => q.toNat | _ => 0)
  case atStart => exact ⟨[], P, Q, CfAt.start P Q, by omega, by omega, World.ownsRow_nil _ _ _ _, HR0, hbw, hsz⟩
  case round =>
    obtain ⟨out, p, q, hcf, hp, hq, hrow, hbx, hbl, hsz2⟩ := hrel
    have c1 : wr.cell? ⟨w.heap.size, 0, none⟩ = some (.int .i64 p) := cell_of_row wr _ 0 _ _ _ hbx.out
    have c2 : wr.cell? ⟨w.heap.size, 1, none⟩ = some (.int .i64 q) := cell_of_row wr _ 1 _ _ _ hbx.out
    have hlen := hcf.out.len
    by_cases hq0 : 0 < q
    · have hqz : ¬ ((q : Int) = 0) := by omega
      have hqg : decide ((0 : Int) < q) = true := by simp; omega
      have hq1 := Nat.mod_lt p hq0
      obtain ⟨d, hd⟩ : ∃ d, p / q = d := ⟨_, rfl⟩
      obtain ⟨m, hm⟩ : ∃ m, p % q = m := ⟨_, rfl⟩
      have hdp : d ≤ p := by rw [← hd]; exact Nat.div_le_self p q
      have ed : (p : Int) / (q : Int) = (d : Int) := by rw [← hd]; rfl
      have em : Int.tmod (p : Int) (q : Int) = (m : Int) := by rw [← hm]; rfl
      have em2 : (p : Int) % (q : Int) = (m : Int) := by rw [← hm]; rfl
      have wd : IntKind.i64.wrap (d : Int) = d := IntWalk.i64_in _ (by omega)
      have wm : IntKind.i64.wrap (m : Int) = m := IntWalk.i64_in _ (by omega)
      rw [hm] at hq1
      have hst := Lib.hid (hcf.out.step hq0)
      rw [hd, hm] at hst
      clear hd hm
      go_wp2_with (at_builtin; go_must (refine app_one rfl (.tmp 11) (.tmp 17) _ rfl (w.heap.size + 1) 3 _ 1 8 Try.underlying24 i64Row u4 out.length (out.map (Value.int .i64)) (by rfl) hrow.out [.int .i64 (d : Int)] (by rfl) rfl (by intro u hu; simp at hu; subst hu; rfl) (by unfold maxLen; omega) (by omega) hsz2.out ?_); intro v2 w2 hown2 hgr2 hb3)
      have hbx2 : w2.heap[w.heap.size]? = some (.cells #[.int .i64 p, .int .i64 q] 23 (0, 0)) := by rw [hb3.block _ (by omega)]; exact hbx.out
      have c3 : w2.cell? ⟨w.heap.size, 0, none⟩ = some (.int .i64 p) := cell_of_row w2 _ 0 _ _ _ hbx2
      have c4 : w2.cell? ⟨w.heap.size, 1, none⟩ = some (.int .i64 q) := cell_of_row w2 _ 1 _ _ _ hbx2
      have f3 : w2.frozen? ⟨w.heap.size, 0, none⟩ = false := by simp [World.frozen?, hbx2]
      have f4 : w2.frozen? ⟨w.heap.size, 1, none⟩ = false := by simp [World.frozen?, hbx2]
      have hown3 := own_below (own_set (own_set hown2 (Nat.lt_succ_self w.heap.size) (j := 0) (.int .i64 q)) (Nat.lt_succ_self w.heap.size) (j := 1) (.int .i64 m)) (below_dr _ _ 1)
      have hbx3 : (((w2.setCell ⟨w.heap.size, 0, none⟩ (.int .i64 q)).setCell ⟨w.heap.size, 1, none⟩ (.int .i64 m)).drewN 1).heap[w.heap.size]? = some (.cells #[.int .i64 q, .int .i64 m] 23 (0, 0)) := by
        show ((w2.setCell ⟨w.heap.size, 0, none⟩ (.int .i64 q)).setCell ⟨w.heap.size, 1, none⟩ (.int .i64 m)).heap[w.heap.size]? = _
        rw [heap_set _ (heap_set _ hbx2)]; rfl
      have hbl3 : Below w.heap.size w (((w2.setCell ⟨w.heap.size, 0, none⟩ (.int .i64 q)).setCell ⟨w.heap.size, 1, none⟩ (.int .i64 m)).drewN 1) := below_drewN (below_set (below_set (hbl.out.trans (hb3.mono (by omega))) (Nat.le_refl _) _) (Nat.le_refl _) _) 1
      have HO3 : Hid ((((w2.setCell ⟨w.heap.size, 0, none⟩ (.int .i64 q)).setCell ⟨w.heap.size, 1, none⟩ (.int .i64 m)).drewN 1).ownsRow (w.heap.size + 1) 3 1 v2 (out ++ [(d : Int)]).length ((out ++ [(d : Int)]).map (Value.int .i64))) := by
        show World.ownsRow _ _ _ _ _ _ _
        rw [List.length_append, List.length_singleton, List.map_append]
        exact hown3
      have HB3 := Lib.hid hbx3
      have HL3 := Lib.hid hbl3
      have hs3 : Hid (w.heap.size + 1 ≤ (((w2.setCell ⟨w.heap.size, 0, none⟩ (.int .i64 q)).setCell ⟨w.heap.size, 1, none⟩ (.int .i64 m)).drewN 1).heap.size) := (Array.getElem?_eq_some_iff.1 hbx3).1
      clear c1 c2 hown3 hbx3 hbl3
      go_region
      go_wp2_with fail
      go_roundw
      case rel => exact ⟨out ++ [(d : Int)], q, m, hst, by omega, by omega, HO3, HB3, HL3, hs3⟩
      case measure =>
        have e1 : World.cell? ((w2.setCell ⟨w.heap.size, 0, none⟩ (.int .i64 q)).setCell ⟨w.heap.size, 1, none⟩ (.int .i64 m)).drew ⟨w.heap.size, 1, none⟩ = some (.int .i64 m) := cell_of_row _ _ 1 _ _ _ HB3.out
        have e2 : wr.cell? ⟨w.heap.size, 1, none⟩ = some (.int .i64 q) := cell_of_row wr _ 1 _ _ _ hbx.out
        rw [e1, e2]
        simp
        omega
    · obtain rfl : q = 0 := by omega
      have hz := hcf.out.done
      obtain ⟨ao, cap, hv, hR, hn2, hm2⟩ := own_reads hrow.out
      have hcap : out.length ≤ cap ∧ cap ≤ 9223372036854775807 := by
        rcases hrow.out.2 with ⟨hn, hx⟩ | ⟨g, cp, cur, hv3, h2⟩
        · rw [hn] at hv
          injection hv with e1 e2 e3
          omega
        · rw [hv3] at hv
          injection hv with e1 e2 e3
          have := h2.2.2.1
          have := h2.2.2.2.1
          unfold maxLen at *
          omega
      have HRd := Lib.hid hR
      have hfin : Hid (OfRet (cfF (Q + 1) P Q) w (.returned (.tuple #[.slice ao out.length out.length, .int .i64 0])) wr) := by
        refine ⟨_, rfl, ⟨ao, by rw [← hz], by rw [← hz]; exact hR⟩, hbl.out⟩
      subst hv
      obtain ⟨hc1, hc2⟩ := hcap
      clear hz hR hn2 hm2
      go_wp2_with (go_at_call 72; refine (clip_int ao out.length cap _ hc2 hc1).mono ?_; rintro e w' ⟨rfl, rfl⟩)
      go_ret2
      exact hfin.out
end Go.Proofs.Ytiljppeamdoocaa
