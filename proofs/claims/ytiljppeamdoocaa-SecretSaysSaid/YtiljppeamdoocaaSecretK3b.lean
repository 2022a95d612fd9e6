/- SecretSays: the walk, way 3 of Join, Deal's arguments wrong. (Printed by wip/tools/gen_secret.py.) -/
import Derived.Test.YtiljppeamdoocaaSecM9
namespace Go.Proofs.Ytiljppeamdoocaa
open Go.RowKit

set_option maxRecDepth 100000 in
set_option maxHeartbeats 8000000 in
theorem secretSays_3b (p s : Int) (tape : List Int) (n : Int) (l : Pts) (nt nl : Nat) (ao bo : Option Addr) (ca cb : Nat) (w : World) (hp : (Lit.int .i64 p).wf = true) (hlt : tape.length = nt) (hll : l.length = nl) (h63 : nt * 8 ≤ 140737488351232) (h64 : nl ≤ 9223372036854775807) (hna : ao = none → nt = 0 ∧ ca = 0) (hcb : nl ≤ cb)
    (hT : Hid (Reads w ao (tape.map (Value.int .i64)))) (hL : Hid (Reads w bo (cells2 (l.map pV)))) (hj : ptsE p l = 0) (hj2 : 0 < nl) (hj3 : l.any (fun y => y.1 == 0) = true) (hd : dealE p s tape n ≠ 0) :
    Calls Try.prog 9 #[.int .i64 p, .int .i64 s, .slice ao nt ca, .int .i64 n, .slice bo nl cb] w fun e w' => e = .returned (.bool true) ∧ Below w.heap.size w w' := by
  obtain ⟨W0, hW0⟩ : ∃ W0, w.alloc (.cells #[.int .i64 p] 3) = W0 := ⟨_, rfl⟩
  have hb0 : Below w.heap.size w W0 := by rw [← hW0]; exact (Below.refl _ w).alloc (Nat.le_refl _) _
  have hbox0 : W0.heap[w.heap.size]? = some (.cells #[.int .i64 p] 3 (0, 0)) := by rw [← hW0]; exact heap_alloc_new w _
  have PB : Hid (∀ w', Below W0.heap.size W0 w' → w'.cell? ⟨w.heap.size, 0, none⟩ = some (.int .i64 p)) := fun w' hb => heap_cell ((hb.block _ (Array.getElem?_eq_some_iff.1 hbox0).1).trans hbox0) 0
  have fin : Hid (∀ w', Below W0.heap.size W0 w' → Below w.heap.size w w') := fun w' hb => hb0.trans (hb.mono hb0.size)
  have T0 := Lib.hid (hT.out.below hb0)
  have L0 := Lib.hid (hL.out.below hb0)
  have CD := Lib.hid (secret_Deal_bad p s tape n nt ao ca W0 hp hlt h63 hna T0 hd)
  have CJ := Lib.hid (fun w' (hb : Below W0.heap.size W0 w') => secret_Join' p l nl bo cb w' hp hll h64 hcb (L0.out.below hb))
  have CE := Lib.hid (fun w' (hb : Below W0.heap.size W0 w') => ref_PointsErr p l nl bo cb w' hp hll h64 (L0.out.below hb))
  have CFe := Lib.hid (fun w' => ref_FieldErr p w' hp)
  have CT := Lib.hid (fun w' (hb : Below W0.heap.size W0 w') => containsFunc_cap 54 (.pointer (some ⟨w.heap.size, 0, none⟩)) (fun x W => by go_simp) (outF p) tape ao ca w' (by rw [hlt]; omega) (T0.out.below hb) (fun x _ m => (law_out x p w.heap.size (w'.drewN m) (show World.cell? _ _ = _ from PB.out w' hb)).mono (by rintro e w2 ⟨rfl, rfl⟩; exact ⟨rfl, 0, rfl⟩)))
  rw [hlt] at CT
  have CF := Lib.hid (fun w' (hb : Below W0.heap.size W0 w') => containsFunc_pt 52 (fun x W => by go_simp) (fun y => y.1 == 0) l nl bo cb w' hll h64 (L0.out.below hb) (fun y _ W _ => law_zero y W))
  rw [hj3] at CF
  obtain ⟨j1, j2⟩ := join_ways3 hj (by rw [hll]; omega) hj3
  rw [j1, j2] at CJ
  rw [hj] at CE
  have z1 : ((nl : Int) == 0) = false := by simp; omega
  clear j1 j2 hj hj2 hj3
  have hw := deal_ways hd
  rw [hlt] at hw
  obtain ⟨d, hde⟩ : ∃ d, dealE p s tape n = d := ⟨_, rfl⟩
  obtain ⟨f0, hfe⟩ : ∃ f, fldE p = f := ⟨_, rfl⟩
  obtain ⟨a0, hae⟩ : ∃ a, tape.any (outF p) = a := ⟨_, rfl⟩
  rw [hde, hfe, hae] at hw
  rw [hde] at CD
  rw [hfe] at CFe
  rw [hae] at CT
  rw [← hW0] at CD CJ CE CT PB fin CF
  have kp : (w.alloc (.cells #[.int .i64 p] 3)).cell? ⟨w.heap.size, 0, none⟩ = some (.int .i64 p) := PB.out _ (Below.refl _ _)
  clear hd hde hfe hae hb0 hbox0 hW0 T0 L0 hp hlt hll hna
  rcases hw with ⟨rfl, rfl⟩ | ⟨rfl, h11, rfl⟩ | ⟨rfl, h11, rfl, e1 | ⟨e1, e2⟩ | ⟨e1, e2, e3⟩ | ⟨e1, e2, e3, e4⟩ | ⟨e1, e2, e3, e4, e5⟩ | ⟨e1, e2, e3, e4, e5, rfl⟩⟩
  all_goals
    try (have t1 : decide ((11 : Int) < nt) = true := by simp; omega)
    try (have t1 : decide ((11 : Int) < nt) = false := by simp; omega)
    go_enter Try.func9, Try.ntmps9
    go_wp2_with (first | (go_at_call 17; refine CD.out.mono ?_; rintro e w1 ⟨rfl, b1⟩; have q1 := PB.out _ b1) | (go_at_call 20; refine (CJ.out _ b1).mono ?_; rintro e w2 ⟨rfl, s2⟩; have b2 := b1.trans (s2.mono b1.size); have q2 := PB.out _ b2) | (go_at_call 48; refine (CE.out _ b2).mono ?_; rintro e w3 ⟨rfl, s3⟩; have b3 := b2.trans (s3.mono b2.size); have q3 := PB.out _ b3) | (go_at_call 51; refine (CF.out _ b3).mono ?_; rintro e w4 ⟨rfl, s4⟩; have b4 := b3.trans (s4.mono b3.size); have q4 := PB.out _ b4) | (go_at_call 38; refine (CFe.out _).mono ?_; rintro e w' ⟨rfl, rfl⟩) | (go_at_call 53; refine (CT.out _ b4).mono ?_; rintro e w' ⟨rfl, m6, rfl⟩; have b6 := below_drewN b4 m6; have q6 := PB.out _ b6))
    go_ret
    exact ⟨by simp, by first | exact fin.out _ b6 | exact fin.out _ b4⟩
end Go.Proofs.Ytiljppeamdoocaa
